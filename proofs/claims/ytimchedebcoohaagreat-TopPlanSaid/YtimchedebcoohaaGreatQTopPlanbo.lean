/- Contracts and lemmas for the proof of TopPlan; each theorem states its own conditions. -/
import Derived.Test.YtimchedebcoohaaGreatQTopPlanbj
import Derived.Test.YtimchedebcoohaaGreatQTopPlanbc
import Derived.Shelf.Sort.Plain
import Derived.Shelf.Slices.Turned
import Derived.Ground.Names2Prog
import Derived.Shelf.Slices.CompactI
import Derived.Shelf.Slices.In.SortNone
import Derived.Shelf.Slices.Empties2
import Derived.Test.YtimchedebcoohaaGreatProg
import Derived.Test.YtimchedebcoohaaGreatQTopPlanaa
import Derived.Test.YtimchedebcoohaaGreatQTopPlanbf
import Derived.Test.YtimchedebcoohaaGreatQTopPlanbh
import Derived.Test.YtimchedebcoohaaGreatQTopPlanas
import Derived.Test.YtimchedebcoohaaGreatQTopPlanbi
import Derived.Test.YtimchedebcoohaaGreatQTopPlanar
import Derived.Test.YtimchedebcoohaaGreatQTopPlanbg
set_option linter.unusedVariables false
set_option linter.unusedSimpArgs false
/- Contracts and lemmas for the proofs of this seat; each theorem states its own conditions. -/
namespace Go.Proofs.YtimchedebcoohaaGreat
open Go.RowKit
/-! rokeep.partsBegun -/
end Go.Proofs.YtimchedebcoohaaGreat

/- Contracts and lemmas for the proofs of this seat; each theorem states its own conditions. -/
namespace Go.Proofs.YtimchedebcoohaaGreat
open Go.RowKit
/-! what a turn of a box of parts leaves -/
end Go.Proofs.YtimchedebcoohaaGreat

/- Contracts and lemmas for the proofs of this seat; each theorem states its own conditions. -/
namespace Go.Proofs.YtimchedebcoohaaGreat
open Go.Shelf
end Go.Proofs.YtimchedebcoohaaGreat

/- Contracts and lemmas for the proofs of this seat; each theorem states its own conditions. -/
namespace Go.Proofs.YtimchedebcoohaaGreat
open Go.RowKit Go.Maps
/-! Free -/
theorem free1_any (x : Nat × Bool) (s b : Nat) (w : World) (hb : w.cell? ⟨b, 0, none⟩ = some (.int .i64 s)) : Calls Tryz.prog 107 #[.agg #[.int .i64 x.1, .bool x.2], .pointer (some ⟨b, 0, none⟩)] w fun e w' => e = .returned (.bool (decide (x.1 = s))) ∧ Ext w w' := by
  have xb := blk2 (heap_alloc_new w (.cells #[.int .i64 x.1, .bool x.2] 181))
  have hb' := ((Ext.refl w).alloc (.cells #[.int .i64 x.1, .bool x.2] 181)).cell hb
  by_cases h : x.1 = s
  · have hd : decide (x.1 = s) = true := by simp [h]
    have q : ((x.1 : Int) == (s : Int)) = true := by simp [h]
    rw [hd]
    clear h hd
    go_enter Tryz.func107, Tryz.ntmps107
    go_wp2
    go_ret
    exact ⟨rfl, (Ext.refl w).alloc _⟩
  · have hd : decide (x.1 = s) = false := by simp [h]
    have q : ((x.1 : Int) == (s : Int)) = false := by simp; omega
    rw [hd]
    clear h hd
    go_enter Tryz.func107, Tryz.ntmps107
    go_wp2
    go_ret
    exact ⟨rfl, (Ext.refl w).alloc _⟩
/-- the claims once s has gone from the keys of L' -/
def clF (A : List Ops) (g : Nat → Bool) (s : Nat) (L' : List ByteArray) (k : ByteArray) : Clm := if memB L' k = true then (clmTo A g k A.length).filter (fun c => !decide (c.1 = s)) else clmTo A g k A.length
theorem clF_nil (A : List Ops) (g : Nat → Bool) (s : Nat) : clF A g s [] = fun k => clmTo A g k A.length := by
  funext k; simp [clF, memB]
theorem clF_step (A : List Ops) (g : Nat → Bool) (s : Nat) (L' : List ByteArray) (key : ByteArray) : (fun k => if k = key then (clF A g s L' key).filter (fun c => !decide (c.1 = s)) else clF A g s L' k) = clF A g s (L' ++ [key]) := by
  funext k
  by_cases e : k = key
  · subst e
    have : memB (L' ++ [k]) k = true := memB_iff.2 (by simp)
    simp only [if_true, clF, this]
    split
    · simp [List.filter_filter]
    · rfl
  · have : memB (L' ++ [key]) k = memB L' k := by
      rw [Bool.eq_iff_iff, memB_iff, memB_iff]; simp [e]
    simp only [if_neg e, clF, this]
theorem clF_all (A : List Ops) (g : Nat → Bool) (s : Nat) (k : ByteArray) : clF A g s (tkL (A.getD s [])) k = clmTo A (goneW g s) k A.length := by
  unfold clF
  cases h : memB (tkL (A.getD s [])) k with
  | true => rw [if_pos rfl, clm_gone]
  | false =>
    rw [if_neg (by simp)]
    have : tchB (A.getD s []) k = false := by
      cases e : tchB (A.getD s []) k with
      | false => rfl
      | true => rw [memB_iff.2 ((tkL_mem _ k).2 e)] at h; cases h
    rw [clm_off this]
theorem tkL_len {d : Ops} (h : d.length ≤ 8) : (tkL d).length ≤ 32 := by
  have h1 := sortU_len (sortU (rds d) ++ sortU (wrs d))
  have h2 := sortU_len (rds d)
  have h3 := sortU_len (wrs d)
  have h4 := rds_len d d.length
  rw [List.take_of_length_le (Nat.le_refl _)] at h4
  rw [List.length_append] at h1
  unfold tkL; omega
theorem clF_len (A : List Ops) (g : Nat → Bool) (s : Nat) (L' : List ByteArray) (k : ByteArray) : (clF A g s L' k).length ≤ A.length := by
  have : ∀ n, (clmTo A g k n).length ≤ n := by
    intro n; induction n with
    | zero => simp [clmTo]
    | succ n ih => rw [clmTo, List.length_append]; unfold clm1; split <;> simp <;> omega
  have h1 := this A.length
  unfold clF
  split
  · exact Nat.le_trans (List.length_filter_le _ _) h1
  · exact h1
end Go.Proofs.YtimchedebcoohaaGreat

/- Contracts and lemmas for the proofs of this seat; each theorem states its own conditions. -/
namespace Go.Proofs.YtimchedebcoohaaGreat
open Go.RowKit Go.Shelf Go.Lib Go.Sort
/-! slices.Sort, slices.Compact at rows of texts of one's own; slices.Contains -/
/-- what slices.Sort makes of texts -/
def srtB (L : List ByteArray) : List (List UInt8) := (L.map fun k => k.data.toList).mergeSort fun x y => decide (x ≤ y)
theorem srtB_len (L : List ByteArray) : (srtB L).length = L.length := by simp [srtB, List.length_mergeSort]
theorem sort_own (B : Nat) (v : Value) (L : List ByteArray) (w : World) (ho : w.ownsRow B 9 1 v L.length (cS L)) (hn : L.length ≤ 1000000) :
    Calls Tryz.prog 110 #[v] w fun e w' => e = .returned (.tuple #[]) ∧ w'.ownsRow B 9 1 v (srtB L).length ((srtB L).map encStr) ∧ w.grownBy w' v.ownBlock := by
  by_cases h0 : L.length = 0
  · have hL : L = [] := List.eq_nil_of_length_eq_zero h0
    subst hL
    obtain ⟨a, c, rfl⟩ := own_form ho
    refine (Any.slices_Sort_string_none lays190 a c w).mono ?_
    rintro e w1 ⟨rfl, rfl⟩
    have : srtB [] = [] := by simp [srtB]
    rw [this]
    exact ⟨rfl, ho, World.grownBy.refl _ _⟩
  · obtain ⟨a, c, rfl⟩ := own_form ho
    obtain ⟨g, rfl, hg1, hg2, hg3, hg4⟩ := own_pos ho (by omega)
    rw [cS_enc] at ho
    have hl : (L.map fun k => k.data.toList).length = L.length := by simp
    have S1 := Any.slices_Sort_string lays190 g 0 c (L.map fun k => k.data.toList) w (holds_own ho) hg2 (by omega)
    have hls : (srtB L).length = L.length := srtB_len L
    have hH := holds_own ho
    rw [hl] at S1
    have PS := fun q => putRow_eq_setCells encStr w g 0 (L.map fun k => k.data.toList).toArray (srtB L) q hH (by rw [hls]; simp)
    refine S1.mono ?_
    rintro e w1 ⟨rfl, q, os, rfl⟩
    have := PS q
    unfold srtB at this
    rw [this]
    obtain ⟨ho1, hg'⟩ := own_puts ho (ys := (srtB L).map encStr) (by simpa using hls) q os
    rw [hls]
    exact ⟨rfl, ho1, hg'⟩
theorem compact_own (B : Nat) (v : Value) (M : List (List UInt8)) (w : World) (ho : w.ownsRow B 9 1 v M.length (M.map encStr)) (hn : M.length ≤ 1000000) :
    Calls Tryz.prog 111 #[v] w fun e w' => ∃ v', e = .returned v' ∧ w'.ownsRow B 9 1 v' (compact M).length ((compact M).map encStr) ∧ w.grownBy w' v.ownBlock ∧ v'.ownBlock = v.ownBlock := by
  by_cases h0 : M.length = 0
  · have hL : M = [] := List.eq_nil_of_length_eq_zero h0
    subst hL
    obtain ⟨a, c, rfl⟩ := own_form ho
    refine (Any.slices_Compact_string_empty lays194 a c w).mono ?_
    rintro e w1 ⟨rfl, rfl⟩
    have : compact ([] : List (List UInt8)) = [] := by simp [compact, compactUpTo]
    rw [this]
    exact ⟨_, rfl, ho, World.grownBy.refl _ _, rfl⟩
  · obtain ⟨a, c, rfl⟩ := own_form ho
    obtain ⟨g, rfl, hg1, hg2, hg3, hg4⟩ := own_pos ho (by omega)
    have hle := compact_length_le M
    have C1 := Any.slices_Compact_string lays194 g 0 c M w (holds_own ho) (by omega) (by omega)
    have hH := holds_own ho
    have PS := fun q => putRow_eq_setCells encStr w g 0 M.toArray (compact M ++ List.replicate (M.length - (compact M).length) []) q hH (by simp; omega)
    refine C1.mono ?_
    rintro e w1 ⟨rfl, q, rfl⟩
    rw [PS q]
    obtain ⟨ho2, hg2'⟩ := own_puts ho (ys := (compact M ++ List.replicate (M.length - (compact M).length) []).map encStr) (by simp; omega) q #[]
    rw [grow_empty] at ho2 hg2'
    have ho3 := own_shorter ho2 (m := (compact M).length) hle
    have et : ((compact M ++ List.replicate (M.length - (compact M).length) []).map encStr).take (compact M).length = (compact M).map encStr := by rw [List.map_append, List.take_left' (by simp)]
    rw [et] at ho3
    exact ⟨_, rfl, ho3, hg2', rfl⟩
theorem contains_Str (v : Value) (L : List ByteArray) (w : World) (hv : Seg w v 1 L.length (cS L)) (k : ByteArray) :
    Calls Tryz.prog 122 #[v, .string k] w fun e w' => e = .returned (.bool (memB L k)) ∧ w' = w := conS_any v L k w hv
end Go.Proofs.YtimchedebcoohaaGreat

/- Contracts and lemmas for the proofs of this seat; each theorem states its own conditions. -/
namespace Go.Proofs.YtimchedebcoohaaGreat
open Go.RowKit Go.Maps
/-! an append to a row of claims in a region that draws its order -/
abbrev GK (v : Value) (n : Nat) (ns : List Value) : Nat → Option (Nat × List Value) := G2 v (n * 2) ns (.slice none 0 0) 0 []
theorem gk_none {v : Value} {n k : Nat} {ns : List Value} (h : v.ownBlock ≠ some k) : GK v n ns k = none := by
  unfold GK G2
  rw [if_neg h, if_neg (by simp [Value.ownBlock])]
theorem gk_grown {v : Value} {n : Nat} {ns : List Value} {w w' : World} (h : GF (GK v n ns) w w') : w.grownBy w' v.ownBlock :=
  ⟨h.1, h.2.1, h.2.2.1, h.2.2.2.1, fun k hk hne => by
    rcases h.2.2.2.2 k hk with e | ⟨_, _, _, _, e, _⟩
    · exact e
    · rw [gk_none (fun e' => hne e'.symm)] at e; cases e⟩
def AppK (G : Nat → Option (Nat × List Value)) (N B : Nat) (r : Value) (n : Nat) (xs : List Value) (v : Value) (w : World) : Prop :=
  OwnG G B 181 2 v n xs w ∧ ∀ k, v.ownBlock = some k → r.ownBlock = some k ∨ N ≤ k
theorem AppK.st {G : Nat → Option (Nat × List Value)} {N B n : Nat} {r v : Value} {xs : List Value} {w w' : World} (hF : GF G w w') (h : AppK G N B r n xs v w) : AppK G N B r n xs v w' := ⟨OwnG.st hF h.1, h.2⟩
theorem one_claim (z : Nat) (b : Bool) : ∀ u ∈ [Value.int .i64 (z : Int), Value.bool b], u.oneCell' = true := by
  intro u hu; simp at hu; rcases hu with rfl | rfl <;> rfl
theorem gk_own {v : Value} {n B : Nat} {ns xs : List Value} {w : World} (h : w.ownsRow B 181 2 v n xs) : OwnG (GK v n ns) B 181 2 v n xs w :=
  ⟨h, fun g hg o os ho => by rw [show GK v n ns g = some (n * 2, ns) from g2_fst g hg] at ho; injection ho with ho; injection ho with h1 h2; left; omega⟩
theorem gk_ne {v u : Value} {n m B e sz : Nat} {ns xs : List Value} {w w' : World} (hF : GF (GK v n ns) w w') (h : w.ownsRow B e sz u m xs) (hne : u.ownBlock = none ∨ u.ownBlock ≠ v.ownBlock) : w'.ownsRow B e sz u m xs := grown_own (gk_grown hF) h hne
theorem NewB.segK {N : Nat} {z : Nat} {bb : Bool} {v : Value} {w : World} (h : NewB N #[.int .i64 (z : Int), .bool bb] 181 1 v w) : Seg w v 2 1 [.int .i64 (z : Int), .bool bb] := by
  obtain ⟨b, rfl, h2, _⟩ := h
  exact seg_blk h2 rfl (Nat.le_refl _) (by unfold maxLen; omega)
/-- a turned and grown row of claims -/
theorem mid_app {wo w9 : World} {B bt bk bd : Nat} {A : List Ops} {g : Nat → Bool} {F : ByteArray → Option SV} {G : Int → Option SV} {Cl : ByteArray → Clm} {N X : Nat} {key : ByteArray} {l' : Clm} {ns : List Value} {v : Value} {n m : Nat} {xs : List Value} (h : LockG wo B bt bk bd A g F G Cl N X) (hF : GF (GK (svV ((F key).getD none)) n ns) wo w9)
    (ha : PR.Up (GF (GK (svV ((F key).getD none)) n ns)) wo w9 (AppK (GK (svV ((F key).getD none)) n ns) wo.heap.size B (svV ((F key).getD none)) m xs v)) (hm : m = l'.length) (hx : xs = cK l') : Mid wo B bt bk bd A g F G Cl N X key l' v w9 := by
  obtain ⟨a1, a2⟩ := ha.now (fun a b => AppK.st a b)
  subst hm; subst hx
  refine ⟨wo, h, gk_grown hF, a1.1, ?_, Ext.refl _⟩
  cases e : v.ownBlock with
  | none => right; intro k hk; cases hk
  | some b =>
    rcases a2 b e with e' | e'
    · exact .inl e'.symm
    · right; intro k hk; injection hk with hk; subst hk; exact e'
end Go.Proofs.YtimchedebcoohaaGreat
