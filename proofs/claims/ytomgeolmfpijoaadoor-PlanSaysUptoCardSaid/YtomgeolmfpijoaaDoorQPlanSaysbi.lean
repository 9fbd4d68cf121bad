/- Contracts and lemmas for the proof of PlanSays; each theorem states its own conditions. -/
import Derived.Shelf.Spec.SlicesInsert
import Derived.Shelf.Spec.SlicesInsertGrow
import Derived.Shelf.Slices.Turned
import Derived.Shelf.Slices.Empties2
import Derived.Ground.Names2Prog
import Derived.Test.YtomgeolmfpijoaaDoorProg
import Derived.Test.YtomgeolmfpijoaaDoorQPlanSaysaa
import Derived.Test.YtomgeolmfpijoaaDoorQPlanSaysab
import Derived.Test.YtomgeolmfpijoaaDoorQPlanSaysaq
import Derived.Test.YtomgeolmfpijoaaDoorQPlanSaysap
import Derived.Test.YtomgeolmfpijoaaDoorQPlanSaysax
import Derived.Test.YtomgeolmfpijoaaDoorQPlanSaysaz
set_option linter.unusedVariables false
set_option linter.unusedSimpArgs false
/- Contracts and lemmas for the proofs of this seat; each theorem states its own conditions. -/
namespace Go.Proofs.YtomgeolmfpijoaaDoor
open Go.Shelf
def lays2n22_ren : Go.Shelf.Ren := ⟨fun | 22 => 91 | 29 => 136 | 30 => 137 | 36 => 170 | 17 => 209 | n => n, fun | 24 => 26 | 9 => 9 | 3 => 3 | 4 => 4 | 0 => 0 | n => n, fun | n => n⟩
theorem lays2n22 : Go.Proofs.Lays2.n22 Tryd.prog lays2n22_ren := {
  mixed := by kernel_rfl
  f17 := Tryd.func209.trans (congrArg some (by kernel_rfl))
  f22 := Tryd.func91.trans (congrArg some (by kernel_rfl))
  f29 := Tryd.func136.trans (congrArg some (by kernel_rfl))
  f30 := Tryd.func137.trans (congrArg some (by kernel_rfl))
  f36 := Tryd.func170.trans (congrArg some (by kernel_rfl))
  t0 := Tryd.underlying0
  a0 := Tryd.isAgg0
  z0 := Tryd.sizeOf0
  v0 := Tryd.zeroValue0
  t3 := Tryd.underlying3
  a3 := Tryd.isAgg3
  z3 := Tryd.sizeOf3
  v3 := Tryd.zeroValue3
  t4 := Tryd.underlying4
  a4 := Tryd.isAgg4
  z4 := Tryd.sizeOf4
  v4 := Tryd.zeroValue4
  t9 := Tryd.underlying9
  a9 := Tryd.isAgg9
  z9 := Tryd.sizeOf9
  v9 := Tryd.zeroValue9
  t24 := Tryd.underlying26
  a24 := Tryd.isAgg26
  z24 := Tryd.sizeOf26
  v24 := Tryd.zeroValue26
  i9 := by kernel_rfl }
def lays2n21_ren : Go.Shelf.Ren := ⟨fun | 21 => 92 | 27 => 138 | 28 => 139 | 35 => 171 | 39 => 210 | n => n, fun | 22 => 22 | 3 => 3 | 4 => 4 | 0 => 0 | n => n, fun | n => n⟩
theorem lays2n21 : Go.Proofs.Lays2.n21 Tryd.prog lays2n21_ren := {
  mixed := by kernel_rfl
  f21 := Tryd.func92.trans (congrArg some (by kernel_rfl))
  f27 := Tryd.func138.trans (congrArg some (by kernel_rfl))
  f28 := Tryd.func139.trans (congrArg some (by kernel_rfl))
  f35 := Tryd.func171.trans (congrArg some (by kernel_rfl))
  f39 := Tryd.func210.trans (congrArg some (by kernel_rfl))
  t0 := Tryd.underlying0
  a0 := Tryd.isAgg0
  z0 := Tryd.sizeOf0
  v0 := Tryd.zeroValue0
  t3 := Tryd.underlying3
  a3 := Tryd.isAgg3
  z3 := Tryd.sizeOf3
  v3 := Tryd.zeroValue3
  t4 := Tryd.underlying4
  a4 := Tryd.isAgg4
  z4 := Tryd.sizeOf4
  v4 := Tryd.zeroValue4
  t22 := Tryd.underlying22
  a22 := Tryd.isAgg22
  z22 := Tryd.sizeOf22
  v22 := Tryd.zeroValue22
  i3 := by kernel_rfl }
def lays109_ren : Go.Shelf.Ren := ⟨fun | 109 => 99 | n => n, fun | 31 => 26 | 9 => 9 | 3 => 3 | 0 => 0 | 4 => 4 | n => n, fun | n => n⟩
theorem lays109 : Go.Proofs.Lays.n109 Tryd.prog lays109_ren := {
  mixed := by kernel_rfl
  f109 := Tryd.func99.trans (congrArg some (by kernel_rfl))
  t0 := Tryd.underlying0
  a0 := Tryd.isAgg0
  z0 := Tryd.sizeOf0
  v0 := Tryd.zeroValue0
  t3 := Tryd.underlying3
  a3 := Tryd.isAgg3
  z3 := Tryd.sizeOf3
  v3 := Tryd.zeroValue3
  t4 := Tryd.underlying4
  a4 := Tryd.isAgg4
  z4 := Tryd.sizeOf4
  v4 := Tryd.zeroValue4
  t9 := Tryd.underlying9
  a9 := Tryd.isAgg9
  z9 := Tryd.sizeOf9
  v9 := Tryd.zeroValue9
  t31 := Tryd.underlying26
  a31 := Tryd.isAgg26
  z31 := Tryd.sizeOf26
  v31 := Tryd.zeroValue26 }
def lays110_ren : Go.Shelf.Ren := ⟨fun | 110 => 40 | 109 => 99 | n => n, fun | 31 => 26 | 9 => 9 | 4 => 4 | 3 => 3 | 0 => 0 | n => n, fun | n => n⟩
theorem lays110 : Go.Proofs.Lays.n110 Tryd.prog lays110_ren := {
  mixed := by kernel_rfl
  f109 := Tryd.func99.trans (congrArg some (by kernel_rfl))
  f110 := Tryd.func40.trans (congrArg some (by kernel_rfl))
  t0 := Tryd.underlying0
  a0 := Tryd.isAgg0
  z0 := Tryd.sizeOf0
  v0 := Tryd.zeroValue0
  t3 := Tryd.underlying3
  a3 := Tryd.isAgg3
  z3 := Tryd.sizeOf3
  v3 := Tryd.zeroValue3
  t4 := Tryd.underlying4
  a4 := Tryd.isAgg4
  z4 := Tryd.sizeOf4
  v4 := Tryd.zeroValue4
  t9 := Tryd.underlying9
  a9 := Tryd.isAgg9
  z9 := Tryd.sizeOf9
  v9 := Tryd.zeroValue9
  t31 := Tryd.underlying26
  a31 := Tryd.isAgg26
  z31 := Tryd.sizeOf26
  v31 := Tryd.zeroValue26 }
end Go.Proofs.YtomgeolmfpijoaaDoor

/- Contracts and lemmas for the proofs of this seat; each theorem states its own conditions. -/
namespace Go.Proofs.YtomgeolmfpijoaaDoor
open Go.RowKit Go.Shelf
/-- is it on the list? -/
def conS (zs : List ByteArray) (x : ByteArray) : Bool := zs.any fun y => decide (y = x)
theorem conS_eq (zs : List ByteArray) (x : ByteArray) : Lib.containsS zs x = conS zs x := by
  rw [Bool.eq_iff_iff, Lib.containsS_iff, conS, List.any_eq_true]
  exact ⟨fun h => ⟨x, h, by simp⟩, fun ⟨y, h, e⟩ => by simp at e; exact e ▸ h⟩
theorem conS_yes {zs : List ByteArray} {x : ByteArray} (h : x ∈ zs) : conS zs x = true := by
  rw [← conS_eq, Lib.containsS_iff]; exact h
theorem conS_no {zs : List ByteArray} {x : ByteArray} (h : x ∉ zs) : conS zs x = false := by
  cases hc : conS zs x with
  | false => rfl
  | true => rw [← conS_eq, Lib.containsS_iff] at hc; exact absurd hc h
theorem conS_any (v : Value) (zs : List ByteArray) (x : ByteArray) (w : World) (hv : Seg w v 1 zs.length (cS zs)) :
    Calls Tryd.prog 40 #[v, .string x] w fun e w' => e = .returned (.bool (conS zs x)) ∧ w' = w := by
  obtain ⟨h0, a, cap, rfl, h1, h2, h3⟩ := hv
  have hn : zs.length ≤ cap := h1
  unfold maxLen at h2
  rcases Nat.eq_zero_or_pos zs.length with h | h
  · obtain rfl := List.eq_nil_of_length_eq_zero h
    rw [conS_no (by simp)]
    exact Any.slices_Contains_string_empty lays110 a cap x w
  · obtain ⟨b, off, rfl, hc⟩ := h3 h
    have := Any.slices_Contains_string lays110 b off zs.length cap zs x w (Nat.le_refl _) (by omega) (fun j hj => by
      have := hc j _ (cS_at0 zs j hj)
      rw [this]; simp [hj])
    rw [List.take_of_length_le (Nat.le_refl _), conS_eq] at this
    exact this
end Go.Proofs.YtomgeolmfpijoaaDoor

/- Contracts and lemmas for the proofs of this seat; each theorem states its own conditions. -/
namespace Go.Proofs.YtomgeolmfpijoaaDoor
open Go.RowKit Go.Shelf Go.Lib Go.Sort
/-! slices.Sort, slices.Compact at rows of texts of one's own; slices.Contains -/
/-- what slices.Sort makes of texts -/
def srtB (L : List ByteArray) : List (List UInt8) := (L.map fun k => k.data.toList).mergeSort fun x y => decide (x ≤ y)
theorem srtB_len (L : List ByteArray) : (srtB L).length = L.length := by simp [srtB, List.length_mergeSort]
theorem sortU_srtB (L : List ByteArray) : (compact (srtB L)).map ofL = sortU L := rfl
theorem sort_own (B : Nat) (v : Value) (L : List ByteArray) (w : World) (ho : w.ownsRow B 9 1 v L.length (cS L)) (hn : L.length ≤ 1000000) :
    Calls Tryd.prog 104 #[v] w fun e w' => e = .returned (.tuple #[]) ∧ w'.ownsRow B 9 1 v (srtB L).length ((srtB L).map encStr) ∧ w.grownBy w' v.ownBlock := by
  by_cases h0 : L.length = 0
  · have hL : L = [] := List.eq_nil_of_length_eq_zero h0
    subst hL
    obtain ⟨a, c, rfl⟩ := own_form ho
    refine (Any.slices_Sort_string_none lays190 a c w).mono ?_
    rintro e w1 ⟨rfl, rfl⟩
    have : srtB [] = [] := by simp [srtB]
    rw [this]
    exact ⟨rfl, ho, World.grownBy.refl _ _⟩
  · obtain ⟨a, c, rfl⟩ := own_form ho
    obtain ⟨g, rfl, hg1, hg2, hg3, hg4⟩ := own_pos ho (by omega)
    rw [cS_enc] at ho
    have hl : (L.map fun k => k.data.toList).length = L.length := by simp
    have S1 := Any.slices_Sort_string lays190 g 0 c (L.map fun k => k.data.toList) w (holds_own ho) hg2 (by omega)
    have hls : (srtB L).length = L.length := srtB_len L
    have hH := holds_own ho
    rw [hl] at S1
    have PS := fun q => putRow_eq_setCells encStr w g 0 (L.map fun k => k.data.toList).toArray (srtB L) q hH (by rw [hls]; simp)
    refine S1.mono ?_
    rintro e w1 ⟨rfl, q, os, rfl⟩
    have := PS q
    unfold srtB at this
    rw [this]
    obtain ⟨ho1, hg'⟩ := own_puts ho (ys := (srtB L).map encStr) (by simpa using hls) q os
    rw [hls]
    exact ⟨rfl, ho1, hg'⟩
theorem compact_own (B : Nat) (v : Value) (M : List (List UInt8)) (w : World) (ho : w.ownsRow B 9 1 v M.length (M.map encStr)) (hn : M.length ≤ 1000000) :
    Calls Tryd.prog 105 #[v] w fun e w' => ∃ v', e = .returned v' ∧ w'.ownsRow B 9 1 v' (compact M).length ((compact M).map encStr) ∧ w.grownBy w' v.ownBlock ∧ v'.ownBlock = v.ownBlock := by
  by_cases h0 : M.length = 0
  · have hL : M = [] := List.eq_nil_of_length_eq_zero h0
    subst hL
    obtain ⟨a, c, rfl⟩ := own_form ho
    refine (Any.slices_Compact_string_empty lays194 a c w).mono ?_
    rintro e w1 ⟨rfl, rfl⟩
    have : compact ([] : List (List UInt8)) = [] := by simp [compact, compactUpTo]
    rw [this]
    exact ⟨_, rfl, ho, World.grownBy.refl _ _, rfl⟩
  · obtain ⟨a, c, rfl⟩ := own_form ho
    obtain ⟨g, rfl, hg1, hg2, hg3, hg4⟩ := own_pos ho (by omega)
    have hle := compact_length_le M
    have C1 := Any.slices_Compact_string lays194 g 0 c M w (holds_own ho) (by omega) (by omega)
    have hH := holds_own ho
    have PS := fun q => putRow_eq_setCells encStr w g 0 M.toArray (compact M ++ List.replicate (M.length - (compact M).length) []) q hH (by simp; omega)
    refine C1.mono ?_
    rintro e w1 ⟨rfl, q, rfl⟩
    rw [PS q]
    obtain ⟨ho2, hg2'⟩ := own_puts ho (ys := (compact M ++ List.replicate (M.length - (compact M).length) []).map encStr) (by simp; omega) q #[]
    rw [grow_empty] at ho2 hg2'
    have ho3 := own_shorter ho2 (m := (compact M).length) hle
    have et : ((compact M ++ List.replicate (M.length - (compact M).length) []).map encStr).take (compact M).length = (compact M).map encStr := by rw [List.map_append, List.take_left' (by simp)]
    rw [et] at ho3
    exact ⟨_, rfl, ho3, hg2', rfl⟩
theorem contains_Str (v : Value) (L : List ByteArray) (w : World) (hv : Seg w v 1 L.length (cS L)) (k : ByteArray) :
    Calls Tryd.prog 40 #[v, .string k] w fun e w' => e = .returned (.bool (memB L k)) ∧ w' = w := conS_any v L k w hv
end Go.Proofs.YtomgeolmfpijoaaDoor

/- Contracts and lemmas for the proofs of this seat; each theorem states its own conditions. -/
namespace Go.Proofs.YtomgeolmfpijoaaDoor
open Go.RowKit Go.Maps
/-! an append to a row of claims in a region that draws its order -/
abbrev GK (v : Value) (n : Nat) (ns : List Value) : Nat → Option (Nat × List Value) := G2 v (n * 2) ns (.slice none 0 0) 0 []
theorem gk_none {v : Value} {n k : Nat} {ns : List Value} (h : v.ownBlock ≠ some k) : GK v n ns k = none := by
  unfold GK G2
  rw [if_neg h, if_neg (by simp [Value.ownBlock])]
theorem gk_grown {v : Value} {n : Nat} {ns : List Value} {w w' : World} (h : GF (GK v n ns) w w') : w.grownBy w' v.ownBlock :=
  ⟨h.1, h.2.1, h.2.2.1, h.2.2.2.1, fun k hk hne => by
    rcases h.2.2.2.2 k hk with e | ⟨_, _, _, _, e, _⟩
    · exact e
    · rw [gk_none (fun e' => hne e'.symm)] at e; cases e⟩
def AppK (G : Nat → Option (Nat × List Value)) (N B : Nat) (r : Value) (n : Nat) (xs : List Value) (v : Value) (w : World) : Prop :=
  OwnG G B 152 2 v n xs w ∧ ∀ k, v.ownBlock = some k → r.ownBlock = some k ∨ N ≤ k
theorem AppK.st {G : Nat → Option (Nat × List Value)} {N B n : Nat} {r v : Value} {xs : List Value} {w w' : World} (hF : GF G w w') (h : AppK G N B r n xs v w) : AppK G N B r n xs v w' := ⟨OwnG.st hF h.1, h.2⟩
theorem one_claim (z : Nat) (b : Bool) : ∀ u ∈ [Value.int .i64 (z : Int), Value.bool b], u.oneCell' = true := by
  intro u hu; simp at hu; rcases hu with rfl | rfl <;> rfl
theorem gk_own {v : Value} {n B : Nat} {ns xs : List Value} {w : World} (h : w.ownsRow B 152 2 v n xs) : OwnG (GK v n ns) B 152 2 v n xs w :=
  ⟨h, fun g hg o os ho => by rw [show GK v n ns g = some (n * 2, ns) from g2_fst g hg] at ho; injection ho with ho; injection ho with h1 h2; left; omega⟩
theorem gk_ne {v u : Value} {n m B e sz : Nat} {ns xs : List Value} {w w' : World} (hF : GF (GK v n ns) w w') (h : w.ownsRow B e sz u m xs) (hne : u.ownBlock = none ∨ u.ownBlock ≠ v.ownBlock) : w'.ownsRow B e sz u m xs := grown_own (gk_grown hF) h hne
theorem NewB.segK {N : Nat} {z : Nat} {bb : Bool} {v : Value} {w : World} (h : NewB N #[.int .i64 (z : Int), .bool bb] 152 1 v w) : Seg w v 2 1 [.int .i64 (z : Int), .bool bb] := by
  obtain ⟨b, rfl, h2, _⟩ := h
  exact seg_blk h2 rfl (Nat.le_refl _) (by unfold maxLen; omega)
/-- a turned and grown row of claims -/
theorem mid_app {wo w9 : World} {B bt bk bd : Nat} {A : List Ops} {g : Nat → Bool} {F : ByteArray → Option SV} {G : Int → Option SV} {Cl : ByteArray → Clm} {N X : Nat} {key : ByteArray} {l' : Clm} {ns : List Value} {v : Value} {n m : Nat} {xs : List Value} (h : LockG wo B bt bk bd A g F G Cl N X) (hF : GF (GK (svV ((F key).getD none)) n ns) wo w9)
    (ha : PR.Up (GF (GK (svV ((F key).getD none)) n ns)) wo w9 (AppK (GK (svV ((F key).getD none)) n ns) wo.heap.size B (svV ((F key).getD none)) m xs v)) (hm : m = l'.length) (hx : xs = cK l') : Mid wo B bt bk bd A g F G Cl N X key l' v w9 := by
  obtain ⟨a1, a2⟩ := ha.now (fun a b => AppK.st a b)
  subst hm; subst hx
  refine ⟨wo, h, gk_grown hF, a1.1, ?_, Ext.refl _⟩
  cases e : v.ownBlock with
  | none => right; intro k hk; cases hk
  | some b =>
    rcases a2 b e with e' | e'
    · exact .inl e'.symm
    · right; intro k hk; injection hk with hk; subst hk; exact e'
end Go.Proofs.YtomgeolmfpijoaaDoor
