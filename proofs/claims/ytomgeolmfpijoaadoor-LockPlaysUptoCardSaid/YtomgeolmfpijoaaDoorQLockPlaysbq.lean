/- Contracts and lemmas for the proof of LockPlays; each theorem states its own conditions. -/
import Derived.Test.YtomgeolmfpijoaaDoorQLockPlaysaz
import Derived.Test.YtomgeolmfpijoaaDoorQLockPlaysbm
import Derived.Test.YtomgeolmfpijoaaDoorQLockPlaysbo
import Derived.Test.YtomgeolmfpijoaaDoorQLockPlaysbe
import Derived.Test.YtomgeolmfpijoaaDoorQLockPlaysbh
set_option linter.unusedVariables false
set_option linter.unusedSimpArgs false
/- Contracts and lemmas for the proofs of this seat; each theorem states its own conditions. -/
namespace Go.Proofs.YtomgeolmfpijoaaDoor
open Go.RowKit
/-! rolaw.at, rolaw.pick -/
set_option maxRecDepth 10000 in
theorem rat_any (v : Value) (l : List Int) (i : Int) (w : World) (hv : Seg w v 1 l.length (cI l)) (h0 : 0 ≤ i) :
    Calls Tryd.prog 19 #[v, .int .i64 i] w fun e w' => e = .returned (.int .i64 (l.getD i.toNat 0)) ∧ w' = w := by
  obtain ⟨_, a, c, rfl, h1, h2, h3⟩ := hv
  unfold maxLen at h2
  by_cases hi : i < (l.length : Int)
  · obtain ⟨b, off, rfl, hc⟩ := h3 (by omega)
    obtain ⟨k, rfl⟩ : ∃ k : Nat, i = (k : Int) := ⟨i.toNat, by omega⟩
    have hk : k < l.length := by omega
    have c1 := hc k _ (cI_at0 l k hk)
    have HZ := hid (show l.getD ((k : Int)).toNat 0 = l[k] by simp [hk])
    generalize l[k] = z at c1 HZ
    clear hc h3 h0
    go_enter Tryd.func19, Tryd.ntmps19
    go_wp2
    go_ret
    exact ⟨rI HZ.out.symm, rfl⟩
  · have HZ := hid (show l.getD i.toNat 0 = 0 by simp [List.getD, List.getElem?_eq_none (show l.length ≤ i.toNat by omega)])
    clear h3 h0
    go_enter Tryd.func19, Tryd.ntmps19
    go_wp2
    go_ret
    exact ⟨rI HZ.out.symm, rfl⟩
def pickD (D : List Ops) (z : Int) : Ops := if D.length = 0 then [] else D.getD (wi z D.length).toNat []
theorem wi_wrap (z : Int) {n : Nat} (hn : 0 < n) (hm : (n : Int) ≤ 9223372036854775807) : wrap64 ((IntKind.u64.wrap z).tmod (n : Int)) = wi z n := by
  have hl := wi_lo (k := z) (n := n) (by omega)
  have hh := wi_hi (k := z) (n := n) (by omega)
  have e : (IntKind.u64.wrap z).tmod (n : Int) = wi z n := by
    rw [IntKind.wrap_u64, Int.tmod_eq_emod_of_nonneg (by omega)]; rfl
  rw [e]; unfold wrap64; omega
set_option maxRecDepth 10000 in
theorem pickD_any (vd : Value) (D : List Ops) (z : Int) (w1 w : World) (hvd : SegDs w1 vd D) (hE : Ext w1 w) :
    Calls Tryd.prog 44 #[vd, .int .i64 z] w fun e w' => ∃ a c, e = .returned (.agg #[.slice a (pickD D z).length c]) ∧ Seg w1 (.slice a (pickD D z).length c) 4 (pickD D z).length (cO (pickD D z)) ∧ Ext w w' := by
  obtain ⟨aD, cD, rfl, hc1, hc2, hcell⟩ := hvd.form
  unfold maxLen at hc2
  clear hvd
  by_cases h0 : D.length = 0
  · have HP := hid (show pickD D z = [] by unfold pickD; rw [if_pos h0])
    have q : ((D.length : Int) == 0) = true := by simp [h0]
    have b0 := cell_of_one (heap_1 w (.cells #[.slice none 0 0] 46) (.cells #[.slice none 0 0] 46))
    have E0 := ((Ext.refl w).alloc (.cells #[.slice none 0 0] 46)).alloc (.cells #[.slice none 0 0] 46)
    rw [HP.out]
    clear hcell h0
    go_enter Tryd.func44, Tryd.ntmps44
    go_wp2
    exact bodyPost_ret (v := .agg #[.slice none 0 0]) (by simp [results, Tryd.results44, go_sem, b0]) rfl ⟨none, 0, rfl, Seg.nil _ _, E0⟩
  · have hn : 0 < D.length := by omega
    obtain ⟨b, off, rfl, hc⟩ := hcell hn
    have hl := wi_lo (k := z) (n := D.length) (by omega)
    have hh := wi_hi (k := z) (n := D.length) (by omega)
    obtain ⟨k, hk⟩ : ∃ k : Nat, wi z D.length = (k : Int) := ⟨(wi z D.length).toNat, by omega⟩
    have hkl : k < D.length := by omega
    have HP := hid (show pickD D z = D[k] by unfold pickD; rw [if_neg h0, hk]; simp [hkl])
    have WW := wi_wrap z hn (by omega)
    rw [hk] at WW
    have q : ((D.length : Int) == 0) = false := by simpa using h0
    have q2 : IntKind.u64.wrap (D.length : Int) = (D.length : Int) := by rw [IntKind.wrap_u64]; omega
    have q3 : ¬ (D.length : Int) = 0 := by omega
    obtain ⟨au, cu, c1, s1⟩ := hc k D[k] (List.getElem?_eq_getElem hkl)
    rw [HP.out]
    generalize D[k] = d at c1 s1 ⊢
    have E0 := ((Ext.refl w).alloc (.cells #[.slice none 0 0] 46)).alloc (.cells #[.slice none 0 0] 46)
    have c2 := E0.cell (hE.cell c1)
    have b0 := cell_of_one (heap_1 w (.cells #[.slice none 0 0] 46) (.cells #[.slice none 0 0] 46))
    clear hc h0 HP hl hh hk
    go_enter Tryd.func44, Tryd.ntmps44
    go_wp2
    have E1 := ((Ext.refl w).alloc (.cells #[.slice au d.length cu] 46)).alloc (.cells #[.slice none 0 0] 46)
    have b1 := cell_of_one (heap_1 w (.cells #[.slice au d.length cu] 46) (.cells #[.slice none 0 0] 46))
    exact bodyPost_ret (v := .agg #[.slice au d.length cu]) (by simp [results, Tryd.results44, go_sem, b1]) rfl ⟨au, cu, rfl, s1, E1⟩
end Go.Proofs.YtomgeolmfpijoaaDoor

/- Contracts and lemmas for the proofs of this seat; each theorem states its own conditions. -/
namespace Go.Proofs.YtomgeolmfpijoaaDoor
open Go.RowKit Go.Maps
/-! Free -/
theorem free1_any (x : Nat × Bool) (s b : Nat) (w : World) (hb : w.cell? ⟨b, 0, none⟩ = some (.int .i64 s)) : Calls Tryd.prog 102 #[.agg #[.int .i64 x.1, .bool x.2], .pointer (some ⟨b, 0, none⟩)] w fun e w' => e = .returned (.bool (decide (x.1 = s))) ∧ Ext w w' := by
  have xb := blk2 (heap_alloc_new w (.cells #[.int .i64 x.1, .bool x.2] 152))
  have hb' := ((Ext.refl w).alloc (.cells #[.int .i64 x.1, .bool x.2] 152)).cell hb
  by_cases h : x.1 = s
  · have hd : decide (x.1 = s) = true := by simp [h]
    have q : ((x.1 : Int) == (s : Int)) = true := by simp [h]
    rw [hd]
    clear h hd
    go_enter Tryd.func102, Tryd.ntmps102
    go_wp2
    go_ret
    exact ⟨rfl, (Ext.refl w).alloc _⟩
  · have hd : decide (x.1 = s) = false := by simp [h]
    have q : ((x.1 : Int) == (s : Int)) = false := by simp; omega
    rw [hd]
    clear h hd
    go_enter Tryd.func102, Tryd.ntmps102
    go_wp2
    go_ret
    exact ⟨rfl, (Ext.refl w).alloc _⟩
theorem free_none {w : World} {B bt bk bd : Nat} {A : List Ops} {g : Nat → Bool} {F : ByteArray → Option SV} {G : Int → Option SV} (h : LockSt w B bt bk bd A g F G) (z : Int) (hz : -9223372036854775808 ≤ z ∧ z ≤ 9223372036854775807) (hno : ∀ n : Nat, z = (n : Int) → n < A.length → g n = true) :
    Calls Tryd.prog 43 #[.pointer (some ⟨bt, 0, none⟩), .int .i64 z] w fun e w' => e = .returned (.int .i64 4) ∧ Ext w w' := by
  have E0 := (Ext.refl w).alloc (.cells #[.int .i64 z] 3)
  have y1 := cell_of_one (heap_alloc_new w (.cells #[.int .i64 z] 3))
  have MN := hid (may_none (h.ext E0) z hz hno)
  go_enter Tryd.func43, Tryd.ntmps43
  go_wp2_with fail
  refine (MN.out).mono ?_
  rintro e w1 ⟨rfl, E1⟩
  go_wp2
  go_ret
  exact ⟨rfl, E0.trans E1⟩
theorem free_wait {w : World} {B bt bk bd : Nat} {A : List Ops} {g : Nat → Bool} {F : ByteArray → Option SV} {G : Int → Option SV} (h : LockSt w B bt bk bd A g F G) (s : Nat) (hs : s < A.length) (hg : g s = false) (hm : mayB A g s = false) :
    Calls Tryd.prog 43 #[.pointer (some ⟨bt, 0, none⟩), .int .i64 s] w fun e w' => e = .returned (.int .i64 6) ∧ Ext w w' := by
  have E0 := (Ext.refl w).alloc (.cells #[.int .i64 s] 3)
  have y1 := cell_of_one (heap_alloc_new w (.cells #[.int .i64 s] 3))
  have MN := may_ok (h.ext E0) s hs hg
  rw [hm] at MN
  have MN := hid MN
  clear hg hm
  go_enter Tryd.func43, Tryd.ntmps43
  go_wp2_with fail
  refine (MN.out).mono ?_
  rintro e w1 ⟨rfl, E1⟩
  go_wp2
  go_ret
  exact ⟨rfl, E0.trans E1⟩
/-- the claims once s has gone from the keys of L' -/
def clF (A : List Ops) (g : Nat → Bool) (s : Nat) (L' : List ByteArray) (k : ByteArray) : Clm := if memB L' k = true then (clmTo A g k A.length).filter (fun c => !decide (c.1 = s)) else clmTo A g k A.length
theorem clF_nil (A : List Ops) (g : Nat → Bool) (s : Nat) : clF A g s [] = fun k => clmTo A g k A.length := by
  funext k; simp [clF, memB]
theorem clF_step (A : List Ops) (g : Nat → Bool) (s : Nat) (L' : List ByteArray) (key : ByteArray) : (fun k => if k = key then (clF A g s L' key).filter (fun c => !decide (c.1 = s)) else clF A g s L' k) = clF A g s (L' ++ [key]) := by
  funext k
  by_cases e : k = key
  · subst e
    have : memB (L' ++ [k]) k = true := memB_iff.2 (by simp)
    simp only [if_true, clF, this]
    split
    · simp [List.filter_filter]
    · rfl
  · have : memB (L' ++ [key]) k = memB L' k := by
      rw [Bool.eq_iff_iff, memB_iff, memB_iff]; simp [e]
    simp only [if_neg e, clF, this]
theorem clF_all (A : List Ops) (g : Nat → Bool) (s : Nat) (k : ByteArray) : clF A g s (tkL (A.getD s [])) k = clmTo A (goneW g s) k A.length := by
  unfold clF
  cases h : memB (tkL (A.getD s [])) k with
  | true => rw [if_pos rfl, clm_gone]
  | false =>
    rw [if_neg (by simp)]
    have : tchB (A.getD s []) k = false := by
      cases e : tchB (A.getD s []) k with
      | false => rfl
      | true => rw [memB_iff.2 ((tkL_mem _ k).2 e)] at h; cases h
    rw [clm_off this]
theorem tkL_len {d : Ops} (h : d.length ≤ 8) : (tkL d).length ≤ 32 := by
  have h1 := sortU_len (sortU (rds d) ++ sortU (wrs d))
  have h2 := sortU_len (rds d)
  have h3 := sortU_len (wrs d)
  have h4 := rds_len d d.length
  rw [List.take_of_length_le (Nat.le_refl _)] at h4
  rw [List.length_append] at h1
  unfold tkL; omega
theorem clF_len (A : List Ops) (g : Nat → Bool) (s : Nat) (L' : List ByteArray) (k : ByteArray) : (clF A g s L' k).length ≤ A.length := by
  have : ∀ n, (clmTo A g k n).length ≤ n := by
    intro n; induction n with
    | zero => simp [clmTo]
    | succ n ih => rw [clmTo, List.length_append]; unfold clm1; split <;> simp <;> omega
  have h1 := this A.length
  unfold clF
  split
  · exact Nat.le_trans (List.length_filter_le _ _) h1
  · exact h1
end Go.Proofs.YtomgeolmfpijoaaDoor

/- Contracts and lemmas for the proofs of this seat; each theorem states its own conditions. -/
namespace Go.Proofs.YtomgeolmfpijoaaDoor
open Go.RowKit Go.Maps
/-! an append to a row of claims in a region that draws its order -/
abbrev GK (v : Value) (n : Nat) (ns : List Value) : Nat → Option (Nat × List Value) := G2 v (n * 2) ns (.slice none 0 0) 0 []
theorem gk_none {v : Value} {n k : Nat} {ns : List Value} (h : v.ownBlock ≠ some k) : GK v n ns k = none := by
  unfold GK G2
  rw [if_neg h, if_neg (by simp [Value.ownBlock])]
theorem gk_grown {v : Value} {n : Nat} {ns : List Value} {w w' : World} (h : GF (GK v n ns) w w') : w.grownBy w' v.ownBlock :=
  ⟨h.1, h.2.1, h.2.2.1, h.2.2.2.1, fun k hk hne => by
    rcases h.2.2.2.2 k hk with e | ⟨_, _, _, _, e, _⟩
    · exact e
    · rw [gk_none (fun e' => hne e'.symm)] at e; cases e⟩
def AppK (G : Nat → Option (Nat × List Value)) (N B : Nat) (r : Value) (n : Nat) (xs : List Value) (v : Value) (w : World) : Prop :=
  OwnG G B 152 2 v n xs w ∧ ∀ k, v.ownBlock = some k → r.ownBlock = some k ∨ N ≤ k
theorem AppK.st {G : Nat → Option (Nat × List Value)} {N B n : Nat} {r v : Value} {xs : List Value} {w w' : World} (hF : GF G w w') (h : AppK G N B r n xs v w) : AppK G N B r n xs v w' := ⟨OwnG.st hF h.1, h.2⟩
theorem one_claim (z : Nat) (b : Bool) : ∀ u ∈ [Value.int .i64 (z : Int), Value.bool b], u.oneCell' = true := by
  intro u hu; simp at hu; rcases hu with rfl | rfl <;> rfl
theorem gk_own {v : Value} {n B : Nat} {ns xs : List Value} {w : World} (h : w.ownsRow B 152 2 v n xs) : OwnG (GK v n ns) B 152 2 v n xs w :=
  ⟨h, fun g hg o os ho => by rw [show GK v n ns g = some (n * 2, ns) from g2_fst g hg] at ho; injection ho with ho; injection ho with h1 h2; left; omega⟩
theorem gk_ne {v u : Value} {n m B e sz : Nat} {ns xs : List Value} {w w' : World} (hF : GF (GK v n ns) w w') (h : w.ownsRow B e sz u m xs) (hne : u.ownBlock = none ∨ u.ownBlock ≠ v.ownBlock) : w'.ownsRow B e sz u m xs := grown_own (gk_grown hF) h hne
theorem NewB.segK {N : Nat} {z : Nat} {bb : Bool} {v : Value} {w : World} (h : NewB N #[.int .i64 (z : Int), .bool bb] 152 1 v w) : Seg w v 2 1 [.int .i64 (z : Int), .bool bb] := by
  obtain ⟨b, rfl, h2, _⟩ := h
  exact seg_blk h2 rfl (Nat.le_refl _) (by unfold maxLen; omega)
/-- a turned and grown row of claims -/
theorem mid_app {wo w9 : World} {B bt bk bd : Nat} {A : List Ops} {g : Nat → Bool} {F : ByteArray → Option SV} {G : Int → Option SV} {Cl : ByteArray → Clm} {N X : Nat} {key : ByteArray} {l' : Clm} {ns : List Value} {v : Value} {n m : Nat} {xs : List Value} (h : LockG wo B bt bk bd A g F G Cl N X) (hF : GF (GK (svV ((F key).getD none)) n ns) wo w9)
    (ha : PR.Up (GF (GK (svV ((F key).getD none)) n ns)) wo w9 (AppK (GK (svV ((F key).getD none)) n ns) wo.heap.size B (svV ((F key).getD none)) m xs v)) (hm : m = l'.length) (hx : xs = cK l') : Mid wo B bt bk bd A g F G Cl N X key l' v w9 := by
  obtain ⟨a1, a2⟩ := ha.now (fun a b => AppK.st a b)
  subst hm; subst hx
  refine ⟨wo, h, gk_grown hF, a1.1, ?_, Ext.refl _⟩
  cases e : v.ownBlock with
  | none => right; intro k hk; cases hk
  | some b =>
    rcases a2 b e with e' | e'
    · exact .inl e'.symm
    · right; intro k hk; injection hk with hk; subst hk; exact e'
end Go.Proofs.YtomgeolmfpijoaaDoor
