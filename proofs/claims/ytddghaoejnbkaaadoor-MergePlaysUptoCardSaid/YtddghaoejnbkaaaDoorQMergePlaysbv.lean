/- Contracts and lemmas for the proof of MergePlays; each theorem states its own conditions. -/
import Derived.Test.YtddghaoejnbkaaaDoorQMergePlaysar
import Derived.Test.YtddghaoejnbkaaaDoorQMergePlaysan
import Derived.Test.YtddghaoejnbkaaaDoorQMergePlaysbf
set_option linter.unusedVariables false
set_option linter.unusedSimpArgs false
/- Contracts and lemmas for the proofs of this seat; each theorem states its own conditions. -/
namespace Go.Proofs.YtddghaoejnbkaaaDoor
open Go.RowKit
/-! deeds in a row, opened; parts of them -/
theorem SegDs.form {w : World} {v : Value} {D : List Ops} (h : SegDs w v D) : ∃ a c, v = .slice a D.length c ∧ D.length ≤ c ∧ c ≤ maxLen ∧
    (0 < D.length → ∃ b off, a = some ⟨b, off, none⟩ ∧ ∀ (j : Nat) (d : Ops), D[j]? = some d → ∃ au cu, w.cell? ⟨b, off + j, none⟩ = some (.slice au d.length cu) ∧ Seg w (.slice au d.length cu) 4 d.length (cO d)) := by
  obtain ⟨vs, h1, ⟨_, a, c, rfl, h2, h3, h4⟩, h5⟩ := h
  refine ⟨a, c, by rw [h1], by omega, h3, fun h0 => ?_⟩
  obtain ⟨b, off, rfl, h6⟩ := h4 (by omega)
  refine ⟨b, off, rfl, fun j d hd => ?_⟩
  have hj := (List.getElem?_eq_some_iff.1 hd).1
  have hs := h5 j (vs[j]'(by omega)) d (List.getElem?_eq_getElem _) hd
  obtain ⟨au, cu, e⟩ := seg_form hs
  have hc := h6 j (vs[j]'(by omega)) (List.getElem?_eq_getElem _)
  rw [e] at hs hc
  exact ⟨au, cu, hc, hs⟩
theorem SegDs.mk' {w : World} {b off c : Nat} {D : List Ops} (hc : D.length ≤ c) (hm : c ≤ maxLen) (h : ∀ (j : Nat) (d : Ops), D[j]? = some d → ∃ au cu, w.cell? ⟨b, off + j, none⟩ = some (.slice au d.length cu) ∧ Seg w (.slice au d.length cu) 4 d.length (cO d)) : SegDs w (.slice (some ⟨b, off, none⟩) D.length c) D := by
  have each : ∀ j, j < D.length → ∃ u : Value, w.cell? ⟨b, off + j, none⟩ = some u ∧ Seg w u 4 (D.getD j []).length (cO (D.getD j [])) := fun j hj => by
    obtain ⟨au, cu, h1, h2⟩ := h j D[j] (List.getElem?_eq_getElem hj)
    refine ⟨_, h1, ?_⟩
    simp [hj]; exact h2
  have : ∃ f : Nat → Value, ∀ j, j < D.length → w.cell? ⟨b, off + j, none⟩ = some (f j) ∧ Seg w (f j) 4 (D.getD j []).length (cO (D.getD j [])) := by
    refine ⟨fun j => if hj : j < D.length then Classical.choose (each j hj) else .bool false, fun j hj => ?_⟩
    simp only [hj, dif_pos]
    exact Classical.choose_spec (each j hj)
  obtain ⟨f, hf⟩ := this
  refine ⟨(List.range D.length).map f, by simp, ⟨by simp, some ⟨b, off, none⟩, c, by simp, by simpa using hc, hm, fun _ => ⟨b, off, rfl, fun j u hu => ?_⟩⟩, fun i u d hu hd => ?_⟩
  · obtain ⟨hj, e⟩ := List.getElem?_eq_some_iff.1 hu
    simp at hj e
    subst e
    exact (hf j hj).1
  · obtain ⟨hj, e⟩ := List.getElem?_eq_some_iff.1 hu
    obtain ⟨hj', e'⟩ := List.getElem?_eq_some_iff.1 hd
    simp at hj e
    subst e; subst e'
    have := (hf i hj).2
    simpa [hj'] using this
theorem SegDs.take {w : World} {b off c k : Nat} {D : List Ops} (h : SegDs w (.slice (some ⟨b, off, none⟩) D.length c) D) (hk : k ≤ D.length) : SegDs w (.slice (some ⟨b, off, none⟩) k c) (D.take k) := by
  obtain ⟨a', c', e, h1, h2, h3⟩ := h.form
  injection e with e1 e2 e3
  subst e1; subst e3
  have hl : (D.take k).length = k := by rw [List.length_take]; omega
  have := SegDs.mk' (w := w) (b := b) (off := off) (c := c) (D := D.take k) (by omega) h2 (fun j d hd => by
    have hj := (List.getElem?_eq_some_iff.1 hd).1
    rw [List.getElem?_take, if_pos (by omega)] at hd
    obtain ⟨b', off', e, h4⟩ := h3 (by omega)
    injection e with e; injection e with e1 e2
    subst e1; subst e2
    exact h4 j d hd)
  rwa [hl] at this
theorem SegDs.drop {w : World} {b off c k : Nat} {D : List Ops} (h : SegDs w (.slice (some ⟨b, off, none⟩) D.length c) D) (hk : k ≤ D.length) : SegDs w (.slice (some ⟨b, off + k, none⟩) (D.length - k) (c - k)) (D.drop k) := by
  obtain ⟨a', c', e, h1, h2, h3⟩ := h.form
  injection e with e1 e2 e3
  subst e1; subst e3
  have hl : (D.drop k).length = D.length - k := by rw [List.length_drop]
  have := SegDs.mk' (w := w) (b := b) (off := off + k) (c := c - k) (D := D.drop k) (by omega) (by omega) (fun j d hd => by
    have hj := (List.getElem?_eq_some_iff.1 hd).1
    rw [List.getElem?_drop] at hd
    obtain ⟨b', off', e, h4⟩ := h3 (by omega)
    injection e with e; injection e with e1 e2
    subst e1; subst e2
    rw [Nat.add_assoc]
    exact h4 (k + j) d hd)
  rwa [hl] at this
theorem SegDs.nil (w : World) (a : Option Addr) (c : Nat) (hc : c ≤ maxLen) : SegDs w (.slice a 0 c) [] := ⟨[], rfl, ⟨rfl, a, c, rfl, Nat.zero_le _, hc, fun h => absurd h (by simp)⟩, fun i u d h => by simp at h⟩
end Go.Proofs.YtddghaoejnbkaaaDoor

/- Contracts and lemmas for the proofs of this seat; each theorem states its own conditions. -/
namespace Go.Proofs.YtddghaoejnbkaaaDoor
open Go.RowKit
/-! rolaw.at, rolaw.pick -/
set_option maxRecDepth 10000 in
theorem rat_any (v : Value) (l : List Int) (i : Int) (w : World) (hv : Seg w v 1 l.length (cI l)) (h0 : 0 ≤ i) :
    Calls Tryd.prog 8 #[v, .int .i64 i] w fun e w' => e = .returned (.int .i64 (l.getD i.toNat 0)) ∧ w' = w := by
  obtain ⟨_, a, c, rfl, h1, h2, h3⟩ := hv
  unfold maxLen at h2
  by_cases hi : i < (l.length : Int)
  · obtain ⟨b, off, rfl, hc⟩ := h3 (by omega)
    obtain ⟨k, rfl⟩ : ∃ k : Nat, i = (k : Int) := ⟨i.toNat, by omega⟩
    have hk : k < l.length := by omega
    have c1 := hc k _ (cI_at0 l k hk)
    have HZ := hid (show l.getD ((k : Int)).toNat 0 = l[k] by simp [hk])
    generalize l[k] = z at c1 HZ
    clear hc h3 h0
    go_enter Tryd.func8, Tryd.ntmps8
    go_wp2
    go_ret
    exact ⟨rI HZ.out.symm, rfl⟩
  · have HZ := hid (show l.getD i.toNat 0 = 0 by simp [List.getD, List.getElem?_eq_none (show l.length ≤ i.toNat by omega)])
    clear h3 h0
    go_enter Tryd.func8, Tryd.ntmps8
    go_wp2
    go_ret
    exact ⟨rI HZ.out.symm, rfl⟩
theorem wi_wrap (z : Int) {n : Nat} (hn : 0 < n) (hm : (n : Int) ≤ 9223372036854775807) : wrap64 ((IntKind.u64.wrap z).tmod (n : Int)) = wi z n := by
  have hl := wi_lo (k := z) (n := n) (by omega)
  have hh := wi_hi (k := z) (n := n) (by omega)
  have e : (IntKind.u64.wrap z).tmod (n : Int) = wi z n := by
    rw [IntKind.wrap_u64, Int.tmod_eq_emod_of_nonneg (by omega)]; rfl
  rw [e]; unfold wrap64; omega
end Go.Proofs.YtddghaoejnbkaaaDoor

/- Contracts and lemmas for the proofs of this seat; each theorem states its own conditions. -/
namespace Go.Proofs.YtddghaoejnbkaaaDoor
open Go.RowKit
/-! rolaw.pick at entries -/
def entZ0 : Ent := ⟨[], false, [], []⟩
def pickE (X : List Ent) (z : Int) : Ent := if X.length = 0 then entZ0 else X.getD (wi z X.length).toNat entZ0
theorem pickE_mem {X : List Ent} {z : Int} (Q : Ent → Prop) (h0 : Q entZ0) (h : ∀ x ∈ X, Q x) : Q (pickE X z) := by
  unfold pickE
  split
  · exact h0
  · rw [List.getD_eq_getElem?_getD]
    cases e : X[(wi z X.length).toNat]? with
    | none => exact h0
    | some y => exact h y (List.mem_of_getElem? e)
def PickR (w1 w : World) (x : Ent) (e : Ending) (w' : World) : Prop := ∃ y : EV, e = .returned (evV y) ∧ EntSeg w1 y x ∧ Ext w w'
set_option maxRecDepth 10000 in
set_option maxHeartbeats 2000000 in
theorem pickE_any (v : Value) (X : List Ent) (z : Int) (w1 w : World) (hv : EntsSeg w1 v X) (hE : Ext w1 w) :
    Calls Tryd.prog 9 #[v, .int .i64 z] w fun e w' => PickR w1 w (pickE X z) e w' := by
  obtain ⟨es, h1, h2, h3⟩ := hv
  obtain ⟨a, c, rfl⟩ := seg_form h2
  by_cases h0 : X.length = 0
  · have HP := hid (show pickE X z = entZ0 by unfold pickE; rw [if_pos h0])
    have q : ((X.length : Int) == 0) = true := by simp [h0]
    have b0 := blk4 (heap_1 w (.cells #[.slice none 0 0, .bool false, .slice none 0 0, .slice none 0 0] 41) (.cells #[.slice none 0 0, .bool false, .slice none 0 0, .slice none 0 0] 41))
    have E0 := ((Ext.refl w).alloc (.cells #[.slice none 0 0, .bool false, .slice none 0 0, .slice none 0 0] 41)).alloc (.cells #[.slice none 0 0, .bool false, .slice none 0 0, .slice none 0 0] 41)
    rw [HP.out]
    clear h0 h1 h2 h3
    go_enter Tryd.func9, Tryd.ntmps9
    go_wp2
    exact bodyPost_ret (v := .agg #[.slice none 0 0, .bool false, .slice none 0 0, .slice none 0 0]) (by simp [results, Tryd.results9, go_sem, b0.1, b0.2.1, b0.2.2.1, b0.2.2.2]) rfl ⟨(.slice none 0 0, false, .slice none 0 0, .slice none 0 0), rfl, ⟨Seg.nil _ _, rfl, Seg.nil _ _, Seg.nil _ _⟩, E0⟩
  · have hn : 0 < X.length := by omega
    obtain ⟨b, off, rfl, _, hc1, hc2, hc⟩ := seg_cells h2 hn
    unfold maxLen at hc2
    have hl := wi_lo (k := z) (n := X.length) (by omega)
    have hh := wi_hi (k := z) (n := X.length) (by omega)
    obtain ⟨k, hk⟩ : ∃ k : Nat, wi z X.length = (k : Int) := ⟨(wi z X.length).toNat, by omega⟩
    have hkl : k < X.length := by omega
    have hke : k < es.length := by omega
    have HP := hid (show pickE X z = X[k] by unfold pickE; rw [if_neg h0, hk]; simp [hkl])
    have WW := wi_wrap z hn (by omega)
    rw [hk] at WW
    have q : ((X.length : Int) == 0) = false := by simpa using h0
    have q2 : IntKind.u64.wrap (X.length : Int) = (X.length : Int) := by rw [IntKind.wrap_u64]; omega
    have q3 : ¬ (X.length : Int) = 0 := by omega
    obtain ⟨x0, x1, x2, x3⟩ := cEn_at es hke
    have c0 := hc _ _ x0
    have c1 := hc _ _ x1
    have c2 := hc _ _ x2
    have c3 := hc _ _ x3
    have hs := h3 k es[k] X[k] (List.getElem?_eq_getElem hke) (List.getElem?_eq_getElem hkl)
    rw [HP.out]
    generalize es[k] = e at c0 c1 c2 c3 hs
    generalize X[k] = x at hs ⊢
    obtain ⟨v1, bb, v2, v3⟩ := e
    obtain ⟨f1, g1, e1⟩ := seg_form hs.ops
    obtain ⟨f2, g2, e2⟩ := seg_form hs.cuts
    obtain ⟨f3, g3, e3⟩ := seg_form hs.own
    dsimp only at e1 e2 e3 c0 c1 c2 c3
    subst e1; subst e2; subst e3
    have E0 := ((Ext.refl w).alloc (.cells #[.slice none 0 0, .bool false, .slice none 0 0, .slice none 0 0] 41)).alloc (.cells #[.slice none 0 0, .bool false, .slice none 0 0, .slice none 0 0] 41)
    have d0 := E0.cell (hE.cell c0)
    have d1 := E0.cell (hE.cell c1)
    have d2 := E0.cell (hE.cell c2)
    have d3 := E0.cell (hE.cell c3)
    rw [← Nat.add_assoc] at d1 d2 d3
    have HS := hid hs
    have E1 := ((Ext.refl w).alloc (.cells #[.slice f1 x.ops.length g1, .bool bb, .slice f2 x.cuts.length g2, .slice f3 x.own.length g3] 41)).alloc (.cells #[.slice none 0 0, .bool false, .slice none 0 0, .slice none 0 0] 41)
    have b1 := blk4 (heap_1 w (.cells #[.slice f1 x.ops.length g1, .bool bb, .slice f2 x.cuts.length g2, .slice f3 x.own.length g3] 41) (.cells #[.slice none 0 0, .bool false, .slice none 0 0, .slice none 0 0] 41))
    have HE1 := hid E1
    have HB1 := hid b1
    clear hc h0 HP hl hh hk hs h1 h2 h3 x0 x1 x2 x3 c0 c1 c2 c3 E1 b1
    go_enter Tryd.func9, Tryd.ntmps9
    go_wp2
    obtain ⟨b1, b2, b3, b4⟩ := HB1.out
    exact bodyPost_ret (v := .agg #[.slice f1 x.ops.length g1, .bool bb, .slice f2 x.cuts.length g2, .slice f3 x.own.length g3]) (by simp [results, Tryd.results9, go_sem, b1, b2, b3, b4]) rfl ⟨(.slice f1 x.ops.length g1, bb, .slice f2 x.cuts.length g2, .slice f3 x.own.length g3), rfl, HS.out, HE1.out⟩
end Go.Proofs.YtddghaoejnbkaaaDoor
