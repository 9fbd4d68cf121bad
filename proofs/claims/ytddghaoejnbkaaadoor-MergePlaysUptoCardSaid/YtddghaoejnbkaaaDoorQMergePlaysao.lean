/- Contracts and lemmas for the proof of MergePlays; each theorem states its own conditions. -/
import Derived.Test.YtddghaoejnbkaaaDoorQMergePlaysaf
import Derived.Test.YtddghaoejnbkaaaDoorQMergePlaysah
import Derived.Test.YtddghaoejnbkaaaDoorQMergePlaysan
set_option linter.unusedVariables false
set_option linter.unusedSimpArgs false
/- Contracts and lemmas for the proofs of this seat; each theorem states its own conditions. -/
namespace Go.Proofs.YtddghaoejnbkaaaDoor
open Go.RowKit
variable {eB : Nat}
/-! merge.Copied, merge.plain -/
structure EntSeg (w : World) (e : EV) (x : Ent) : Prop where
  ops : Seg w e.1 4 x.ops.length (cO x.ops)
  im : e.2.1 = x.im
  cuts : Seg w e.2.2.1 1 x.cuts.length (cS x.cuts)
  own : Seg w e.2.2.2 1 x.own.length (cI x.own)
theorem EntSt.seg {w : World} {e : EV} {x : Ent} (h : EntSt eB w e x) : EntSeg w e x := ⟨own_seg h.ops, h.im, own_seg h.cuts, own_seg h.own⟩
theorem EntSeg.ext {w w' : World} {e : EV} {x : Ent} (h : EntSeg w e x) (E : Ext w w') : EntSeg w' e x := ⟨h.ops.ext E, h.im, h.cuts.ext E, h.own.ext E⟩
/-- an entry that is not too long -/
structure EntSm (x : Ent) : Prop where
  ops : x.ops.length ≤ 100
  cuts : x.cuts.length ≤ 100
  own : x.own.length ≤ 100
theorem blk4_set0 {w : World} {b : Nat} {x y z u : Value} {t : TypeId} (h : w.heap[b]? = some (.cells #[x, y, z, u] t (0, 0))) (x' : Value) :
    (w.setCell ⟨b, 0, none⟩ x').heap[b]? = some (.cells #[x', y, z, u] t (0, 0)) := by
  simp [World.setCell, Array.getElem?_modify, h]
theorem blk4_setA {w : World} {b : Nat} {x y z u : Value} {t : TypeId} (h : w.heap[b]? = some (.cells #[x, y, z, u] t (0, 0))) (x' y' z' u' : Value) :
    ((((w.setCell ⟨b, 0, none⟩ x').setCell ⟨b, 1, none⟩ y').setCell ⟨b, 2, none⟩ z').setCell ⟨b, 3, none⟩ u').heap[b]? = some (.cells #[x', y', z', u'] t (0, 0)) := by
  simp [World.setCell, Array.getElem?_modify, h]
theorem own_set4 {w : World} {B e sz n : Nat} {v : Value} {xs : List Value} (h : w.ownsRow B e sz v n xs) {p : Nat} (hp : p < B) (x y z u : Value) :
    ((((w.setCell ⟨p, 0, none⟩ x).setCell ⟨p, 1, none⟩ y).setCell ⟨p, 2, none⟩ z).setCell ⟨p, 3, none⟩ u).ownsRow B e sz v n xs :=
  own_set_far (own_set_far (own_set_far (own_set_far h hp) hp) hp) hp
theorem ent_set4 {w : World} {B e e' sz n p : Nat} {v : Value} {xs : List Value} {cs : Array Value} {fr : Nat × Nat} (h : w.ownsRow B e sz v n xs) (hb : w.heap[p]? = some (.cells cs e' fr)) (he : e ≠ e') (x y z u : Value) :
    ((((w.setCell ⟨p, 0, none⟩ x).setCell ⟨p, 1, none⟩ y).setCell ⟨p, 2, none⟩ z).setCell ⟨p, 3, none⟩ u).ownsRow B e sz v n xs := by
  have hne := own_ne h hb he
  exact own_set_other (own_set_other (own_set_other (own_set_other h hne x) hne y) hne z) hne u
theorem ext_set4 {w0 w : World} (E : Ext w0 w) {p : Nat} (hp : w0.heap.size ≤ p) (x y z u : Value) :
    Ext w0 ((((w.setCell ⟨p, 0, none⟩ x).setCell ⟨p, 1, none⟩ y).setCell ⟨p, 2, none⟩ z).setCell ⟨p, 3, none⟩ u) :=
  (((E.setCell hp _).setCell hp _).setCell hp _).setCell hp _
theorem blk4_set23 {w : World} {b : Nat} {x y z u : Value} {t : TypeId} (h : w.heap[b]? = some (.cells #[x, y, z, u] t (0, 0))) (z' u' : Value) :
    ((w.setCell ⟨b, 2, none⟩ z').setCell ⟨b, 3, none⟩ u').heap[b]? = some (.cells #[x, y, z', u'] t (0, 0)) := by
  simp [World.setCell, Array.getElem?_modify, h]
set_option maxRecDepth 100000 in
set_option maxHeartbeats 2000000 in
theorem ecopied_fresh (e : EV) (x : Ent) (w : World) (h : EntSeg w e x) (sm : EntSm x) (hB : eB ≤ w.heap.size) :
    Calls Tryd.prog 29 #[evV e] w fun r w' => ∃ e', r = .returned (evV e') ∧ EntSt eB w' e' x ∧ Ext w w' ∧ ∀ k, e'.1.ownBlock = some k → w.heap.size ≤ k := by
  obtain ⟨v1, b, v2, v3⟩ := e
  obtain ⟨h1, hb, h2, h3⟩ := h
  obtain ⟨s1, s2, s3⟩ := sm
  dsimp only at h1 hb h2 h3
  have HB := hid hb
  clear hb
  have b0 := heap_1 w (.cells #[v1, .bool b, v2, v3] 41) (.cells #[.slice none 0 0, .bool false, .slice none 0 0, .slice none 0 0] 41)
  have b1 := heap_2 w (.cells #[v1, .bool b, v2, v3] 41) (.cells #[.slice none 0 0, .bool false, .slice none 0 0, .slice none 0 0] 41)
  have E0 := ((Ext.refl w).alloc (.cells #[v1, .bool b, v2, v3] 41)).alloc (.cells #[.slice none 0 0, .bool false, .slice none 0 0, .slice none 0 0] 41)
  show Calls _ _ #[.agg #[v1, .bool b, v2, v3]] _ _
  go_enter Tryd.func29, Tryd.ntmps29
  go_wp2_with fail
  refine (clone_Op v1 x.ops.length (cO x.ops) _ (h1.ext E0) (cO_one _) (by omega)).mono ?_
  rintro r w1 ⟨a1, c1, rfl, ho1, E1⟩
  replace b0 := E1.heap b0
  replace b1 := E1.heap b1
  obtain ⟨f0, -, f2, f3⟩ := frz4 b0
  have k0 := (blk4 b0).1
  have g0 := blk4_set0 b0 (.slice a1 x.ops.length c1)
  have hs0 := E0.size'
  have hz0 : w.heap.size + 2 ≤ w1.heap.size := by have := E1.size'; simp at this; omega
  have EW : Ext w (w1.setCell ⟨w.heap.size, 0, none⟩ (.slice a1 x.ops.length c1)) := (E0.trans E1).setCell (Nat.le_refl _) _
  have hoW : (w1.setCell ⟨w.heap.size, 0, none⟩ (.slice a1 x.ops.length c1)).ownsRow (w.heap.size + 2) 71 4 (.slice a1 x.ops.length c1) x.ops.length (cO x.ops) := own_base (own_set_far ho1 (by first | (simp; done) | (simp; omega))) (by simp)
  have b1W : (w1.setCell ⟨w.heap.size, 0, none⟩ (.slice a1 x.ops.length c1)).heap[w.heap.size + 1]? = _ := heap_set_far b1 (by simp)
  have hsW : (w1.setCell ⟨w.heap.size, 0, none⟩ (.slice a1 x.ops.length c1)).heap.size = w1.heap.size := by simp
  obtain ⟨W, hW⟩ : ∃ W, w1.setCell ⟨w.heap.size, 0, none⟩ (.slice a1 x.ops.length c1) = W := ⟨_, rfl⟩
  rw [hW] at g0 EW hoW b1W hsW
  have c0 := blk4 g0
  clear b0 b1 ho1 E0 E1 hs0 h1
  go_wp2_with fail
  refine (copied_any (.agg #[v2, v3]) x.cuts x.own _ ⟨v2, v3, rfl, h2.ext EW, h3.ext EW⟩ (by omega) (by omega)).mono ?_
  rintro r w2 ⟨_, rfl, ⟨u2, u3, rfl, ho2, ho3⟩, E2⟩
  obtain ⟨a2, c2, rfl⟩ := own_form ho2
  obtain ⟨a3, c3, rfl⟩ := own_form ho3
  clear f0 k0 c0
  replace g0 := E2.heap g0
  replace b1W := E2.heap b1W
  replace hoW := own_ext hoW E2
  obtain ⟨-, -, f2, f3⟩ := frz4 g0
  have k0 := blk4 g0
  have g1 := blk4_set23 g0 (.slice a2 x.cuts.length c2) (.slice a3 x.own.length c3)
  have b2W : ((w2.setCell ⟨w.heap.size, 2, none⟩ (.slice a2 x.cuts.length c2)).setCell ⟨w.heap.size, 3, none⟩ (.slice a3 x.own.length c3)).heap[w.heap.size + 1]? = _ := heap_set_far (heap_set_far b1W (by simp)) (by simp)
  have o1 := own_set_far (p := ⟨w.heap.size, 3, none⟩) (u := (.slice a3 x.own.length c3)) (own_set_far (p := ⟨w.heap.size, 2, none⟩) (u := (.slice a2 x.cuts.length c2)) hoW (by first | (simp; done) | (simp; omega))) (by first | (simp; done) | (simp; omega))
  have o2 := own_set_far (p := ⟨w.heap.size, 3, none⟩) (u := (.slice a3 x.own.length c3)) (own_set_far (p := ⟨w.heap.size, 2, none⟩) (u := (.slice a2 x.cuts.length c2)) (own_base (B' := w.heap.size + 2) ho2 (by omega)) (by first | (simp; done) | (simp; omega))) (by first | (simp; done) | (simp; omega))
  have o3 := own_set_far (p := ⟨w.heap.size, 3, none⟩) (u := (.slice a3 x.own.length c3)) (own_set_far (p := ⟨w.heap.size, 2, none⟩) (u := (.slice a2 x.cuts.length c2)) (own_base (B' := w.heap.size + 2) ho3 (by omega)) (by first | (simp; done) | (simp; omega))) (by first | (simp; done) | (simp; omega))
  have EX : Ext w ((w2.setCell ⟨w.heap.size, 2, none⟩ (.slice a2 x.cuts.length c2)).setCell ⟨w.heap.size, 3, none⟩ (.slice a3 x.own.length c3)) := ((EW.trans E2).setCell (Nat.le_refl _) _).setCell (Nat.le_refl _) _
  obtain ⟨X, hX⟩ : ∃ X, (w2.setCell ⟨w.heap.size, 2, none⟩ (.slice a2 x.cuts.length c2)).setCell ⟨w.heap.size, 3, none⟩ (.slice a3 x.own.length c3) = X := ⟨_, rfl⟩
  rw [hX] at g1 b2W o1 o2 o3 EX
  have k1 := blk4 g1
  have d1 := blk4 b2W
  obtain ⟨e0, e1, e2, e3⟩ := frz4 b2W
  have b3 := blk4_setA b2W (.slice a1 x.ops.length c1) (.bool b) (.slice a2 x.cuts.length c2) (.slice a3 x.own.length c3)
  have o1' := own_set4 o1 (p := w.heap.size + 1) (by omega) (.slice a1 x.ops.length c1) (.bool b) (.slice a2 x.cuts.length c2) (.slice a3 x.own.length c3)
  have o2' := own_set4 o2 (p := w.heap.size + 1) (by omega) (.slice a1 x.ops.length c1) (.bool b) (.slice a2 x.cuts.length c2) (.slice a3 x.own.length c3)
  have o3' := own_set4 o3 (p := w.heap.size + 1) (by omega) (.slice a1 x.ops.length c1) (.bool b) (.slice a2 x.cuts.length c2) (.slice a3 x.own.length c3)
  clear g0 b1W hoW ho2 ho3 EW E2 h2 h3 hsW
  go_wp2
  have r4 := blk4 b3
  refine bodyPost_ret (v := .agg #[.slice a1 x.ops.length c1, .bool b, .slice a2 x.cuts.length c2, .slice a3 x.own.length c3]) (by simp [results, Tryd.results29, go_sem, r4.1, r4.2.1, r4.2.2.1, r4.2.2.2]) rfl
    ⟨(.slice a1 x.ops.length c1, b, .slice a2 x.cuts.length c2, .slice a3 x.own.length c3), rfl, ⟨own_base o1' (by omega), HB.out, own_base o2' (by omega), own_base o3' (by omega)⟩, ext_set4 EX (by omega) _ _ _ _, fun k hk => by have := own_ge o1' k hk; omega⟩
theorem ecopied_any (e : EV) (x : Ent) (w : World) (h : EntSeg w e x) (sm : EntSm x) (hB : eB ≤ w.heap.size) :
    Calls Tryd.prog 29 #[evV e] w fun r w' => ∃ e', r = .returned (evV e') ∧ EntSt eB w' e' x ∧ Ext w w' :=
  (ecopied_fresh e x w h sm hB).mono fun r w' ⟨e', h1, h2, h3, _⟩ => ⟨e', h1, h2, h3⟩
/-- what a merge keeps of an entry -/
def plainE (x : Ent) : Ent := if x.im = true then ⟨[], true, x.cuts, x.own⟩ else ⟨x.ops, false, [], []⟩
set_option maxRecDepth 100000 in
set_option maxHeartbeats 2000000 in
theorem eplain_any' (e : EV) (x : Ent) (w : World) (h : EntSeg w e x) (sm' : EntSm (plainE x)) (hB : eB ≤ w.heap.size) :
    Calls Tryd.prog 23 #[evV e] w fun r w' => ∃ e', r = .returned (evV e') ∧ EntSt eB w' e' (plainE x) ∧ Ext w w' := by
  obtain ⟨v1, b, v2, v3⟩ := e
  obtain ⟨h1, hb, h2, h3⟩ := h
  dsimp only at h1 hb h2 h3
  have b0 := heap_1 w (.cells #[v1, .bool b, v2, v3] 41) (.cells #[.slice none 0 0, .bool false, .slice none 0 0, .slice none 0 0] 41)
  have b1 := heap_2 w (.cells #[v1, .bool b, v2, v3] 41) (.cells #[.slice none 0 0, .bool false, .slice none 0 0, .slice none 0 0] 41)
  have E0 := ((Ext.refl w).alloc (.cells #[v1, .bool b, v2, v3] 41)).alloc (.cells #[.slice none 0 0, .bool false, .slice none 0 0, .slice none 0 0] 41)
  have k0 := blk4 b0
  have H : EntSeg ((w.alloc (.cells #[v1, .bool b, v2, v3] 41)).alloc (.cells #[.slice none 0 0, .bool false, .slice none 0 0, .slice none 0 0] 41)) (if x.im = true then (.slice none 0 0, true, v2, v3) else (v1, false, .slice none 0 0, .slice none 0 0)) (plainE x) := by
    unfold plainE
    split
    · exact ⟨Seg.nil _ _, rfl, h2.ext E0, h3.ext E0⟩
    · exact ⟨h1.ext E0, rfl, Seg.nil _ _, Seg.nil _ _⟩
  have C := ecopied_any (eB := eB) _ _ _ H sm' (Nat.le_trans hB E0.size')
  generalize plainE x = y at C ⊢
  rw [← hb] at C
  have C := hid C
  clear H hb h1 h2 h3 sm'
  show Calls _ _ #[.agg #[v1, .bool b, v2, v3]] _ _
  cases b with
  | true =>
    go_enter Tryd.func23, Tryd.ntmps23
    go_wp2_with fail
    refine (C.out).mono ?_
    rintro r w1 ⟨⟨a1, b1', a2, a3⟩, rfl, hE, E1⟩
    replace b1 := E1.heap b1
    obtain ⟨u1, u2, u3, u4⟩ := blk4 b1
    obtain ⟨e0, e1, e2, e3⟩ := frz4 b1
    obtain ⟨p1, q1, rfl⟩ := own_form hE.ops
    obtain ⟨p2, q2, rfl⟩ := own_form hE.cuts
    obtain ⟨p3, q3, rfl⟩ := own_form hE.own
    simp only [evV]
    go_wp2
    have hz : w.heap.size + 1 < w1.heap.size := (Array.getElem?_eq_some_iff.1 b1).1
    have b3 := blk4_setA b1 (.slice p1 y.ops.length q1) (.bool b1') (.slice p2 y.cuts.length q2) (.slice p3 y.own.length q3)
    have r4 := blk4 b3
    have hty : ∀ {B0 : Nat} {e : TypeId} {sz n : Nat} {v : Value} {xs : List Value}, w1.ownsRow B0 e sz v n xs → e ≠ 41 → ((((w1.setCell ⟨w.heap.size + 1, 0, none⟩ (.slice p1 y.ops.length q1)).setCell ⟨w.heap.size + 1, 1, none⟩ (.bool b1')).setCell ⟨w.heap.size + 1, 2, none⟩ (.slice p2 y.cuts.length q2)).setCell ⟨w.heap.size + 1, 3, none⟩ (.slice p3 y.own.length q3)).ownsRow B0 e sz v n xs := fun h he => ent_set4 h b1 he _ _ _ _
    refine bodyPost_ret (v := .agg #[(.slice p1 y.ops.length q1), (.bool b1'), (.slice p2 y.cuts.length q2), (.slice p3 y.own.length q3)]) (by simp [results, Tryd.results23, go_sem, r4.1, r4.2.1, r4.2.2.1, r4.2.2.2]) rfl
      ⟨(_, b1', _, _), rfl, ⟨hty hE.ops (by decide), hE.im, hty hE.cuts (by decide), hty hE.own (by decide)⟩, ext_set4 (E0.trans E1) (by omega) _ _ _ _⟩
  | false =>
    go_enter Tryd.func23, Tryd.ntmps23
    go_wp2_with fail
    refine (C.out).mono ?_
    rintro r w1 ⟨⟨a1, b1', a2, a3⟩, rfl, hE, E1⟩
    replace b1 := E1.heap b1
    obtain ⟨u1, u2, u3, u4⟩ := blk4 b1
    obtain ⟨e0, e1, e2, e3⟩ := frz4 b1
    obtain ⟨p1, q1, rfl⟩ := own_form hE.ops
    obtain ⟨p2, q2, rfl⟩ := own_form hE.cuts
    obtain ⟨p3, q3, rfl⟩ := own_form hE.own
    simp only [evV]
    go_wp2
    have hz : w.heap.size + 1 < w1.heap.size := (Array.getElem?_eq_some_iff.1 b1).1
    have b3 := blk4_setA b1 (.slice p1 y.ops.length q1) (.bool b1') (.slice p2 y.cuts.length q2) (.slice p3 y.own.length q3)
    have r4 := blk4 b3
    have hty : ∀ {B0 : Nat} {e : TypeId} {sz n : Nat} {v : Value} {xs : List Value}, w1.ownsRow B0 e sz v n xs → e ≠ 41 → ((((w1.setCell ⟨w.heap.size + 1, 0, none⟩ (.slice p1 y.ops.length q1)).setCell ⟨w.heap.size + 1, 1, none⟩ (.bool b1')).setCell ⟨w.heap.size + 1, 2, none⟩ (.slice p2 y.cuts.length q2)).setCell ⟨w.heap.size + 1, 3, none⟩ (.slice p3 y.own.length q3)).ownsRow B0 e sz v n xs := fun h he => ent_set4 h b1 he _ _ _ _
    refine bodyPost_ret (v := .agg #[(.slice p1 y.ops.length q1), (.bool b1'), (.slice p2 y.cuts.length q2), (.slice p3 y.own.length q3)]) (by simp [results, Tryd.results23, go_sem, r4.1, r4.2.1, r4.2.2.1, r4.2.2.2]) rfl
      ⟨(_, b1', _, _), rfl, ⟨hty hE.ops (by decide), hE.im, hty hE.cuts (by decide), hty hE.own (by decide)⟩, ext_set4 (E0.trans E1) (by omega) _ _ _ _⟩
theorem EntSm.plain {x : Ent} (sm : EntSm x) : EntSm (plainE x) := by
  unfold plainE
  split
  · exact ⟨by simp, sm.cuts, sm.own⟩
  · exact ⟨sm.ops, by simp, by simp⟩
end Go.Proofs.YtddghaoejnbkaaaDoor
