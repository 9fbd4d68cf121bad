/- Contracts and lemmas for the proof of TopPlan; each theorem states its own conditions. -/
import Derived.Test.YtimchedebcoohaaGreatQTopPlanae
import Derived.Test.YtimchedebcoohaaGreatQTopPlanaf
import Derived.Test.YtimchedebcoohaaGreatQTopPlanao
import Derived.Test.YtimchedebcoohaaGreatQTopPlanab
import Derived.Test.YtimchedebcoohaaGreatQTopPlanaa
import Derived.Test.YtimchedebcoohaaGreatProg
import Derived.Shelf.Abstract
import Derived.Test.YtimchedebcoohaaGreatQTopPlanam
import Derived.Maps.Own
import Derived.Maps.OwnOps
import Derived.Maps.RangeWalk
import Derived.Maps.Views
set_option linter.unusedVariables false
set_option linter.unusedSimpArgs false
/- Contracts and lemmas for the proofs of this seat; each theorem states its own conditions. -/
namespace Go.Proofs.YtimchedebcoohaaGreat
open Go.RowKit
variable {eB : Nat}
/-! merge.Copied, merge.plain -/
structure EntSeg (w : World) (e : EV) (x : Ent) : Prop where
  ops : Seg w e.1 4 x.ops.length (cO x.ops)
  im : e.2.1 = x.im
  cuts : Seg w e.2.2.1 1 x.cuts.length (cS x.cuts)
  own : Seg w e.2.2.2 1 x.own.length (cI x.own)
theorem EntSt.seg {w : World} {e : EV} {x : Ent} (h : EntSt eB w e x) : EntSeg w e x := ⟨own_seg h.ops, h.im, own_seg h.cuts, own_seg h.own⟩
theorem EntSeg.ext {w w' : World} {e : EV} {x : Ent} (h : EntSeg w e x) (E : Ext w w') : EntSeg w' e x := ⟨h.ops.ext E, h.im, h.cuts.ext E, h.own.ext E⟩
/-- an entry that is not too long -/
structure EntSm (x : Ent) : Prop where
  ops : x.ops.length ≤ 100
  cuts : x.cuts.length ≤ 100
  own : x.own.length ≤ 100
theorem blk4_set0 {w : World} {b : Nat} {x y z u : Value} {t : TypeId} (h : w.heap[b]? = some (.cells #[x, y, z, u] t (0, 0))) (x' : Value) :
    (w.setCell ⟨b, 0, none⟩ x').heap[b]? = some (.cells #[x', y, z, u] t (0, 0)) := by
  simp [World.setCell, Array.getElem?_modify, h]
theorem blk4_setA {w : World} {b : Nat} {x y z u : Value} {t : TypeId} (h : w.heap[b]? = some (.cells #[x, y, z, u] t (0, 0))) (x' y' z' u' : Value) :
    ((((w.setCell ⟨b, 0, none⟩ x').setCell ⟨b, 1, none⟩ y').setCell ⟨b, 2, none⟩ z').setCell ⟨b, 3, none⟩ u').heap[b]? = some (.cells #[x', y', z', u'] t (0, 0)) := by
  simp [World.setCell, Array.getElem?_modify, h]
theorem own_set4 {w : World} {B e sz n : Nat} {v : Value} {xs : List Value} (h : w.ownsRow B e sz v n xs) {p : Nat} (hp : p < B) (x y z u : Value) :
    ((((w.setCell ⟨p, 0, none⟩ x).setCell ⟨p, 1, none⟩ y).setCell ⟨p, 2, none⟩ z).setCell ⟨p, 3, none⟩ u).ownsRow B e sz v n xs :=
  own_set_far (own_set_far (own_set_far (own_set_far h hp) hp) hp) hp
theorem ent_set4 {w : World} {B e e' sz n p : Nat} {v : Value} {xs : List Value} {cs : Array Value} {fr : Nat × Nat} (h : w.ownsRow B e sz v n xs) (hb : w.heap[p]? = some (.cells cs e' fr)) (he : e ≠ e') (x y z u : Value) :
    ((((w.setCell ⟨p, 0, none⟩ x).setCell ⟨p, 1, none⟩ y).setCell ⟨p, 2, none⟩ z).setCell ⟨p, 3, none⟩ u).ownsRow B e sz v n xs := by
  have hne := own_ne h hb he
  exact own_set_other (own_set_other (own_set_other (own_set_other h hne x) hne y) hne z) hne u
theorem ext_set4 {w0 w : World} (E : Ext w0 w) {p : Nat} (hp : w0.heap.size ≤ p) (x y z u : Value) :
    Ext w0 ((((w.setCell ⟨p, 0, none⟩ x).setCell ⟨p, 1, none⟩ y).setCell ⟨p, 2, none⟩ z).setCell ⟨p, 3, none⟩ u) :=
  (((E.setCell hp _).setCell hp _).setCell hp _).setCell hp _
theorem blk4_set23 {w : World} {b : Nat} {x y z u : Value} {t : TypeId} (h : w.heap[b]? = some (.cells #[x, y, z, u] t (0, 0))) (z' u' : Value) :
    ((w.setCell ⟨b, 2, none⟩ z').setCell ⟨b, 3, none⟩ u').heap[b]? = some (.cells #[x, y, z', u'] t (0, 0)) := by
  simp [World.setCell, Array.getElem?_modify, h]
set_option maxRecDepth 100000 in
set_option maxHeartbeats 2000000 in
theorem ecopied_any (e : EV) (x : Ent) (w : World) (h : EntSeg w e x) (sm : EntSm x) (hB : eB ≤ w.heap.size) :
    Calls Tryz.prog 116 #[evV e] w fun r w' => ∃ e', r = .returned (evV e') ∧ EntSt eB w' e' x ∧ Ext w w' := by
  obtain ⟨v1, b, v2, v3⟩ := e
  obtain ⟨h1, hb, h2, h3⟩ := h
  obtain ⟨s1, s2, s3⟩ := sm
  dsimp only at h1 hb h2 h3
  have HB := hid hb
  clear hb
  have b0 := heap_1 w (.cells #[v1, .bool b, v2, v3] 94) (.cells #[.slice none 0 0, .bool false, .slice none 0 0, .slice none 0 0] 94)
  have b1 := heap_2 w (.cells #[v1, .bool b, v2, v3] 94) (.cells #[.slice none 0 0, .bool false, .slice none 0 0, .slice none 0 0] 94)
  have E0 := ((Ext.refl w).alloc (.cells #[v1, .bool b, v2, v3] 94)).alloc (.cells #[.slice none 0 0, .bool false, .slice none 0 0, .slice none 0 0] 94)
  show Calls _ _ #[.agg #[v1, .bool b, v2, v3]] _ _
  go_enter Tryz.func116, Tryz.ntmps116
  go_wp2_with fail
  refine (clone_Op v1 x.ops.length (cO x.ops) _ (h1.ext E0) (cO_one _) (by omega)).mono ?_
  rintro r w1 ⟨a1, c1, rfl, ho1, E1⟩
  replace b0 := E1.heap b0
  replace b1 := E1.heap b1
  obtain ⟨f0, -, f2, f3⟩ := frz4 b0
  have k0 := (blk4 b0).1
  have g0 := blk4_set0 b0 (.slice a1 x.ops.length c1)
  have hs0 := E0.size'
  have hz0 : w.heap.size + 2 ≤ w1.heap.size := by have := E1.size'; simp at this; omega
  have EW : Ext w (w1.setCell ⟨w.heap.size, 0, none⟩ (.slice a1 x.ops.length c1)) := (E0.trans E1).setCell (Nat.le_refl _) _
  have hoW : (w1.setCell ⟨w.heap.size, 0, none⟩ (.slice a1 x.ops.length c1)).ownsRow (w.heap.size + 2) 37 4 (.slice a1 x.ops.length c1) x.ops.length (cO x.ops) := own_base (own_set_far ho1 (by first | (simp; done) | (simp; omega))) (by simp)
  have b1W : (w1.setCell ⟨w.heap.size, 0, none⟩ (.slice a1 x.ops.length c1)).heap[w.heap.size + 1]? = _ := heap_set_far b1 (by simp)
  have hsW : (w1.setCell ⟨w.heap.size, 0, none⟩ (.slice a1 x.ops.length c1)).heap.size = w1.heap.size := by simp
  obtain ⟨W, hW⟩ : ∃ W, w1.setCell ⟨w.heap.size, 0, none⟩ (.slice a1 x.ops.length c1) = W := ⟨_, rfl⟩
  rw [hW] at g0 EW hoW b1W hsW
  have c0 := blk4 g0
  clear b0 b1 ho1 E0 E1 hs0 h1
  go_wp2_with fail
  refine (copied_any (.agg #[v2, v3]) x.cuts x.own _ ⟨v2, v3, rfl, h2.ext EW, h3.ext EW⟩ (by omega) (by omega)).mono ?_
  rintro r w2 ⟨_, rfl, ⟨u2, u3, rfl, ho2, ho3⟩, E2⟩
  obtain ⟨a2, c2, rfl⟩ := own_form ho2
  obtain ⟨a3, c3, rfl⟩ := own_form ho3
  clear f0 k0 c0
  replace g0 := E2.heap g0
  replace b1W := E2.heap b1W
  replace hoW := own_ext hoW E2
  obtain ⟨-, -, f2, f3⟩ := frz4 g0
  have k0 := blk4 g0
  have g1 := blk4_set23 g0 (.slice a2 x.cuts.length c2) (.slice a3 x.own.length c3)
  have b2W : ((w2.setCell ⟨w.heap.size, 2, none⟩ (.slice a2 x.cuts.length c2)).setCell ⟨w.heap.size, 3, none⟩ (.slice a3 x.own.length c3)).heap[w.heap.size + 1]? = _ := heap_set_far (heap_set_far b1W (by simp)) (by simp)
  have o1 := own_set_far (p := ⟨w.heap.size, 3, none⟩) (u := (.slice a3 x.own.length c3)) (own_set_far (p := ⟨w.heap.size, 2, none⟩) (u := (.slice a2 x.cuts.length c2)) hoW (by first | (simp; done) | (simp; omega))) (by first | (simp; done) | (simp; omega))
  have o2 := own_set_far (p := ⟨w.heap.size, 3, none⟩) (u := (.slice a3 x.own.length c3)) (own_set_far (p := ⟨w.heap.size, 2, none⟩) (u := (.slice a2 x.cuts.length c2)) (own_base (B' := w.heap.size + 2) ho2 (by omega)) (by first | (simp; done) | (simp; omega))) (by first | (simp; done) | (simp; omega))
  have o3 := own_set_far (p := ⟨w.heap.size, 3, none⟩) (u := (.slice a3 x.own.length c3)) (own_set_far (p := ⟨w.heap.size, 2, none⟩) (u := (.slice a2 x.cuts.length c2)) (own_base (B' := w.heap.size + 2) ho3 (by omega)) (by first | (simp; done) | (simp; omega))) (by first | (simp; done) | (simp; omega))
  have EX : Ext w ((w2.setCell ⟨w.heap.size, 2, none⟩ (.slice a2 x.cuts.length c2)).setCell ⟨w.heap.size, 3, none⟩ (.slice a3 x.own.length c3)) := ((EW.trans E2).setCell (Nat.le_refl _) _).setCell (Nat.le_refl _) _
  obtain ⟨X, hX⟩ : ∃ X, (w2.setCell ⟨w.heap.size, 2, none⟩ (.slice a2 x.cuts.length c2)).setCell ⟨w.heap.size, 3, none⟩ (.slice a3 x.own.length c3) = X := ⟨_, rfl⟩
  rw [hX] at g1 b2W o1 o2 o3 EX
  have k1 := blk4 g1
  have d1 := blk4 b2W
  obtain ⟨e0, e1, e2, e3⟩ := frz4 b2W
  have b3 := blk4_setA b2W (.slice a1 x.ops.length c1) (.bool b) (.slice a2 x.cuts.length c2) (.slice a3 x.own.length c3)
  have o1' := own_set4 o1 (p := w.heap.size + 1) (by omega) (.slice a1 x.ops.length c1) (.bool b) (.slice a2 x.cuts.length c2) (.slice a3 x.own.length c3)
  have o2' := own_set4 o2 (p := w.heap.size + 1) (by omega) (.slice a1 x.ops.length c1) (.bool b) (.slice a2 x.cuts.length c2) (.slice a3 x.own.length c3)
  have o3' := own_set4 o3 (p := w.heap.size + 1) (by omega) (.slice a1 x.ops.length c1) (.bool b) (.slice a2 x.cuts.length c2) (.slice a3 x.own.length c3)
  clear g0 b1W hoW ho2 ho3 EW E2 h2 h3 hsW
  go_wp2
  have r4 := blk4 b3
  refine bodyPost_ret (v := .agg #[.slice a1 x.ops.length c1, .bool b, .slice a2 x.cuts.length c2, .slice a3 x.own.length c3]) (by simp [results, Tryz.results116, go_sem, r4.1, r4.2.1, r4.2.2.1, r4.2.2.2]) rfl
    ⟨(.slice a1 x.ops.length c1, b, .slice a2 x.cuts.length c2, .slice a3 x.own.length c3), rfl, ⟨own_base o1' (Nat.zero_le _), HB.out, own_base o2' (Nat.zero_le _), own_base o3' (by omega)⟩, ext_set4 EX (by omega) _ _ _ _⟩
/-- what a merge keeps of an entry -/
def plainE (x : Ent) : Ent := if x.im = true then ⟨[], true, x.cuts, x.own⟩ else ⟨x.ops, false, [], []⟩
set_option maxRecDepth 100000 in
set_option maxHeartbeats 2000000 in
theorem eplain_any (e : EV) (x : Ent) (w : World) (h : EntSeg w e x) (sm : EntSm x) (hB : eB ≤ w.heap.size) :
    Calls Tryz.prog 88 #[evV e] w fun r w' => ∃ e', r = .returned (evV e') ∧ EntSt eB w' e' (plainE x) ∧ Ext w w' := by
  obtain ⟨v1, b, v2, v3⟩ := e
  obtain ⟨h1, hb, h2, h3⟩ := h
  dsimp only at h1 hb h2 h3
  have b0 := heap_1 w (.cells #[v1, .bool b, v2, v3] 94) (.cells #[.slice none 0 0, .bool false, .slice none 0 0, .slice none 0 0] 94)
  have b1 := heap_2 w (.cells #[v1, .bool b, v2, v3] 94) (.cells #[.slice none 0 0, .bool false, .slice none 0 0, .slice none 0 0] 94)
  have E0 := ((Ext.refl w).alloc (.cells #[v1, .bool b, v2, v3] 94)).alloc (.cells #[.slice none 0 0, .bool false, .slice none 0 0, .slice none 0 0] 94)
  have k0 := blk4 b0
  have H : EntSeg ((w.alloc (.cells #[v1, .bool b, v2, v3] 94)).alloc (.cells #[.slice none 0 0, .bool false, .slice none 0 0, .slice none 0 0] 94)) (if x.im = true then (.slice none 0 0, true, v2, v3) else (v1, false, .slice none 0 0, .slice none 0 0)) (plainE x) := by
    unfold plainE
    split
    · exact ⟨Seg.nil _ _, rfl, h2.ext E0, h3.ext E0⟩
    · exact ⟨h1.ext E0, rfl, Seg.nil _ _, Seg.nil _ _⟩
  have sm' : EntSm (plainE x) := by
    unfold plainE
    split
    · exact ⟨by simp, sm.cuts, sm.own⟩
    · exact ⟨sm.ops, by simp, by simp⟩
  have C := ecopied_any (eB := eB) _ _ _ H sm' (Nat.le_trans hB E0.size')
  generalize plainE x = y at C ⊢
  rw [← hb] at C
  have C := hid C
  clear H hb h1 h2 h3 sm sm'
  show Calls _ _ #[.agg #[v1, .bool b, v2, v3]] _ _
  cases b with
  | true =>
    go_enter Tryz.func88, Tryz.ntmps88
    go_wp2_with fail
    refine (C.out).mono ?_
    rintro r w1 ⟨⟨a1, b1', a2, a3⟩, rfl, hE, E1⟩
    replace b1 := E1.heap b1
    obtain ⟨u1, u2, u3, u4⟩ := blk4 b1
    obtain ⟨e0, e1, e2, e3⟩ := frz4 b1
    obtain ⟨p1, q1, rfl⟩ := own_form hE.ops
    obtain ⟨p2, q2, rfl⟩ := own_form hE.cuts
    obtain ⟨p3, q3, rfl⟩ := own_form hE.own
    simp only [evV]
    go_wp2
    have hz : w.heap.size + 1 < w1.heap.size := (Array.getElem?_eq_some_iff.1 b1).1
    have b3 := blk4_setA b1 (.slice p1 y.ops.length q1) (.bool b1') (.slice p2 y.cuts.length q2) (.slice p3 y.own.length q3)
    have r4 := blk4 b3
    have hty : ∀ {B0 : Nat} {e : TypeId} {sz n : Nat} {v : Value} {xs : List Value}, w1.ownsRow B0 e sz v n xs → e ≠ 94 → ((((w1.setCell ⟨w.heap.size + 1, 0, none⟩ (.slice p1 y.ops.length q1)).setCell ⟨w.heap.size + 1, 1, none⟩ (.bool b1')).setCell ⟨w.heap.size + 1, 2, none⟩ (.slice p2 y.cuts.length q2)).setCell ⟨w.heap.size + 1, 3, none⟩ (.slice p3 y.own.length q3)).ownsRow B0 e sz v n xs := fun h he => ent_set4 h b1 he _ _ _ _
    refine bodyPost_ret (v := .agg #[(.slice p1 y.ops.length q1), (.bool b1'), (.slice p2 y.cuts.length q2), (.slice p3 y.own.length q3)]) (by simp [results, Tryz.results88, go_sem, r4.1, r4.2.1, r4.2.2.1, r4.2.2.2]) rfl
      ⟨(_, b1', _, _), rfl, ⟨hty hE.ops (by decide), hE.im, hty hE.cuts (by decide), hty hE.own (by decide)⟩, ext_set4 (E0.trans E1) (by omega) _ _ _ _⟩
  | false =>
    go_enter Tryz.func88, Tryz.ntmps88
    go_wp2_with fail
    refine (C.out).mono ?_
    rintro r w1 ⟨⟨a1, b1', a2, a3⟩, rfl, hE, E1⟩
    replace b1 := E1.heap b1
    obtain ⟨u1, u2, u3, u4⟩ := blk4 b1
    obtain ⟨e0, e1, e2, e3⟩ := frz4 b1
    obtain ⟨p1, q1, rfl⟩ := own_form hE.ops
    obtain ⟨p2, q2, rfl⟩ := own_form hE.cuts
    obtain ⟨p3, q3, rfl⟩ := own_form hE.own
    simp only [evV]
    go_wp2
    have hz : w.heap.size + 1 < w1.heap.size := (Array.getElem?_eq_some_iff.1 b1).1
    have b3 := blk4_setA b1 (.slice p1 y.ops.length q1) (.bool b1') (.slice p2 y.cuts.length q2) (.slice p3 y.own.length q3)
    have r4 := blk4 b3
    have hty : ∀ {B0 : Nat} {e : TypeId} {sz n : Nat} {v : Value} {xs : List Value}, w1.ownsRow B0 e sz v n xs → e ≠ 94 → ((((w1.setCell ⟨w.heap.size + 1, 0, none⟩ (.slice p1 y.ops.length q1)).setCell ⟨w.heap.size + 1, 1, none⟩ (.bool b1')).setCell ⟨w.heap.size + 1, 2, none⟩ (.slice p2 y.cuts.length q2)).setCell ⟨w.heap.size + 1, 3, none⟩ (.slice p3 y.own.length q3)).ownsRow B0 e sz v n xs := fun h he => ent_set4 h b1 he _ _ _ _
    refine bodyPost_ret (v := .agg #[(.slice p1 y.ops.length q1), (.bool b1'), (.slice p2 y.cuts.length q2), (.slice p3 y.own.length q3)]) (by simp [results, Tryz.results88, go_sem, r4.1, r4.2.1, r4.2.2.1, r4.2.2.2]) rfl
      ⟨(_, b1', _, _), rfl, ⟨hty hE.ops (by decide), hE.im, hty hE.cuts (by decide), hty hE.own (by decide)⟩, ext_set4 (E0.trans E1) (by omega) _ _ _ _⟩
end Go.Proofs.YtimchedebcoohaaGreat

/- Contracts and lemmas for the proofs of this seat; each theorem states its own conditions. -/
namespace Go.Proofs.YtimchedebcoohaaGreat
open Go.RowKit
/-! slices.IndexFunc, slices.ContainsFunc: a closure by its contract -/
def firstI {α : Type} (p : α → Bool) : List α → Nat → Int
  | [], _ => -1
  | x :: l, i => if p x then (i : Int) else firstI p l (i + 1)
theorem firstI_hit {α : Type} {p : α → Bool} : ∀ {l : List α} {i k : Nat} (hk : k < l.length), (∀ j (h : j < k), p (l[j]'(by omega)) = false) → p l[k] = true → firstI p l i = ((i + k : Nat) : Int)
  | [], _, _, hk, _, _ => by simp at hk
  | x :: l, i, 0, _, _, h => by simp at h; simp [firstI, h]
  | x :: l, i, k + 1, hk, hj, h => by
    have h0 := hj 0 (by omega)
    simp at h0
    rw [firstI, if_neg (by simp [h0]), firstI_hit (k := k) (by simpa using hk) (fun j h' => by simpa using hj (j + 1) (by omega)) (by simpa using h)]
    congr 1; omega
theorem firstI_miss {α : Type} {p : α → Bool} : ∀ {l : List α} {i : Nat}, (∀ x ∈ l, p x = false) → firstI p l i = -1
  | [], _, _ => rfl
  | x :: l, i, h => by rw [firstI, if_neg (by simp [h x (by simp)]), firstI_miss fun y hy => h y (by simp [hy])]
theorem firstI_any {α : Type} {p : α → Bool} : ∀ {l : List α} {i : Nat}, (decide (0 ≤ firstI p l i)) = l.any p
  | [], _ => by simp [firstI]
  | x :: l, i => by
    rw [firstI, List.any_cons]
    cases h : p x with
    | true => simp
    | false => simp [firstI_any (l := l)]
theorem cS_at' (l : List ByteArray) (k : Nat) (hk : k < l.length) : (cS l)[k]? = some (.string l[k]) := by simp [cS, hk]
set_option maxRecDepth 10000 in
set_option maxHeartbeats 1000000 in
theorem indexF_Str (fn : Nat) (cs : Array Value) (hen : ∀ args w, (callFunc fn args).run Tryz.prog w = .ok (.enter fn args) w) (p : ByteArray → Bool) (v : Value) (L : List ByteArray) (w : World) (hv : Seg w v 1 L.length (cS L))
    (hc : ∀ x ∈ L, ∀ w', Ext w w' → Calls Tryz.prog fn (#[.string x] ++ cs) w' fun e w'' => e = .returned (.bool (p x)) ∧ Ext w' w'') :
    Calls Tryz.prog 141 #[v, .func (.func fn) #[] cs] w fun e w' => e = .returned (.int .i64 (firstI p L 0)) ∧ Ext w w' := by
  obtain ⟨h0, a, cap, rfl, h1, h2, h3⟩ := hv
  unfold maxLen at h2
  have H3 := hid h3
  have HC := hid hc
  clear h3 hc h0
  go_enter Tryz.func141, Tryz.ntmps141
  go_wp2
  go_loopw [5, 8] (fun _ i wr => ∃ k : Nat, k ≤ L.length ∧ i = .int .i64 k ∧ (∀ j (h : j < L.length), j < k → p L[j] = false) ∧ Ext w wr) (fun _ i _ => L.length - (intOf i).toNat)
  case atStart => exact ⟨0, Nat.zero_le _, rfl, fun j _ h => by omega, Ext.refl _⟩
  case round =>
    obtain ⟨k, hk, rfl, hn, E⟩ := hrel
    have HN := hid hn
    clear hn
    by_cases hlt : k < L.length
    · obtain ⟨b, off, rfl, hcell⟩ := H3.out (by omega)
      have x0 := E.cell (hcell k _ (cS_at' L k hlt))
      have C := HC.out L[k] (List.getElem_mem hlt) wr E
      have e0 : (#[Value.string L[k]] ++ cs) = (#[Value.string L[k]] ++ cs) := rfl
      cases hp : p L[k] with
      | true =>
        rw [hp] at C
        have C := hid C
        have hi : firstI p L 0 = (k : Int) := by
          have := firstI_hit (i := 0) hlt (fun j h' => HN.out j (by omega) h') hp
          simpa using this
        have HI := hid hi
        clear hi hcell e0
        go_wp2_with (first | (go_at_fn fn; refine (C.out).mono ?_; rintro e wa ⟨rfl, Ea⟩))
        go_ret
        exact ⟨rI HI.out.symm, E.trans Ea⟩
      | false =>
        rw [hp] at C
        have C := hid C
        have HP := hid hp
        clear hcell e0 hp
        go_wp2_with (first | (go_at_fn fn; refine (C.out).mono ?_; rintro e wa ⟨rfl, Ea⟩))
        go_roundw
        case rel => exact ⟨k + 1, by omega, by go_num, fun j hj h => by
          rcases Nat.lt_or_ge j k with h' | h'
          · exact HN.out j hj h'
          · have : j = k := by omega
            subst this; exact HP.out, E.trans Ea⟩
        case measure => simp [intOf]; omega
    · obtain rfl : k = L.length := by omega
      have hi : firstI p L 0 = -1 := firstI_miss fun x hx => by
        obtain ⟨j, hj, rfl⟩ := List.mem_iff_getElem.1 hx
        exact HN.out j hj hj
      have HI := hid hi
      clear hi
      go_wp2
      go_ret
      exact ⟨rI HI.out.symm, E⟩
set_option maxHeartbeats 1000000 in
theorem containsF_Str (fn : Nat) (cs : Array Value) (hen : ∀ args w, (callFunc fn args).run Tryz.prog w = .ok (.enter fn args) w) (p : ByteArray → Bool) (v : Value) (L : List ByteArray) (w : World) (hv : Seg w v 1 L.length (cS L))
    (hc : ∀ x ∈ L, ∀ w', Ext w w' → Calls Tryz.prog fn (#[.string x] ++ cs) w' fun e w'' => e = .returned (.bool (p x)) ∧ Ext w' w'') :
    Calls Tryz.prog 123 #[v, .func (.func fn) #[] cs] w fun e w' => e = .returned (.bool (L.any p)) ∧ Ext w w' := by
  have C := hid (indexF_Str fn cs hen p v L w hv hc)
  have HA := hid (firstI_any (p := p) (l := L) (i := 0))
  generalize firstI p L 0 = z at C HA
  clear hc hv
  go_enter Tryz.func123, Tryz.ntmps123
  go_wp2_with fail
  refine (C.out).mono ?_
  rintro e wa ⟨rfl, Ea⟩
  go_wp2
  go_ret
  exact ⟨rB (by rw [← HA.out]), Ea⟩
end Go.Proofs.YtimchedebcoohaaGreat

/- Contracts and lemmas for the proofs of this seat; each theorem states its own conditions. -/
namespace Go.Proofs.YtimchedebcoohaaGreat
open Go.RowKit
/-! Scan, Total -/
theorem cP_one1 (p : ByteArray × Int) : cP [p] = [.string p.1, .int .i64 p.2] := by simp [cP]
end Go.Proofs.YtimchedebcoohaaGreat

/- Contracts and lemmas for the proofs of this seat; each theorem states its own conditions. -/
namespace Go.Proofs.YtimchedebcoohaaGreat
open Go.RowKit Go.Maps
/-! maps of one's own, as plain functions -/
abbrev DU := DataW Unit
def kS (s : ByteArray) : Lit := .string s.data.toList
def kI (n : Int) : Lit := .int .i64 n
def dI (n : Int) : DU := .lit (.int .i64 n)
def dB (b : Bool) : DU := .lit (.bool b)
def okS (s : ByteArray) : Prop := s.size ≤ maxLen
def okI (n : Int) : Prop := (Lit.int .i64 n).wf = true
theorem kS_inj {a b : ByteArray} (h : kS a = kS b) : a = b := by
  unfold kS at h
  injection h with h
  exact toList_inj (by rw [toList_data, toList_data, h])
theorem kI_inj {a b : Int} (h : kI a = kI b) : a = b := by
  unfold kI at h; injection h
theorem dI_inj {a b : Int} (h : dI a = dI b) : a = b := by
  unfold dI at h; injection h with h; injection h
theorem kS_is (s : ByteArray) : WideAt.IsKeyLit (kS s) := trivial
theorem kI_is (s : Int) : WideAt.IsKeyLit (kI s) := trivial
/-- D holds what f says -/
def MapF {κ α : Type} (kl : κ → Lit) (ok : κ → Prop) (vd : α → DU) (D : DU) (f : κ → Option α) : Prop :=
  _root_.Go.Maps.IsMap D ∧ (∀ k a, f k = some a → ok k) ∧ ∀ k, ok k → (f k = none → has D (kl k) = false) ∧ ∀ a, f k = some a → has D (kl k) = true ∧ ∀ z, D.atKey (kl k) z = vd a
section
variable {κ α : Type} {kl : κ → Lit} {ok : κ → Prop} {vd : α → DU} {D : DU} {f : κ → Option α}
theorem MapF.empty : MapF kl ok vd (.map []) (fun _ => none) := ⟨isMap_empty, ⟨fun _ _ h => (by simp at h), fun _ _ => ⟨fun _ => rfl, fun _ h => (by simp at h)⟩⟩⟩
theorem MapF.put [DecidableEq κ] (h : MapF kl ok vd D f) (inj : ∀ {x y}, kl x = kl y → x = y) (is : ∀ x, WideAt.IsKeyLit (kl x)) {k : κ} (hk : ok k) (a : α) : MapF kl ok vd (D.put (kl k) (vd a)) (fun x => if x = k then some a else f x) := by
  obtain ⟨h1, h2, h3⟩ := h
  refine ⟨h1.put _ _, fun x b hb => ?_, fun x hx => ?_⟩
  · dsimp only at hb
    split at hb
    · rename_i e; subst e; exact hk
    · exact h2 x b hb
  · dsimp only
    by_cases e : x = k
    · subst e
      rw [if_pos rfl]
      refine ⟨fun q => (by cases q), fun b hb => ?_⟩
      injection hb with hb; subst hb
      exact ⟨has_put_same h1 (is _) _, fun z => atKey_put_same h1 (is _) _ z⟩
    · rw [if_neg e]
      have hne : kl x ≠ kl k := fun q => e (inj q)
      refine ⟨fun q => ?_, fun b hb => ?_⟩
      · rw [has_put_other hne]; exact (h3 x hx).1 q
      · obtain ⟨q1, q2⟩ := (h3 x hx).2 b hb
        exact ⟨by rw [has_put_other hne]; exact q1, fun z => by rw [atKey_put_other hne]; exact q2 z⟩
theorem MapF.del [DecidableEq κ] (h : MapF kl ok vd D f) (inj : ∀ {x y}, kl x = kl y → x = y) (k : κ) : MapF kl ok vd (D.del (kl k)) (fun x => if x = k then none else f x) := by
  obtain ⟨h1, h2, h3⟩ := h
  refine ⟨h1.del _, fun x b hb => ?_, fun x hx => ?_⟩
  · dsimp only at hb
    split at hb
    · cases hb
    · exact h2 x b hb
  · dsimp only
    by_cases e : x = k
    · subst e
      rw [if_pos rfl]
      exact ⟨fun _ => has_del_same, fun b hb => (by cases hb)⟩
    · rw [if_neg e]
      have hne : kl x ≠ kl k := fun q => e (inj q)
      refine ⟨fun q => ?_, fun b hb => ?_⟩
      · rw [has_del_other hne]; exact (h3 x hx).1 q
      · obtain ⟨q1, q2⟩ := (h3 x hx).2 b hb
        exact ⟨by rw [has_del_other hne]; exact q1, fun z => by rw [atKey_del_other hne]; exact q2 z⟩
theorem MapF.look (h : MapF kl ok vd D f) (vinj : ∀ {x y}, vd x = vd y → x = y) {k : κ} (hk : ok k) {c z : α} (e : D.atKey (kl k) (vd z) = vd c) : c = (f k).getD z := by
  obtain ⟨h1, h2, h3⟩ := h
  cases hf : f k with
  | none =>
    rw [atKey_of_not_has ((h3 k hk).1 hf)] at e
    exact (vinj e).symm
  | some b =>
    rw [((h3 k hk).2 b hf).2] at e
    exact (vinj e).symm
theorem MapF.get (h : MapF kl ok vd D f) (vinj : ∀ {x y}, vd x = vd y → x = y) {k : κ} (hk : ok k) {c : α} (e : ∀ z, D.atKey (kl k) z = vd c) : f k = some c := by
  obtain ⟨h1, h2, h3⟩ := h
  have hh := has_true_of_atKey e
  cases hf : f k with
  | none => rw [(h3 k hk).1 hf] at hh; cases hh
  | some b =>
    have := ((h3 k hk).2 b hf).2 (.map [])
    rw [e] at this
    rw [vinj this]
theorem MapF.has (h : MapF kl ok vd D f) {k : κ} (hk : ok k) : Maps.has D (kl k) = (f k).isSome := by
  obtain ⟨h1, h2, h3⟩ := h
  cases hf : f k with
  | none => exact (h3 k hk).1 hf
  | some b => exact ((h3 k hk).2 b hf).1
end
theorem keyOf_string_inv {P : Program} {k : TypeId} (hk : P.underlying k = some .string) {key : Value} {kl : Lit} (h : Go.keyOf P k key = some kl) : ∃ x, key = .string x ∧ kl = kS x ∧ okS x := by
  cases key <;> simp [Go.keyOf, hk, mapKey] at h
  obtain ⟨h1, rfl⟩ := h
  exact ⟨_, rfl, rfl, h1⟩
theorem own_size {P : Program} {k : TypeId} {R : Value → Option (DU × List MemPlace)} {w : World} {b n : Nat} {D : DU} (h : w.ownsMap P k R b n D) : size D ≤ n := by
  obtain ⟨es, clock, hb, F, hs, rfl⟩ := h
  rw [size_eq, length_sorted]
  simpa using hs
theorem ownsMap_ext {P : Program} {k : TypeId} {R : Value → Option (DU × List MemPlace)} {w w' : World} {b n : Nat} {D : DU} (h : w.ownsMap P k R b n D) (k' : Ext w w') : w'.ownsMap P k R b n D := by
  obtain ⟨es, clock, hb, rest⟩ := h
  exact ⟨es, clock, k'.heap hb, rest⟩
section
variable {P : Program} (w : World) {ops : Array Oper} {rest : List Oper} {o : Oper} {a : Act} {Q : Exit → Act → World → Prop}
/-- the step of a loop over a map of texts to numbers -/
theorem wpList_next_si (hg : o.guard = none) (it : Operand) (hop : o.op = Op.next it false) (k e : TypeId) (K : Keyed P k) (hk : P.underlying k = some .string) (he : P.underlying e = some (.int .i64))
    (b r n : Nat) (D : DU) (f : ByteArray → Option Int) (hF : MapF kS okS dI D f) (left : Lit → Bool) (cnt : Nat) (hit : a.eval it = .pointer (some ⟨r, 0, none⟩)) (h : w.ranges P k (plainElem P e) b r n D left cnt)
    (hDone : (∀ kl, left kl = false) → wpList P ops Q rest (a.put o.dst (.tuple #[.bool false])) w)
    (hMore : ∀ (x : ByteArray) (c : Int) (w' : World) (cnt' : Nat), okS x → okI c → left (kS x) = true → f x = some c → w'.ranges P k (plainElem P e) b r n D (fun z => left z && !z.sameKey (kS x)) cnt' → cnt' < cnt →
      w.grownBy w' (some r) → w'.heap.size = w.heap.size → (Instr.entry (.pointer (some ⟨r, 0, none⟩))).run P w' = .ok (.tuple #[.string x, .int .i64 c]) w' → wpList P ops Q rest (a.put o.dst (.tuple #[.bool true, .string x, .int .i64 c])) w') :
    wpList P ops Q (o :: rest) a w :=
  wpList_next_ranges w hg it hop k K (plainElem P e) Value.string (Value.int .i64) (fun key kl hkey => by obtain ⟨x, rfl, _⟩ := keyOf_string_inv hk hkey; exact ⟨x, rfl⟩) (fun v y hv => by obtain ⟨c, rfl, _⟩ := plainElem_int_inv he hv; exact ⟨c, rfl⟩)
    b r n D left cnt hit h (fun _ => hDone) (fun x c kl y w' cnt' hkey hlk hv hat hrg hlt hgr hsz hen => by
      obtain ⟨x', ex, rfl, hwx⟩ := keyOf_string_inv hk hkey
      cases ex
      obtain ⟨c', ec, rfl, hwc⟩ := plainElem_int_inv he hv
      cases ec
      exact hMore x c w' cnt' hwx hwc hlk (hF.get dI_inj hwx hat) hrg hlt hgr hsz hen)
end
/-! what a loop over a map has gathered -/
/-- the pairs gathered of f so far -/
def Gath (f : ByteArray → Option Int) (left : Lit → Bool) (l : List (ByteArray × Int)) : Prop :=
  (l.map (·.1)).Nodup ∧ (∀ p ∈ l, okS p.1) ∧ ∀ k c, okS k → ((k, c) ∈ l ↔ f k = some c ∧ c ≠ 0 ∧ left (kS k) = false)
theorem sameKey_kS {a b : ByteArray} (h : a ≠ b) : (kS a).sameKey (kS b) = false := sameKey_ne fun e => h (kS_inj e)
theorem sameKey_self (a : ByteArray) : (kS a).sameKey (kS a) = true := by simp [kS, Lit.sameKey]
theorem gath_start {D : DU} {f : ByteArray → Option Int} (hF : MapF kS okS dI D f) : Gath f (has D) [] := by
  refine ⟨List.nodup_nil, by simp, fun k c hk => ?_⟩
  rw [hF.has hk]
  simp
  intro h; simp [h]
theorem gath_keep {f : ByteArray → Option Int} {left : Lit → Bool} {l : List (ByteArray × Int)} (h : Gath f left l) {x : ByteArray} {c : Int} (hx : okS x) (hl : left (kS x) = true) (hf : f x = some c) (hc : c ≠ 0) : Gath f (fun z => left z && !z.sameKey (kS x)) (l ++ [(x, c)]) := by
  obtain ⟨h1, h2, h3⟩ := h
  have hn : ∀ d, (x, d) ∉ l := fun d hd => by have := ((h3 x d hx).1 hd).2.2; rw [hl] at this; cases this
  refine ⟨?_, fun p hp => ?_, fun k d hk => ?_⟩
  · rw [List.map_append, List.nodup_append]
    refine ⟨h1, by simp, fun a ha b hb => ?_⟩
    simp at hb; subst hb
    rintro rfl
    obtain ⟨p, hp, e⟩ := List.mem_map.1 ha
    exact hn p.2 (by rw [← e]; exact hp)
  · rcases List.mem_append.1 hp with hp | hp
    · exact h2 p hp
    · simp at hp; subst hp; exact hx
  · by_cases e : k = x
    · subst e
      simp [sameKey_self, hf]
      constructor
      · rintro (h | h)
        · exact absurd h (hn d)
        · subst h; exact ⟨rfl, hc⟩
      · rintro ⟨rfl, _⟩; exact .inr rfl
    · simp only [List.mem_append, h3 k d hk, sameKey_kS e]
      simp [e]
theorem gath_drop {f : ByteArray → Option Int} {left : Lit → Bool} {l : List (ByteArray × Int)} (h : Gath f left l) {x : ByteArray} (hx : okS x) (hl : left (kS x) = true) (hf : f x = some 0) : Gath f (fun z => left z && !z.sameKey (kS x)) l := by
  obtain ⟨h1, h2, h3⟩ := h
  refine ⟨h1, h2, fun k d hk => ?_⟩
  by_cases e : k = x
  · subst e
    simp [h3 k d hk, hf, hl]
    rintro rfl h; exact absurd rfl h
  · simp only [h3 k d hk, sameKey_kS e]
    simp
end Go.Proofs.YtimchedebcoohaaGreat
