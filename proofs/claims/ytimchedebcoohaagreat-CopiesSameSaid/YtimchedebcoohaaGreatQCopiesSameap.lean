/- Contracts and lemmas for the proof of CopiesSame; each theorem states its own conditions. -/
import Derived.Test.YtimchedebcoohaaGreatQCopiesSameae
import Derived.Test.YtimchedebcoohaaGreatQCopiesSameaf
import Derived.Test.YtimchedebcoohaaGreatQCopiesSameao
import Derived.Test.YtimchedebcoohaaGreatQCopiesSameab
import Derived.Test.YtimchedebcoohaaGreatQCopiesSameaa
import Derived.Test.YtimchedebcoohaaGreatProg
import Derived.Shelf.Abstract
import Derived.Test.YtimchedebcoohaaGreatQCopiesSameam
set_option linter.unusedVariables false
set_option linter.unusedSimpArgs false
/- Contracts and lemmas for the proofs of this seat; each theorem states its own conditions. -/
namespace Go.Proofs.YtimchedebcoohaaGreat
open Go.RowKit
variable {eB : Nat}
/-! merge.Copied, merge.plain -/
structure EntSeg (w : World) (e : EV) (x : Ent) : Prop where
  ops : Seg w e.1 4 x.ops.length (cO x.ops)
  im : e.2.1 = x.im
  cuts : Seg w e.2.2.1 1 x.cuts.length (cS x.cuts)
  own : Seg w e.2.2.2 1 x.own.length (cI x.own)
theorem EntSt.seg {w : World} {e : EV} {x : Ent} (h : EntSt eB w e x) : EntSeg w e x := ⟨own_seg h.ops, h.im, own_seg h.cuts, own_seg h.own⟩
theorem EntSeg.ext {w w' : World} {e : EV} {x : Ent} (h : EntSeg w e x) (E : Ext w w') : EntSeg w' e x := ⟨h.ops.ext E, h.im, h.cuts.ext E, h.own.ext E⟩
/-- an entry that is not too long -/
structure EntSm (x : Ent) : Prop where
  ops : x.ops.length ≤ 100
  cuts : x.cuts.length ≤ 100
  own : x.own.length ≤ 100
theorem blk4_set0 {w : World} {b : Nat} {x y z u : Value} {t : TypeId} (h : w.heap[b]? = some (.cells #[x, y, z, u] t (0, 0))) (x' : Value) :
    (w.setCell ⟨b, 0, none⟩ x').heap[b]? = some (.cells #[x', y, z, u] t (0, 0)) := by
  simp [World.setCell, Array.getElem?_modify, h]
theorem blk4_setA {w : World} {b : Nat} {x y z u : Value} {t : TypeId} (h : w.heap[b]? = some (.cells #[x, y, z, u] t (0, 0))) (x' y' z' u' : Value) :
    ((((w.setCell ⟨b, 0, none⟩ x').setCell ⟨b, 1, none⟩ y').setCell ⟨b, 2, none⟩ z').setCell ⟨b, 3, none⟩ u').heap[b]? = some (.cells #[x', y', z', u'] t (0, 0)) := by
  simp [World.setCell, Array.getElem?_modify, h]
theorem own_set4 {w : World} {B e sz n : Nat} {v : Value} {xs : List Value} (h : w.ownsRow B e sz v n xs) {p : Nat} (hp : p < B) (x y z u : Value) :
    ((((w.setCell ⟨p, 0, none⟩ x).setCell ⟨p, 1, none⟩ y).setCell ⟨p, 2, none⟩ z).setCell ⟨p, 3, none⟩ u).ownsRow B e sz v n xs :=
  own_set_far (own_set_far (own_set_far (own_set_far h hp) hp) hp) hp
theorem ent_set4 {w : World} {B e e' sz n p : Nat} {v : Value} {xs : List Value} {cs : Array Value} {fr : Nat × Nat} (h : w.ownsRow B e sz v n xs) (hb : w.heap[p]? = some (.cells cs e' fr)) (he : e ≠ e') (x y z u : Value) :
    ((((w.setCell ⟨p, 0, none⟩ x).setCell ⟨p, 1, none⟩ y).setCell ⟨p, 2, none⟩ z).setCell ⟨p, 3, none⟩ u).ownsRow B e sz v n xs := by
  have hne := own_ne h hb he
  exact own_set_other (own_set_other (own_set_other (own_set_other h hne x) hne y) hne z) hne u
theorem ext_set4 {w0 w : World} (E : Ext w0 w) {p : Nat} (hp : w0.heap.size ≤ p) (x y z u : Value) :
    Ext w0 ((((w.setCell ⟨p, 0, none⟩ x).setCell ⟨p, 1, none⟩ y).setCell ⟨p, 2, none⟩ z).setCell ⟨p, 3, none⟩ u) :=
  (((E.setCell hp _).setCell hp _).setCell hp _).setCell hp _
theorem blk4_set23 {w : World} {b : Nat} {x y z u : Value} {t : TypeId} (h : w.heap[b]? = some (.cells #[x, y, z, u] t (0, 0))) (z' u' : Value) :
    ((w.setCell ⟨b, 2, none⟩ z').setCell ⟨b, 3, none⟩ u').heap[b]? = some (.cells #[x, y, z', u'] t (0, 0)) := by
  simp [World.setCell, Array.getElem?_modify, h]
set_option maxRecDepth 100000 in
set_option maxHeartbeats 2000000 in
theorem ecopied_any (e : EV) (x : Ent) (w : World) (h : EntSeg w e x) (sm : EntSm x) (hB : eB ≤ w.heap.size) :
    Calls Tryz.prog 116 #[evV e] w fun r w' => ∃ e', r = .returned (evV e') ∧ EntSt eB w' e' x ∧ Ext w w' := by
  obtain ⟨v1, b, v2, v3⟩ := e
  obtain ⟨h1, hb, h2, h3⟩ := h
  obtain ⟨s1, s2, s3⟩ := sm
  dsimp only at h1 hb h2 h3
  have HB := hid hb
  clear hb
  have b0 := heap_1 w (.cells #[v1, .bool b, v2, v3] 94) (.cells #[.slice none 0 0, .bool false, .slice none 0 0, .slice none 0 0] 94)
  have b1 := heap_2 w (.cells #[v1, .bool b, v2, v3] 94) (.cells #[.slice none 0 0, .bool false, .slice none 0 0, .slice none 0 0] 94)
  have E0 := ((Ext.refl w).alloc (.cells #[v1, .bool b, v2, v3] 94)).alloc (.cells #[.slice none 0 0, .bool false, .slice none 0 0, .slice none 0 0] 94)
  show Calls _ _ #[.agg #[v1, .bool b, v2, v3]] _ _
  go_enter Tryz.func116, Tryz.ntmps116
  go_wp2_with fail
  refine (clone_Op v1 x.ops.length (cO x.ops) _ (h1.ext E0) (cO_one _) (by omega)).mono ?_
  rintro r w1 ⟨a1, c1, rfl, ho1, E1⟩
  replace b0 := E1.heap b0
  replace b1 := E1.heap b1
  obtain ⟨f0, -, f2, f3⟩ := frz4 b0
  have k0 := (blk4 b0).1
  have g0 := blk4_set0 b0 (.slice a1 x.ops.length c1)
  have hs0 := E0.size'
  have hz0 : w.heap.size + 2 ≤ w1.heap.size := by have := E1.size'; simp at this; omega
  have EW : Ext w (w1.setCell ⟨w.heap.size, 0, none⟩ (.slice a1 x.ops.length c1)) := (E0.trans E1).setCell (Nat.le_refl _) _
  have hoW : (w1.setCell ⟨w.heap.size, 0, none⟩ (.slice a1 x.ops.length c1)).ownsRow (w.heap.size + 2) 37 4 (.slice a1 x.ops.length c1) x.ops.length (cO x.ops) := own_base (own_set_far ho1 (by first | (simp; done) | (simp; omega))) (by simp)
  have b1W : (w1.setCell ⟨w.heap.size, 0, none⟩ (.slice a1 x.ops.length c1)).heap[w.heap.size + 1]? = _ := heap_set_far b1 (by simp)
  have hsW : (w1.setCell ⟨w.heap.size, 0, none⟩ (.slice a1 x.ops.length c1)).heap.size = w1.heap.size := by simp
  obtain ⟨W, hW⟩ : ∃ W, w1.setCell ⟨w.heap.size, 0, none⟩ (.slice a1 x.ops.length c1) = W := ⟨_, rfl⟩
  rw [hW] at g0 EW hoW b1W hsW
  have c0 := blk4 g0
  clear b0 b1 ho1 E0 E1 hs0 h1
  go_wp2_with fail
  refine (copied_any (.agg #[v2, v3]) x.cuts x.own _ ⟨v2, v3, rfl, h2.ext EW, h3.ext EW⟩ (by omega) (by omega)).mono ?_
  rintro r w2 ⟨_, rfl, ⟨u2, u3, rfl, ho2, ho3⟩, E2⟩
  obtain ⟨a2, c2, rfl⟩ := own_form ho2
  obtain ⟨a3, c3, rfl⟩ := own_form ho3
  clear f0 k0 c0
  replace g0 := E2.heap g0
  replace b1W := E2.heap b1W
  replace hoW := own_ext hoW E2
  obtain ⟨-, -, f2, f3⟩ := frz4 g0
  have k0 := blk4 g0
  have g1 := blk4_set23 g0 (.slice a2 x.cuts.length c2) (.slice a3 x.own.length c3)
  have b2W : ((w2.setCell ⟨w.heap.size, 2, none⟩ (.slice a2 x.cuts.length c2)).setCell ⟨w.heap.size, 3, none⟩ (.slice a3 x.own.length c3)).heap[w.heap.size + 1]? = _ := heap_set_far (heap_set_far b1W (by simp)) (by simp)
  have o1 := own_set_far (p := ⟨w.heap.size, 3, none⟩) (u := (.slice a3 x.own.length c3)) (own_set_far (p := ⟨w.heap.size, 2, none⟩) (u := (.slice a2 x.cuts.length c2)) hoW (by first | (simp; done) | (simp; omega))) (by first | (simp; done) | (simp; omega))
  have o2 := own_set_far (p := ⟨w.heap.size, 3, none⟩) (u := (.slice a3 x.own.length c3)) (own_set_far (p := ⟨w.heap.size, 2, none⟩) (u := (.slice a2 x.cuts.length c2)) (own_base (B' := w.heap.size + 2) ho2 (by omega)) (by first | (simp; done) | (simp; omega))) (by first | (simp; done) | (simp; omega))
  have o3 := own_set_far (p := ⟨w.heap.size, 3, none⟩) (u := (.slice a3 x.own.length c3)) (own_set_far (p := ⟨w.heap.size, 2, none⟩) (u := (.slice a2 x.cuts.length c2)) (own_base (B' := w.heap.size + 2) ho3 (by omega)) (by first | (simp; done) | (simp; omega))) (by first | (simp; done) | (simp; omega))
  have EX : Ext w ((w2.setCell ⟨w.heap.size, 2, none⟩ (.slice a2 x.cuts.length c2)).setCell ⟨w.heap.size, 3, none⟩ (.slice a3 x.own.length c3)) := ((EW.trans E2).setCell (Nat.le_refl _) _).setCell (Nat.le_refl _) _
  obtain ⟨X, hX⟩ : ∃ X, (w2.setCell ⟨w.heap.size, 2, none⟩ (.slice a2 x.cuts.length c2)).setCell ⟨w.heap.size, 3, none⟩ (.slice a3 x.own.length c3) = X := ⟨_, rfl⟩
  rw [hX] at g1 b2W o1 o2 o3 EX
  have k1 := blk4 g1
  have d1 := blk4 b2W
  obtain ⟨e0, e1, e2, e3⟩ := frz4 b2W
  have b3 := blk4_setA b2W (.slice a1 x.ops.length c1) (.bool b) (.slice a2 x.cuts.length c2) (.slice a3 x.own.length c3)
  have o1' := own_set4 o1 (p := w.heap.size + 1) (by omega) (.slice a1 x.ops.length c1) (.bool b) (.slice a2 x.cuts.length c2) (.slice a3 x.own.length c3)
  have o2' := own_set4 o2 (p := w.heap.size + 1) (by omega) (.slice a1 x.ops.length c1) (.bool b) (.slice a2 x.cuts.length c2) (.slice a3 x.own.length c3)
  have o3' := own_set4 o3 (p := w.heap.size + 1) (by omega) (.slice a1 x.ops.length c1) (.bool b) (.slice a2 x.cuts.length c2) (.slice a3 x.own.length c3)
  clear g0 b1W hoW ho2 ho3 EW E2 h2 h3 hsW
  go_wp2
  have r4 := blk4 b3
  refine bodyPost_ret (v := .agg #[.slice a1 x.ops.length c1, .bool b, .slice a2 x.cuts.length c2, .slice a3 x.own.length c3]) (by simp [results, Tryz.results116, go_sem, r4.1, r4.2.1, r4.2.2.1, r4.2.2.2]) rfl
    ⟨(.slice a1 x.ops.length c1, b, .slice a2 x.cuts.length c2, .slice a3 x.own.length c3), rfl, ⟨own_base o1' (Nat.zero_le _), HB.out, own_base o2' (Nat.zero_le _), own_base o3' (by omega)⟩, ext_set4 EX (by omega) _ _ _ _⟩
/-- what a merge keeps of an entry -/
def plainE (x : Ent) : Ent := if x.im = true then ⟨[], true, x.cuts, x.own⟩ else ⟨x.ops, false, [], []⟩
set_option maxRecDepth 100000 in
set_option maxHeartbeats 2000000 in
theorem eplain_any (e : EV) (x : Ent) (w : World) (h : EntSeg w e x) (sm : EntSm x) (hB : eB ≤ w.heap.size) :
    Calls Tryz.prog 88 #[evV e] w fun r w' => ∃ e', r = .returned (evV e') ∧ EntSt eB w' e' (plainE x) ∧ Ext w w' := by
  obtain ⟨v1, b, v2, v3⟩ := e
  obtain ⟨h1, hb, h2, h3⟩ := h
  dsimp only at h1 hb h2 h3
  have b0 := heap_1 w (.cells #[v1, .bool b, v2, v3] 94) (.cells #[.slice none 0 0, .bool false, .slice none 0 0, .slice none 0 0] 94)
  have b1 := heap_2 w (.cells #[v1, .bool b, v2, v3] 94) (.cells #[.slice none 0 0, .bool false, .slice none 0 0, .slice none 0 0] 94)
  have E0 := ((Ext.refl w).alloc (.cells #[v1, .bool b, v2, v3] 94)).alloc (.cells #[.slice none 0 0, .bool false, .slice none 0 0, .slice none 0 0] 94)
  have k0 := blk4 b0
  have H : EntSeg ((w.alloc (.cells #[v1, .bool b, v2, v3] 94)).alloc (.cells #[.slice none 0 0, .bool false, .slice none 0 0, .slice none 0 0] 94)) (if x.im = true then (.slice none 0 0, true, v2, v3) else (v1, false, .slice none 0 0, .slice none 0 0)) (plainE x) := by
    unfold plainE
    split
    · exact ⟨Seg.nil _ _, rfl, h2.ext E0, h3.ext E0⟩
    · exact ⟨h1.ext E0, rfl, Seg.nil _ _, Seg.nil _ _⟩
  have sm' : EntSm (plainE x) := by
    unfold plainE
    split
    · exact ⟨by simp, sm.cuts, sm.own⟩
    · exact ⟨sm.ops, by simp, by simp⟩
  have C := ecopied_any (eB := eB) _ _ _ H sm' (Nat.le_trans hB E0.size')
  generalize plainE x = y at C ⊢
  rw [← hb] at C
  have C := hid C
  clear H hb h1 h2 h3 sm sm'
  show Calls _ _ #[.agg #[v1, .bool b, v2, v3]] _ _
  cases b with
  | true =>
    go_enter Tryz.func88, Tryz.ntmps88
    go_wp2_with fail
    refine (C.out).mono ?_
    rintro r w1 ⟨⟨a1, b1', a2, a3⟩, rfl, hE, E1⟩
    replace b1 := E1.heap b1
    obtain ⟨u1, u2, u3, u4⟩ := blk4 b1
    obtain ⟨e0, e1, e2, e3⟩ := frz4 b1
    obtain ⟨p1, q1, rfl⟩ := own_form hE.ops
    obtain ⟨p2, q2, rfl⟩ := own_form hE.cuts
    obtain ⟨p3, q3, rfl⟩ := own_form hE.own
    simp only [evV]
    go_wp2
    have hz : w.heap.size + 1 < w1.heap.size := (Array.getElem?_eq_some_iff.1 b1).1
    have b3 := blk4_setA b1 (.slice p1 y.ops.length q1) (.bool b1') (.slice p2 y.cuts.length q2) (.slice p3 y.own.length q3)
    have r4 := blk4 b3
    have hty : ∀ {B0 : Nat} {e : TypeId} {sz n : Nat} {v : Value} {xs : List Value}, w1.ownsRow B0 e sz v n xs → e ≠ 94 → ((((w1.setCell ⟨w.heap.size + 1, 0, none⟩ (.slice p1 y.ops.length q1)).setCell ⟨w.heap.size + 1, 1, none⟩ (.bool b1')).setCell ⟨w.heap.size + 1, 2, none⟩ (.slice p2 y.cuts.length q2)).setCell ⟨w.heap.size + 1, 3, none⟩ (.slice p3 y.own.length q3)).ownsRow B0 e sz v n xs := fun h he => ent_set4 h b1 he _ _ _ _
    refine bodyPost_ret (v := .agg #[(.slice p1 y.ops.length q1), (.bool b1'), (.slice p2 y.cuts.length q2), (.slice p3 y.own.length q3)]) (by simp [results, Tryz.results88, go_sem, r4.1, r4.2.1, r4.2.2.1, r4.2.2.2]) rfl
      ⟨(_, b1', _, _), rfl, ⟨hty hE.ops (by decide), hE.im, hty hE.cuts (by decide), hty hE.own (by decide)⟩, ext_set4 (E0.trans E1) (by omega) _ _ _ _⟩
  | false =>
    go_enter Tryz.func88, Tryz.ntmps88
    go_wp2_with fail
    refine (C.out).mono ?_
    rintro r w1 ⟨⟨a1, b1', a2, a3⟩, rfl, hE, E1⟩
    replace b1 := E1.heap b1
    obtain ⟨u1, u2, u3, u4⟩ := blk4 b1
    obtain ⟨e0, e1, e2, e3⟩ := frz4 b1
    obtain ⟨p1, q1, rfl⟩ := own_form hE.ops
    obtain ⟨p2, q2, rfl⟩ := own_form hE.cuts
    obtain ⟨p3, q3, rfl⟩ := own_form hE.own
    simp only [evV]
    go_wp2
    have hz : w.heap.size + 1 < w1.heap.size := (Array.getElem?_eq_some_iff.1 b1).1
    have b3 := blk4_setA b1 (.slice p1 y.ops.length q1) (.bool b1') (.slice p2 y.cuts.length q2) (.slice p3 y.own.length q3)
    have r4 := blk4 b3
    have hty : ∀ {B0 : Nat} {e : TypeId} {sz n : Nat} {v : Value} {xs : List Value}, w1.ownsRow B0 e sz v n xs → e ≠ 94 → ((((w1.setCell ⟨w.heap.size + 1, 0, none⟩ (.slice p1 y.ops.length q1)).setCell ⟨w.heap.size + 1, 1, none⟩ (.bool b1')).setCell ⟨w.heap.size + 1, 2, none⟩ (.slice p2 y.cuts.length q2)).setCell ⟨w.heap.size + 1, 3, none⟩ (.slice p3 y.own.length q3)).ownsRow B0 e sz v n xs := fun h he => ent_set4 h b1 he _ _ _ _
    refine bodyPost_ret (v := .agg #[(.slice p1 y.ops.length q1), (.bool b1'), (.slice p2 y.cuts.length q2), (.slice p3 y.own.length q3)]) (by simp [results, Tryz.results88, go_sem, r4.1, r4.2.1, r4.2.2.1, r4.2.2.2]) rfl
      ⟨(_, b1', _, _), rfl, ⟨hty hE.ops (by decide), hE.im, hty hE.cuts (by decide), hty hE.own (by decide)⟩, ext_set4 (E0.trans E1) (by omega) _ _ _ _⟩
end Go.Proofs.YtimchedebcoohaaGreat

/- Contracts and lemmas for the proofs of this seat; each theorem states its own conditions. -/
namespace Go.Proofs.YtimchedebcoohaaGreat
open Go.RowKit
/-! slices.IndexFunc, slices.ContainsFunc: a closure by its contract -/
def firstI {α : Type} (p : α → Bool) : List α → Nat → Int
  | [], _ => -1
  | x :: l, i => if p x then (i : Int) else firstI p l (i + 1)
theorem firstI_hit {α : Type} {p : α → Bool} : ∀ {l : List α} {i k : Nat} (hk : k < l.length), (∀ j (h : j < k), p (l[j]'(by omega)) = false) → p l[k] = true → firstI p l i = ((i + k : Nat) : Int)
  | [], _, _, hk, _, _ => by simp at hk
  | x :: l, i, 0, _, _, h => by simp at h; simp [firstI, h]
  | x :: l, i, k + 1, hk, hj, h => by
    have h0 := hj 0 (by omega)
    simp at h0
    rw [firstI, if_neg (by simp [h0]), firstI_hit (k := k) (by simpa using hk) (fun j h' => by simpa using hj (j + 1) (by omega)) (by simpa using h)]
    congr 1; omega
theorem firstI_miss {α : Type} {p : α → Bool} : ∀ {l : List α} {i : Nat}, (∀ x ∈ l, p x = false) → firstI p l i = -1
  | [], _, _ => rfl
  | x :: l, i, h => by rw [firstI, if_neg (by simp [h x (by simp)]), firstI_miss fun y hy => h y (by simp [hy])]
theorem firstI_any {α : Type} {p : α → Bool} : ∀ {l : List α} {i : Nat}, (decide (0 ≤ firstI p l i)) = l.any p
  | [], _ => by simp [firstI]
  | x :: l, i => by
    rw [firstI, List.any_cons]
    cases h : p x with
    | true => simp
    | false => simp [firstI_any (l := l)]
theorem cS_at' (l : List ByteArray) (k : Nat) (hk : k < l.length) : (cS l)[k]? = some (.string l[k]) := by simp [cS, hk]
set_option maxRecDepth 10000 in
set_option maxHeartbeats 1000000 in
theorem indexF_Str (fn : Nat) (cs : Array Value) (hen : ∀ args w, (callFunc fn args).run Tryz.prog w = .ok (.enter fn args) w) (p : ByteArray → Bool) (v : Value) (L : List ByteArray) (w : World) (hv : Seg w v 1 L.length (cS L))
    (hc : ∀ x ∈ L, ∀ w', Ext w w' → Calls Tryz.prog fn (#[.string x] ++ cs) w' fun e w'' => e = .returned (.bool (p x)) ∧ Ext w' w'') :
    Calls Tryz.prog 141 #[v, .func (.func fn) #[] cs] w fun e w' => e = .returned (.int .i64 (firstI p L 0)) ∧ Ext w w' := by
  obtain ⟨h0, a, cap, rfl, h1, h2, h3⟩ := hv
  unfold maxLen at h2
  have H3 := hid h3
  have HC := hid hc
  clear h3 hc h0
  go_enter Tryz.func141, Tryz.ntmps141
  go_wp2
  go_loopw [5, 8] (fun _ i wr => ∃ k : Nat, k ≤ L.length ∧ i = .int .i64 k ∧ (∀ j (h : j < L.length), j < k → p L[j] = false) ∧ Ext w wr) (fun _ i _ => L.length - (intOf i).toNat)
  case atStart => exact ⟨0, Nat.zero_le _, rfl, fun j _ h => by omega, Ext.refl _⟩
  case round =>
    obtain ⟨k, hk, rfl, hn, E⟩ := hrel
    have HN := hid hn
    clear hn
    by_cases hlt : k < L.length
    · obtain ⟨b, off, rfl, hcell⟩ := H3.out (by omega)
      have x0 := E.cell (hcell k _ (cS_at' L k hlt))
      have C := HC.out L[k] (List.getElem_mem hlt) wr E
      have e0 : (#[Value.string L[k]] ++ cs) = (#[Value.string L[k]] ++ cs) := rfl
      cases hp : p L[k] with
      | true =>
        rw [hp] at C
        have C := hid C
        have hi : firstI p L 0 = (k : Int) := by
          have := firstI_hit (i := 0) hlt (fun j h' => HN.out j (by omega) h') hp
          simpa using this
        have HI := hid hi
        clear hi hcell e0
        go_wp2_with (first | (go_at_fn fn; refine (C.out).mono ?_; rintro e wa ⟨rfl, Ea⟩))
        go_ret
        exact ⟨rI HI.out.symm, E.trans Ea⟩
      | false =>
        rw [hp] at C
        have C := hid C
        have HP := hid hp
        clear hcell e0 hp
        go_wp2_with (first | (go_at_fn fn; refine (C.out).mono ?_; rintro e wa ⟨rfl, Ea⟩))
        go_roundw
        case rel => exact ⟨k + 1, by omega, by go_num, fun j hj h => by
          rcases Nat.lt_or_ge j k with h' | h'
          · exact HN.out j hj h'
          · have : j = k := by omega
            subst this; exact HP.out, E.trans Ea⟩
        case measure => simp [intOf]; omega
    · obtain rfl : k = L.length := by omega
      have hi : firstI p L 0 = -1 := firstI_miss fun x hx => by
        obtain ⟨j, hj, rfl⟩ := List.mem_iff_getElem.1 hx
        exact HN.out j hj hj
      have HI := hid hi
      clear hi
      go_wp2
      go_ret
      exact ⟨rI HI.out.symm, E⟩
set_option maxHeartbeats 1000000 in
theorem containsF_Str (fn : Nat) (cs : Array Value) (hen : ∀ args w, (callFunc fn args).run Tryz.prog w = .ok (.enter fn args) w) (p : ByteArray → Bool) (v : Value) (L : List ByteArray) (w : World) (hv : Seg w v 1 L.length (cS L))
    (hc : ∀ x ∈ L, ∀ w', Ext w w' → Calls Tryz.prog fn (#[.string x] ++ cs) w' fun e w'' => e = .returned (.bool (p x)) ∧ Ext w' w'') :
    Calls Tryz.prog 123 #[v, .func (.func fn) #[] cs] w fun e w' => e = .returned (.bool (L.any p)) ∧ Ext w w' := by
  have C := hid (indexF_Str fn cs hen p v L w hv hc)
  have HA := hid (firstI_any (p := p) (l := L) (i := 0))
  generalize firstI p L 0 = z at C HA
  clear hc hv
  go_enter Tryz.func123, Tryz.ntmps123
  go_wp2_with fail
  refine (C.out).mono ?_
  rintro e wa ⟨rfl, Ea⟩
  go_wp2
  go_ret
  exact ⟨rB (by rw [← HA.out]), Ea⟩
end Go.Proofs.YtimchedebcoohaaGreat

/- Contracts and lemmas for the proofs of this seat; each theorem states its own conditions. -/
namespace Go.Proofs.YtimchedebcoohaaGreat
open Go.RowKit
/-! Scan, Total -/
def inB (f t : ByteArray) (p : ByteArray × Int) : Bool := !(blt p.1 f) && (t.toList.isEmpty || blt p.1 t)
def scanP (l : Prs) (f t : ByteArray) : Prs := l.filter (inB f t)
theorem scan_step {l : Prs} {f t : ByteArray} {k : Nat} (hk : k < l.length) : scanP (l.take (k + 1)) f t = scanP (l.take k) f t ++ (if inB f t l[k] then [l[k]] else []) := by
  unfold scanP
  rw [List.take_succ_eq_append_getElem hk, List.filter_append]
  congr 1
  rw [List.filter_cons]; rfl
theorem scan_len (l : Prs) (f t : ByteArray) (k : Nat) : (scanP (l.take k) f t).length ≤ k := by
  have := List.length_filter_le (inB f t) (l.take k)
  rw [List.length_take] at this
  unfold scanP; omega
theorem cP_one1 (p : ByteArray × Int) : cP [p] = [.string p.1, .int .i64 p.2] := by simp [cP]
set_option maxRecDepth 10000 in
set_option maxHeartbeats 1000000 in
theorem scan_ok (v : Value) (l : Prs) (f t : ByteArray) (w : World) (hv : Seg w v 2 l.length (cP l)) (hk : ∀ p ∈ l, p.1.size ≤ 9223372036854775807) (hlen : l.length ≤ 1000000000) (he : storeErr l = 0) :
    Calls Tryz.prog 18 #[v, .string f, .string t] w fun e w' => ∃ v', e = .returned (.tuple #[v', .int .i64 0]) ∧ w'.ownsRow w.heap.size 33 2 v' (scanP l f t).length (cP (scanP l f t)) ∧ Ext w w' := by
  obtain ⟨h0, a, cap, rfl, h1, h2, h3⟩ := hv
  have hv : Seg w (.slice a l.length cap) 2 l.length (cP l) := ⟨h0, a, cap, rfl, h1, h2, h3⟩
  unfold maxLen at h2
  have q : (storeErr l != 0) = false := by simp [he]
  have HE := hid he
  clear he
  go_enter Tryz.func18, Tryz.ntmps18
  go_wp2_with fail
  refine (scheck_any _ l _ hv hk).mono ?_
  rintro e w1 ⟨rfl, E1⟩
  have hz := E1.size'
  go_wp2_with fail
  go_loopw [9, 11, 19] (fun o _ i wr => ∃ k : Nat, k ≤ l.length ∧ i = .int .i64 k ∧ wr.ownsRow w1.heap.size 33 2 o (scanP (l.take k) f t).length (cP (scanP (l.take k) f t)) ∧ Ext w1 wr) (fun _ _ i _ => l.length - (intOf i).toNat)
  case atStart => exact ⟨0, Nat.zero_le _, rfl, World.ownsRow_nil _ _ _ _, Ext.refl _⟩
  case round =>
    obtain ⟨k, hkl, rfl, ho, E⟩ := hrel
    by_cases hlt : k < l.length
    · obtain ⟨b, off, rfl, hc⟩ := h3 (by omega)
      have c := seg_pair hc hlt
      have c0 := E.cell (E1.cell c.1)
      have c1 := E.cell (E1.cell c.2)
      have hst := scan_step (f := f) (t := t) hlt
      have hsl := scan_len l f t k
      have hsz := E.size'
      clear hc h3 c
      have hin : inB f t l[k] = true ∨ inB f t l[k] = false := by cases inB f t l[k] <;> simp
      have hE2 := ((Ext.refl wr).alloc (.cells #[.string l[k].1, .int .i64 l[k].2] 33)).alloc (.cells #[.string l[k].1, .int .i64 l[k].2] 33)
      have hb2 := heap_2 wr (.cells #[.string l[k].1, .int .i64 l[k].2] 33) (.cells #[.string l[k].1, .int .i64 l[k].2] 33)
      have hsv : Seg ((wr.alloc (.cells #[.string l[k].1, .int .i64 l[k].2] 33)).alloc (.cells #[.string l[k].1, .int .i64 l[k].2] 33)) (.slice (some ⟨wr.heap.size + 1, 0, none⟩) 1 1) 2 1 [.string l[k].1, .int .i64 l[k].2] :=
        ⟨rfl, _, _, rfl, Nat.le_refl _, by simp [maxLen], fun _ => ⟨wr.heap.size + 1, 0, rfl, fun j u hu => by have := seg_vb hb2 j u hu; rwa [addr_add] at this⟩⟩
      have hge := own_ge ho
      have hB : w1.heap.size ≤ ((wr.alloc (.cells #[.string l[k].1, .int .i64 l[k].2] 33)).alloc (.cells #[.string l[k].1, .int .i64 l[k].2] 33)).heap.size := by simp; omega
      obtain ⟨ao, co, rfl⟩ := own_form ho
      have HST := hid hst
      clear hst
      rcases hin with hin | hin
      · have HIN := hid hin
        have hin' := hin
        simp only [inB, Bool.and_eq_true, Bool.or_eq_true, Bool.not_eq_true'] at hin'
        clear hin
        obtain ⟨g1, g2⟩ := hin'
        have g1' : Op.bytesLess l[k].1.toList f.toList = false := g1
        by_cases hte : t.toList = []
        · have hte' : (t.toList.isEmpty) = true := by simp [hte]
          go_wp2_with (first | (at_builtin; refine (wpList_app rfl _ _ 22 rfl w1.heap.size 33 (.agg #[.string ⟨#[]⟩, .int .i64 0]) 2 24 Tryz.underlying22 infoP rfl (by decide) _ (scanP (l.take k) f t).length (cP (scanP (l.take k) f t)) rfl ((ho.alloc _).alloc _) (.slice (some ⟨wr.heap.size + 1, 0, none⟩) 1 1) 1 [.string l[k].1, .int .i64 l[k].2] rfl hsv (kv_one _ _) (by omega) (by unfold maxLen; omega) hB ?_); intro v' w4 ho' hg))
          go_roundw
          case rel => exact ⟨k + 1, by omega, by go_num, by rw [HST.out, if_pos HIN.out, cP_app, cP_one1, List.length_append]; exact ho', (E.trans hE2).grown hg (fun j e => hge j e)⟩
          case measure => simp [intOf]; omega
        · have hte' : (t.toList.isEmpty) = false := by simp [hte]
          have g2' : Op.bytesLess l[k].1.toList t.toList = true := by rcases g2 with g2 | g2; (rw [hte'] at g2; cases g2); exact g2
          go_wp2_with (first | (at_builtin; refine (wpList_app rfl _ _ 22 rfl w1.heap.size 33 (.agg #[.string ⟨#[]⟩, .int .i64 0]) 2 24 Tryz.underlying22 infoP rfl (by decide) _ (scanP (l.take k) f t).length (cP (scanP (l.take k) f t)) rfl ((ho.alloc _).alloc _) (.slice (some ⟨wr.heap.size + 1, 0, none⟩) 1 1) 1 [.string l[k].1, .int .i64 l[k].2] rfl hsv (kv_one _ _) (by omega) (by unfold maxLen; omega) hB ?_); intro v' w4 ho' hg))
          go_roundw
          case rel => exact ⟨k + 1, by omega, by go_num, by rw [HST.out, if_pos HIN.out, cP_app, cP_one1, List.length_append]; exact ho', (E.trans hE2).grown hg (fun j e => hge j e)⟩
          case measure => simp [intOf]; omega
      · have HIN := hid hin
        have hin' := hin
        clear hin
        cases g1 : blt l[k].1 f with
        | true =>
          have g1' : Op.bytesLess l[k].1.toList f.toList = true := g1
          clear hin'
          go_wp2
          go_roundw
          case rel => exact ⟨k + 1, by omega, by go_num, by rw [HST.out, if_neg (by rw [HIN.out]; simp), List.append_nil]; exact ho.alloc _, E.alloc _⟩
          case measure => simp [intOf]; omega
        | false =>
          have g1' : Op.bytesLess l[k].1.toList f.toList = false := g1
          have g2 : t.toList.isEmpty = false ∧ blt l[k].1 t = false := by simpa [inB, g1] using hin'
          have hte' := g2.1
          have hte : ¬ t.toList = [] := by simpa using g2.1
          have g2' : Op.bytesLess l[k].1.toList t.toList = false := g2.2
          clear hin' g2
          go_wp2
          go_roundw
          case rel => exact ⟨k + 1, by omega, by go_num, by rw [HST.out, if_neg (by rw [HIN.out]; simp), List.append_nil]; exact ho.alloc _, E.alloc _⟩
          case measure => simp [intOf]; omega
    · obtain rfl : k = l.length := by omega
      go_wp2
      go_ret2
      refine ⟨_, rfl, ?_, E1.trans E⟩
      rw [List.take_of_length_le (Nat.le_refl _)] at ho
      exact own_base ho hz
set_option maxRecDepth 10000 in
theorem scan_bad (v : Value) (l : Prs) (f t : ByteArray) (w : World) (hv : Seg w v 2 l.length (cP l)) (hk : ∀ p ∈ l, p.1.size ≤ 9223372036854775807) (he : storeErr l ≠ 0) :
    Calls Tryz.prog 18 #[v, .string f, .string t] w fun e w' => e = .returned (.tuple #[.slice none 0 0, .int .i64 (storeErr l)]) ∧ Ext w w' := by
  have q : (storeErr l != 0) = true := by simp [he]
  clear he
  go_enter Tryz.func18, Tryz.ntmps18
  go_wp2_with fail
  refine (scheck_any _ l _ hv hk).mono ?_
  rintro e w1 ⟨rfl, E1⟩
  go_wp2
  go_ret2
  exact ⟨rfl, E1⟩
/-- the total, as Go adds it -/
def totTo : Prs → Int
  | [] => 0
  | p :: l => p.2 + totTo l
theorem tot_app (l m : Prs) : totTo (l ++ m) = totTo l + totTo m := by
  induction l with
  | nil => simp [totTo]
  | cons p l ih => simp only [List.cons_append, totTo, ih]; omega
theorem tot_step {l : Prs} {k : Nat} (hk : k < l.length) : totTo (l.take (k + 1)) = totTo (l.take k) + l[k].2 := by
  rw [List.take_succ_eq_append_getElem hk, tot_app]; simp [totTo]
theorem tot_bd {l : Prs} (h : ∀ p ∈ l, -1000000000 ≤ p.2 ∧ p.2 ≤ 1000000000) : ∀ k, k ≤ l.length → -1000000000 * (k : Int) ≤ totTo (l.take k) ∧ totTo (l.take k) ≤ 1000000000 * (k : Int)
  | 0, _ => by simp [totTo]
  | k + 1, hk => by
    have ih := tot_bd h k (by omega)
    have := h l[k] (List.getElem_mem (by omega))
    rw [tot_step (by omega)]
    omega
def totE (l : Prs) : Int := storeErr l
set_option maxRecDepth 10000 in
set_option maxHeartbeats 1000000 in
theorem total_ok (v : Value) (l : Prs) (w : World) (hv : Seg w v 2 l.length (cP l)) (hk : ∀ p ∈ l, p.1.size ≤ 9223372036854775807) (hlen : l.length ≤ 1000000000) (he : storeErr l = 0) :
    Calls Tryz.prog 56 #[v] w fun e w' => e = .returned (.tuple #[.int .i64 (totTo l), .int .i64 0]) ∧ Ext w w' := by
  have hok := store_ok he
  have hbd := tot_bd (fun p hp => (hok.val p hp).2)
  have HB := hid hbd
  clear hbd
  obtain ⟨h0, a, cap, rfl, h1, h2, h3⟩ := hv
  have hv : Seg w (.slice a l.length cap) 2 l.length (cP l) := ⟨h0, a, cap, rfl, h1, h2, h3⟩
  unfold maxLen at h2
  have q : (storeErr l != 0) = false := by simp [he]
  have HE := hid he
  clear he
  go_enter Tryz.func56, Tryz.ntmps56
  go_wp2_with fail
  refine (scheck_any _ l _ hv hk).mono ?_
  rintro e w1 ⟨rfl, E1⟩
  go_wp2_with fail
  go_loopw [5, 7, 15] (fun o _ i wr => ∃ k : Nat, k ≤ l.length ∧ i = .int .i64 k ∧ o = .int .i64 (totTo (l.take k)) ∧ Ext w1 wr) (fun _ _ i _ => l.length - (intOf i).toNat)
  case atStart => exact ⟨0, Nat.zero_le _, rfl, rfl, Ext.refl _⟩
  case round =>
    obtain ⟨k, hkl, rfl, rfl, E⟩ := hrel
    by_cases hlt : k < l.length
    · obtain ⟨b, off, rfl, hc⟩ := h3 (by omega)
      have c := seg_pair hc hlt
      have c0 := E.cell (E1.cell c.1)
      have c1 := E.cell (E1.cell c.2)
      have hb0 := HB.out k hkl
      have hb1 := HB.out (k + 1) (by omega)
      have hst := tot_step hlt
      rw [hst] at hb1
      have HST := hid hst
      clear hc h3 c hst
      go_wp2
      go_roundw
      case rel => exact ⟨k + 1, by omega, by go_num, by rw [HST.out], E.alloc _⟩
      case measure => simp [intOf]; omega
    · obtain rfl : k = l.length := by omega
      have HT := hid (show totTo (l.take l.length) = totTo l by rw [List.take_of_length_le (Nat.le_refl _)])
      go_wp2
      go_ret2
      exact ⟨rT2 (vI HT.out) rfl, E1.trans E⟩
set_option maxRecDepth 10000 in
theorem total_bad (v : Value) (l : Prs) (w : World) (hv : Seg w v 2 l.length (cP l)) (hk : ∀ p ∈ l, p.1.size ≤ 9223372036854775807) (he : storeErr l ≠ 0) :
    Calls Tryz.prog 56 #[v] w fun e w' => e = .returned (.tuple #[.int .i64 0, .int .i64 (storeErr l)]) ∧ Ext w w' := by
  have q : (storeErr l != 0) = true := by simp [he]
  clear he
  go_enter Tryz.func56, Tryz.ntmps56
  go_wp2_with fail
  refine (scheck_any _ l _ hv hk).mono ?_
  rintro e w1 ⟨rfl, E1⟩
  go_wp2
  go_ret2
  exact ⟨rfl, E1⟩
end Go.Proofs.YtimchedebcoohaaGreat
