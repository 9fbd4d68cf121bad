/- Contracts and lemmas for the proof of MergePlays; each theorem states its own conditions. -/
import Derived.Test.YtddghaoejnbkaaaDoorQMergePlaysbc
import Derived.Test.YtddghaoejnbkaaaDoorQMergePlaysbj
import Derived.Test.YtddghaoejnbkaaaDoorQMergePlaysaq
import Derived.Test.YtddghaoejnbkaaaDoorQMergePlaysax
set_option linter.unusedVariables false
set_option linter.unusedSimpArgs false
/- Contracts and lemmas for the proofs of this seat; each theorem states its own conditions. -/
namespace Go.Proofs.YtddghaoejnbkaaaDoor
open Go.RowKit
/-! roref.BareEntry -/
def bareV (e : EV) : EV := if e.2.1 = true then (.slice none 0 0, true, e.2.2.1, e.2.2.2) else (e.1, false, .slice none 0 0, .slice none 0 0)
def halfE (x : Ent) : Ent := if x.im = true then ⟨[], true, x.cuts, x.own⟩ else ⟨x.ops, false, [], []⟩
theorem bareV_seg {w : World} {e : EV} {x : Ent} (h : EntSeg w e x) : EntSeg w (bareV e) (halfE x) := by
  obtain ⟨v1, b, v2, v3⟩ := e
  obtain ⟨h1, hb, h2, h3⟩ := h
  dsimp only at h1 hb h2 h3
  unfold bareV halfE
  rw [← hb]
  cases b with
  | true => exact ⟨Seg.nil _ _, rfl, h2, h3⟩
  | false => exact ⟨h1, rfl, Seg.nil _ _, Seg.nil _ _⟩
set_option maxRecDepth 10000 in
set_option maxHeartbeats 2000000 in
theorem bareE_any (e : EV) (x : Ent) (w : World) (h : EntSeg w e x) :
    Calls Tryd.prog 28 #[evV e] w fun r w' => r = .returned (evV (bareV e)) ∧ Ext w w' := by
  obtain ⟨v1, b, v2, v3⟩ := e
  obtain ⟨h1, hb, h2, h3⟩ := h
  dsimp only at h1 hb h2 h3
  obtain ⟨a1, k1, rfl⟩ := seg_form h1
  obtain ⟨a2, k2, rfl⟩ := seg_form h2
  obtain ⟨a3, k3, rfl⟩ := seg_form h3
  generalize x.ops.length = n1
  generalize x.cuts.length = n2
  generalize x.own.length = n3
  clear h1 h2 h3 hb
  show Calls _ _ #[.agg #[.slice a1 n1 k1, .bool b, .slice a2 n2 k2, .slice a3 n3 k3]] _ _
  cases b with
  | true =>
    have E0 := hid (((Ext.refl w).alloc (.cells #[.slice a1 n1 k1, .bool true, .slice a2 n2 k2, .slice a3 n3 k3] 41)).alloc (.cells #[.slice none 0 0, .bool true, .slice a2 n2 k2, .slice a3 n3 k3] 41))
    have b1 := heap_1 w (.cells #[.slice a1 n1 k1, .bool true, .slice a2 n2 k2, .slice a3 n3 k3] 41) (.cells #[.slice none 0 0, .bool false, .slice none 0 0, .slice none 0 0] 41)
    have b2 := heap_2 w (.cells #[.slice a1 n1 k1, .bool true, .slice a2 n2 k2, .slice a3 n3 k3] 41) (.cells #[.slice none 0 0, .bool false, .slice none 0 0, .slice none 0 0] 41)
    have c1 := blk4 b1
    obtain ⟨f1, f2, f3, f4⟩ := frz4 b2
    have r4 := blk4 (heap_2 w (.cells #[.slice a1 n1 k1, .bool true, .slice a2 n2 k2, .slice a3 n3 k3] 41) (.cells #[.slice none 0 0, .bool true, .slice a2 n2 k2, .slice a3 n3 k3] 41))
    go_enter Tryd.func28, Tryd.ntmps28
    go_wp2
    exact bodyPost_ret (v := .agg #[.slice none 0 0, .bool true, .slice a2 n2 k2, .slice a3 n3 k3]) (by simp [results, Tryd.results28, go_sem, r4.1, r4.2.1, r4.2.2.1, r4.2.2.2]) rfl ⟨rfl, E0.out⟩
  | false =>
    have E0 := hid (((Ext.refl w).alloc (.cells #[.slice a1 n1 k1, .bool false, .slice a2 n2 k2, .slice a3 n3 k3] 41)).alloc (.cells #[.slice a1 n1 k1, .bool false, .slice none 0 0, .slice none 0 0] 41))
    have b1 := heap_1 w (.cells #[.slice a1 n1 k1, .bool false, .slice a2 n2 k2, .slice a3 n3 k3] 41) (.cells #[.slice none 0 0, .bool false, .slice none 0 0, .slice none 0 0] 41)
    have b2 := heap_2 w (.cells #[.slice a1 n1 k1, .bool false, .slice a2 n2 k2, .slice a3 n3 k3] 41) (.cells #[.slice none 0 0, .bool false, .slice none 0 0, .slice none 0 0] 41)
    have c1 := blk4 b1
    obtain ⟨f1, f2, f3, f4⟩ := frz4 b2
    have r4 := blk4 (heap_2 w (.cells #[.slice a1 n1 k1, .bool false, .slice a2 n2 k2, .slice a3 n3 k3] 41) (.cells #[.slice a1 n1 k1, .bool false, .slice none 0 0, .slice none 0 0] 41))
    go_enter Tryd.func28, Tryd.ntmps28
    go_wp2
    exact bodyPost_ret (v := .agg #[.slice a1 n1 k1, .bool false, .slice none 0 0, .slice none 0 0]) (by simp [results, Tryd.results28, go_sem, r4.1, r4.2.1, r4.2.2.1, r4.2.2.2]) rfl ⟨rfl, E0.out⟩
end Go.Proofs.YtddghaoejnbkaaaDoor

/- Contracts and lemmas for the proofs of this seat; each theorem states its own conditions. -/
namespace Go.Proofs.YtddghaoejnbkaaaDoor
open Go.RowKit
/-! roref.Merge: what its turns leave -/
theorem set_some {α : Type} {l : List α} {i j : Nat} {x y : α} (h : (l.set i x)[j]? = some y) : (j = i ∧ y = x) ∨ (j ≠ i ∧ l[j]? = some y) := by
  by_cases e : j = i
  · subst e
    rw [List.getElem?_set] at h
    rw [if_pos rfl] at h
    split at h
    · injection h with h; exact .inl ⟨rfl, h.symm⟩
    · cases h
  · rw [List.getElem?_set_ne (fun q => e q.symm)] at h
    exact .inr ⟨e, h⟩
/-- one input's row turns, and is stored -/
theorem RMG.store {w w1 : World} {S P : Nat → Prop} {bm : Nat} {us : List Value} {bs : List (List Bat)} {bo c : Nat} (h : RMG w S P bm (.slice (some ⟨bo, 0, none⟩) us.length c) us bs) {i : Nat} {u : Value} {l : List Bat} (hu : us[i]? = some u) (hl : bs[i]? = some l) {ts ts' : List Value} (hts : w.ownsRow 0 23 1 u l.length ts) (hS : ∀ k, u.ownBlock = some k → S k) {v : Value} {l' : List Bat} (ho : w1.ownsRow 0 23 1 v l'.length ts') (hg : w.grownBy w1 u.ownBlock) (hv : ∀ k, v.ownBlock = some k → u.ownBlock = some k ∨ w.heap.size ≤ k) (hE : ∀ (k : Nat) (t : Value) (X : Bat), ts'[k]? = some t → l'[k]? = some X → EntsP w P t X) (h1 : 1 ≤ l'.length) (h61 : l'.length ≤ 61) :
    ∃ S', RMG (w1.setCell ⟨bo, i, none⟩ v) S' P bm (.slice (some ⟨bo, 0, none⟩) us.length c) (us.set i v) (bs.set i l') ∧ Kp S w (w1.setCell ⟨bo, i, none⟩ v) S' := by
  have iu : i < us.length := (List.getElem?_eq_some_iff.1 hu).1
  have hs := grown_set w1 bo i v
  have hbo : S bo := h.so bo rfl
  obtain ⟨co, hco⟩ := own_some h.outer (k := bo) rfl
  have no := own_ne hts hco (by decide)
  have hco1 := grown_heap hg hco no
  have hbx1 := grown_heap hg h.box (own_ne hts h.box (by decide))
  have nb : bm ≠ bo := fun e => by have a := h.box; rw [e, hco] at a; injection a with a; injection a with _ a; exact absurd a (by decide)
  have out1 := grown_own hg h.outer (own_own_ne h.outer hts (by decide))
  have out2 := own_cell_set out1 (i := i) iu v
  obtain ⟨co2, hco2⟩ := own_some out2 (k := bo) rfl
  have nv := own_ne ho hco1 (by decide)
  have hK1 : Kp S w (w1.setCell ⟨bo, i, none⟩ v) S := (Kp.of_grown hg hS).put hbo v
  have sP : SameP P w (w1.setCell ⟨bo, i, none⟩ v) := SameP.of_kp hK1 h.dis
  have hK : Kp S w (w1.setCell ⟨bo, i, none⟩ v) (fun k => (S k ∧ u.ownBlock ≠ some k) ∨ v.ownBlock = some k) := hK1.wide fun k hk => by
    rcases hk with a | a
    · exact .inl a.1
    · rcases hv k a with b | b
      · exact .inl (hS k b)
      · exact .inr b
  have hlt : ∀ (j : Nat) (x : Value), us[j]? = some x → ∀ k, x.ownBlock = some k → k < w.heap.size := fun j x hj k hk => by
    have jb : j < bs.length := by have := (List.getElem?_eq_some_iff.1 hj).1; have := h.ln; omega
    obtain ⟨_, r1, _⟩ := h.rows j x bs[j] hj (List.getElem?_eq_getElem jb)
    exact (r1.lt k hk).2
  refine ⟨_, ⟨by rw [List.length_set, List.length_set]; exact h.ln, by rw [List.length_set]; exact h.n0, by rw [List.length_set]; exact h.n4, heap_set_far hbx1 nb, by rw [List.length_set]; exact out2, fun j x y hx hy => ?_, fun j j' x y hx hy hne k hk hk' => ?_, .inl ⟨h.sb, own_ne hts h.box (by decide)⟩, fun k hk => ?_, fun k hk => ?_, fun q hq hs' => ?_, fun q hq => Nat.lt_of_lt_of_le (h.pl q hq) hK1.size⟩, hK⟩
  · rcases set_some hx with ⟨ej, ex⟩ | ⟨e, hx2⟩
    · rcases set_some hy with ⟨_, ey⟩ | ⟨e, _⟩
      · rw [ex, ey]
        exact ⟨ts', own_set_other (p := ⟨bo, i, none⟩) ho nv v, fun k t X a b => (hE k t X a b).same sP, h1, h61, fun k hk => .inr hk⟩
      · exact absurd ej e
    · rcases set_some hy with ⟨e', _⟩ | ⟨_, hy2⟩
      · exact absurd e' e
      · obtain ⟨ts2, r1, r2, r3, r4, r5⟩ := h.rows j x y hx2 hy2
        have ap := h.apart j i x u hx2 hu e
        have r1' := grown_own hg r1 (apart_ne (fun k a b => ap k a b))
        exact ⟨ts2, own_set_other (p := ⟨bo, i, none⟩) r1' (own_ne r1' hco1 (by decide)) v, fun k t X a b => (r2 k t X a b).same sP, r3, r4, fun k hk => .inl ⟨r5 k hk, fun q => ap k hk q⟩⟩
  · rcases set_some hx with ⟨ej, ex⟩ | ⟨e, hx2⟩
    · rcases set_some hy with ⟨e', _⟩ | ⟨e', hy2⟩
      · exact hne (ej.trans e'.symm)
      · rw [ex] at hk
        rcases hv k hk with b | b
        · exact h.apart i j' u y hu hy2 (fun q => e' q.symm) k b hk'
        · have := hlt j' y hy2 k hk'; omega
    · rcases set_some hy with ⟨ej', ey⟩ | ⟨e', hy2⟩
      · rw [ey] at hk'
        rcases hv k hk' with b | b
        · exact h.apart j i x u hx2 hu e k hk b
        · have := hlt j x hx2 k hk; omega
      · exact h.apart j j' x y hx2 hy2 hne k hk hk'
  · have e : k = bo := by injection hk with hk; exact hk.symm
    subst e
    exact .inl ⟨hbo, no⟩
  · rcases hk with ⟨a, b⟩ | a
    · obtain ⟨cs, t, hc, hm⟩ := h.ty k a
      by_cases e : k = bo
      · subst e; exact ⟨_, _, hco2, by decide⟩
      · exact ⟨cs, t, heap_set_far (p := ⟨bo, i, none⟩) (grown_heap hg hc b) e, hm⟩
    · obtain ⟨cur, hc⟩ := own_some ho a
      exact ⟨cur, _, heap_set_far (p := ⟨bo, i, none⟩) hc (fun e => nv (by rw [a, e])), by decide⟩
  · rcases hs' with a | a
    · exact h.dis q hq a.1
    · rcases hv q a with b | b
      · exact h.dis q hq (hS q b)
      · have := h.pl q hq; omega
/-- one batch is put into its row -/
theorem RMG.put {w w1 : World} {S P P' : Nat → Prop} {bm : Nat} {vB : Value} {us : List Value} {bs : List (List Bat)} (h : RMG w S P bm vB us bs) (E : Ext w w1) {i : Nat} {bu cu : Nat} {l : List Bat} (hu : us[i]? = some (.slice (some ⟨bu, 0, none⟩) l.length cu)) (hl : bs[i]? = some l) {k : Nat} (hk : k < l.length) {t : Value} {X : Bat} (hX : EntsP w1 P' t X) (hP : ∀ q, P q → P' q) (hN : ∀ q, P' q → P q ∨ w.heap.size ≤ q) (hP1 : ∀ q, P' q → q < w1.heap.size) :
    RMG (w1.setCell ⟨bu, k, none⟩ t) S P' bm vB us (bs.set i (l.set k X)) ∧ Kp S w (w1.setCell ⟨bu, k, none⟩ t) S := by
  have H1 := h.ext E
  obtain ⟨ts, r1, r2, r3, r4, r5⟩ := H1.rows i _ l hu hl
  have hSu : S bu := r5 bu rfl
  obtain ⟨cb, hcb⟩ := own_some r1 (k := bu) rfl
  have dis' : ∀ q, P' q → ¬ S q := fun q hq hs => by
    rcases hN q hq with a | a
    · exact h.dis q a hs
    · have := h.ty.lt hs; omega
  have hK : Kp S w (w1.setCell ⟨bu, k, none⟩ t) S := (Kp.of_ext E).put hSu t
  have hK1 : Kp S w1 (w1.setCell ⟨bu, k, none⟩ t) S := (Kp.refl S w1).put hSu t
  have sP : SameP P' w1 (w1.setCell ⟨bu, k, none⟩ t) := SameP.of_kp hK1 dis'
  have htl : k < ts.length := by have := r1.1; omega
  have row := own_cell_set r1 (i := k) htl t
  have nbm : bm ≠ bu := fun e => by have a := H1.box; rw [e, hcb] at a; injection a with a; injection a with _ a; exact absurd a (by decide)
  obtain ⟨cb2, hcb2⟩ := own_some row (k := bu) rfl
  refine ⟨⟨by rw [List.length_set]; exact h.ln, by rw [List.length_set]; exact h.n0, by rw [List.length_set]; exact h.n4, heap_set_far H1.box nbm, own_set_other (p := ⟨bu, k, none⟩) H1.outer (own_ne H1.outer hcb (by decide)) t, fun j x y hx hy => ?_, h.apart, h.sb, h.so, fun q hq => ?_, dis', fun q hq => Nat.lt_of_lt_of_le (hP1 q hq) hK1.size⟩, hK⟩
  · rcases set_some hy with ⟨ej, ey⟩ | ⟨e, hy2⟩
    · subst ej
      rw [hu] at hx
      injection hx with hx
      rw [← hx, ey]
      refine ⟨ts.set k t, by rw [List.length_set]; exact row, fun m t' X' a b => ?_, by rw [List.length_set]; exact r3, by rw [List.length_set]; exact r4, r5⟩
      rcases set_some a with ⟨em, et⟩ | ⟨e, a2⟩
      · rcases set_some b with ⟨_, eX⟩ | ⟨e, _⟩
        · rw [et, eX]; exact hX.same sP
        · exact absurd em e
      · rcases set_some b with ⟨e', _⟩ | ⟨_, b2⟩
        · exact absurd e' e
        · exact ((r2 m t' X' a2 b2).mono hP).same sP
    · obtain ⟨ts2, q1, q2, q3, q4, q5⟩ := H1.rows j x y hx hy2
      have ap := h.apart j i x _ hx hu e
      refine ⟨ts2, own_set_other (p := ⟨bu, k, none⟩) q1 (fun q => ap bu q rfl) t, fun m t' X' a b => ((q2 m t' X' a b).mono hP).same sP, q3, q4, q5⟩
  · obtain ⟨cs, t', hc, hm⟩ := H1.ty q hq
    by_cases e : q = bu
    · subst e; exact ⟨_, _, hcb2, by decide⟩
    · exact ⟨cs, t', heap_set_far (p := ⟨bu, k, none⟩) hc e, hm⟩
end Go.Proofs.YtddghaoejnbkaaaDoor
