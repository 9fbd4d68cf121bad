/- Contracts and lemmas for the proof of MergePlays; each theorem states its own conditions. -/
import Derived.Test.YtddghaoejnbkaaaDoorQMergePlaysby
import Derived.Test.YtddghaoejnbkaaaDoorQMergePlaysbx
import Derived.Test.YtddghaoejnbkaaaDoorQMergePlaysao
import Derived.Test.YtddghaoejnbkaaaDoorQMergePlaysay
import Derived.Deep.Strs
import Derived.Test.YtddghaoejnbkaaaDoorQMergePlaysbc
set_option linter.unusedVariables false
set_option linter.unusedSimpArgs false
/- Contracts and lemmas for the proofs of this seat; each theorem states its own conditions. -/
namespace Go.Proofs.YtddghaoejnbkaaaDoor
open Go.RowKit Go.Deep Go.WideShapes Go.ChangeShapes
/-! what a row tells of an entry -/
structure EntW (x : Ent) : Prop where
  ops : opsW x.ops
  cuts : StrW x.cuts
  own : IntW x.own
theorem EntW.sz {x : Ent} (h : EntW x) : EntSz x := ⟨h.ops.sm, fun k hk => by have := h.cuts k hk; unfold maxLen at this; omega⟩
set_option maxRecDepth 10000 in
theorem entry_of_trod {H : Type} {enc : TypeId × Value → H} {W : World} {base : Nat} {held : Bool} {fuel : Nat} {cs : List Value} {x : DataW H × List MemPlace}
    (h : DataW.trod enc Tryd.prog W base (fun _ => true) held fuel 41 cs = some x) :
    ∃ e : EV, ∃ y : Ent, cs = evC e ∧ EntSeg W e y ∧ EntW y ∧ y.ops.length + y.cuts.length + y.own.length + 5 ≤ Rows.uptoBulk x.1 := by
  have kd : Tryd.prog.cellsOf 41 = 4 := by kernel_rfl
  have k0 : Tryd.prog.cellsOf 36 = 1 := by kernel_rfl
  have k1 : Tryd.prog.cellsOf 4 = 1 := by kernel_rfl
  have k2 : Tryd.prog.cellsOf 39 = 2 := by kernel_rfl
  obtain ⟨y0, y1, y2, n, rfl, hl, h0, h1, h2⟩ := trod_struct3 Tryd.underlying41 h
  rw [kd] at hl
  match cs, hl with
  | [c0, c1, c2, c3], _ =>
    simp [k0, k1, k2] at h0 h1 h2
    obtain ⟨a, len, cap, d, e0, q1, q2, q3⟩ := deed_of_trod h0
    obtain ⟨b, e1, rfl⟩ := DataW.trod_bool Tryd.underlying4 h1
    obtain ⟨v1, v2, C, O, e2, ⟨u1, u2, e3, r1, r2⟩, r3, r4, r5⟩ := map_of_trod h2
    injection e0 with e0 _
    injection e1 with e1 _
    injection e2 with e2 e4
    injection e4 with e4 _
    injection e3 with e3
    simp at e3
    obtain ⟨rfl, rfl⟩ := e3
    subst e0; subst e1; subst e2; subst e4
    refine ⟨(.slice a len cap, b, c2, c3), ⟨d, b, C, O⟩, rfl, ⟨q1, rfl, r1, r2⟩, ⟨q2, r3, r4⟩, ?_⟩
    simp only [Rows.uptoBulk, Rows.uptoBulkAll]
    show d.length + C.length + O.length + 5 ≤ _
    omega
end Go.Proofs.YtddghaoejnbkaaaDoor

/- Contracts and lemmas for the proofs of this seat; each theorem states its own conditions. -/
namespace Go.Proofs.YtddghaoejnbkaaaDoor
open Go.RowKit Go.Deep Go.WideShapes Go.ChangeShapes
/-! what a row tells of entries -/
set_option maxRecDepth 10000 in
theorem segEs_of_trod {H : Type} {enc : TypeId × Value → H} {W : World} {base : Nat} {held : Bool} {fuel : Nat} {a : Option Addr} {len cap : Nat} {x : DataW H × List MemPlace}
    (h : DataW.trod enc Tryd.prog W base (fun _ => true) held fuel 23 [.slice a len cap] = some x) :
    ∃ X : List Ent, EntsSeg W (.slice a len cap) X ∧ (∀ y ∈ X, EntW y) ∧ X.length + 1 ≤ Rows.uptoBulk x.1 := by
  have ke : Tryd.prog.cellsOf 41 = 4 := by kernel_rfl
  rcases open_slice Tryd.underlying23 h with ⟨hcs, rfl⟩ | ⟨ad, len', cap', m, n, D, Pl, hcs, _, hl, hm, hmm, rfl, hx⟩
  · injection hcs with hcs _
    injection hcs with e1 e2 e3
    subst e1; subst e2; subst e3
    exact ⟨[], ⟨[], rfl, Seg.nil _ _, fun j e x h => by simp at h⟩, by simp, by simp [Rows.uptoBulk]⟩
  · injection hcs with hcs _
    injection hcs with e1 e2 e3
    subst e1; subst e2; subst e3
    simp only [if_true] at hmm
    have key : ∀ i, i < len → ∃ p : EV × Ent, (W.cell? (ad.add (i * 4)) = some p.1.1 ∧ W.cell? (ad.add (i * 4 + 1)) = some (.bool p.1.2.1) ∧ W.cell? (ad.add (i * 4 + 2)) = some p.1.2.2.1 ∧ W.cell? (ad.add (i * 4 + 3)) = some p.1.2.2.2) ∧ EntSeg W p.1 p.2 ∧ EntW p.2 := fun i hi => by
      obtain ⟨cs', h1, h2⟩ := hx i (by omega)
      rw [ke] at h1
      obtain ⟨_, hlen, hcell⟩ := World.cells?_some h1
      obtain ⟨e, y, rfl, q1, q2, _⟩ := entry_of_trod h2
      have e0 := hcell 0 (by simp [evC])
      have e1 := hcell 1 (by simp [evC])
      have e2 := hcell 2 (by simp [evC])
      have e3 := hcell 3 (by simp [evC])
      rw [add_add] at e0 e1 e2 e3
      simp [evC] at e0 e1 e2 e3
      exact ⟨(e, y), ⟨e0, e1, e2, e3⟩, q1, q2⟩
    obtain ⟨f, hf⟩ : ∃ f : Nat → EV × Ent, ∀ i, i < len → (W.cell? (ad.add (i * 4)) = some (f i).1.1 ∧ W.cell? (ad.add (i * 4 + 1)) = some (.bool (f i).1.2.1) ∧ W.cell? (ad.add (i * 4 + 2)) = some (f i).1.2.2.1 ∧ W.cell? (ad.add (i * 4 + 3)) = some (f i).1.2.2.2) ∧ EntSeg W (f i).1 (f i).2 ∧ EntW (f i).2 := by
      refine ⟨fun i => if hi : i < len then (key i hi).choose else ((.slice none 0 0, false, .slice none 0 0, .slice none 0 0), ⟨[], false, [], []⟩), fun i hi => ?_⟩
      simp only [dif_pos hi]
      exact (key i hi).choose_spec
    have hg : ∀ (j : Nat) (e : EV), ((List.range len).map fun i => (f i).1)[j]? = some e → j < len ∧ e = (f j).1 := fun j e he => by
      have hj := (List.getElem?_eq_some_iff.1 he).1
      simp at hj
      rw [List.getElem?_map, List.getElem?_range hj] at he
      exact ⟨hj, by simpa using he.symm⟩
    have hy : ∀ (j : Nat) (y : Ent), ((List.range len).map fun i => (f i).2)[j]? = some y → j < len ∧ y = (f j).2 := fun j y he => by
      have hj := (List.getElem?_eq_some_iff.1 he).1
      simp at hj
      rw [List.getElem?_map, List.getElem?_range hj] at he
      exact ⟨hj, by simpa using he.symm⟩
    refine ⟨(List.range len).map fun i => (f i).2, ⟨(List.range len).map fun i => (f i).1, by simp, ⟨by rw [cEn_len]; simp, some ad, cap, by simp, by simpa using hl, hm, fun hn => ?_⟩, fun j e y he hye => ?_⟩, fun y hye => ?_, ?_⟩
    · simp at hn
      have hs := cell_spot (hf 0 (by omega)).1.1
      obtain ⟨b, off, sp⟩ := ad
      have : sp = none := by simpa [Addr.add] using hs
      subst this
      refine ⟨b, off, rfl, fun j u hu => ?_⟩
      have hj := (List.getElem?_eq_some_iff.1 hu).1
      rw [cEn_len] at hj
      simp at hj
      have hk : j / 4 < ((List.range len).map fun i => (f i).1).length := by simp; omega
      have ek : ((List.range len).map fun i => (f i).1)[j / 4] = (f (j / 4)).1 := by simp
      obtain ⟨⟨g0, g1, g2, g3⟩, _⟩ := hf (j / 4) (by omega)
      rw [addr_add] at g0 g1 g2 g3
      obtain ⟨k0, k1, k2, k3⟩ := cEn_at _ hk
      rw [ek] at k0 k1 k2 k3
      have hlt := Nat.mod_lt j (show 0 < 4 by omega)
      rcases (show j % 4 = 0 ∨ j % 4 = 1 ∨ j % 4 = 2 ∨ j % 4 = 3 by omega) with e | e | e | e
      · have hj2 : j = j / 4 * 4 := by omega
        rw [← hj2] at k0 g0
        rw [hu] at k0
        injection k0 with c
        rw [c, ← g0]
      · have hj2 : j = j / 4 * 4 + 1 := by omega
        rw [← hj2] at k1 g1
        rw [hu] at k1
        injection k1 with c
        rw [c, ← g1]
      · have hj2 : j = j / 4 * 4 + 2 := by omega
        rw [← hj2] at k2 g2
        rw [hu] at k2
        injection k2 with c
        rw [c, ← g2]
      · have hj2 : j = j / 4 * 4 + 3 := by omega
        rw [← hj2] at k3 g3
        rw [hu] at k3
        injection k3 with c
        rw [c, ← g3]
    · obtain ⟨hj, rfl⟩ := hg j e he
      obtain ⟨_, rfl⟩ := hy j y hye
      exact (hf j hj).2.1
    · obtain ⟨j, hj, rfl⟩ := List.mem_map.1 hye
      exact (hf j (List.mem_range.1 hj)).2.2
    · have hb := bulk_map (c := 1) (f := D) (l := List.range len) (fun i _ => bulk_one _)
      simp only [List.length_range] at hb
      simp only [List.length_map, List.length_range, Rows.uptoBulk]
      omega
end Go.Proofs.YtddghaoejnbkaaaDoor
