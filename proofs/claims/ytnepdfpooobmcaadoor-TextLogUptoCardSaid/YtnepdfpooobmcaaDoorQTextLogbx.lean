/- Contracts and lemmas for the proof of TextLog; each theorem states its own conditions. -/
import Derived.Test.YtnepdfpooobmcaaDoorQTextLogbw
import Derived.Test.YtnepdfpooobmcaaDoorQTextLogao
import Derived.Shelf.Strings.Search3
import Derived.Shelf.Strings.Count
import Derived.Test.YtnepdfpooobmcaaDoorProg
import Derived.Test.YtnepdfpooobmcaaDoorQTextLogaa
set_option linter.unusedVariables false
set_option linter.unusedSimpArgs false
/- Contracts and lemmas for the proofs of this seat; each theorem states its own conditions. -/
namespace Go.Proofs.YtnepdfpooobmcaaDoor
open Go.RowKit
/-! rokeep.mergeBegun, rokeep.fed -/
theorem SegLL.in {w : World} {v : Value} {ls : List (List Int)} (h : SegLL w v ls) : ∃ (a : Option Addr) (c : Nat) (us : List Value), v = .slice a ls.length c ∧ ls.length ≤ c ∧ c ≤ maxLen ∧ us.length = ls.length ∧ (0 < ls.length → ∃ b off, a = some ⟨b, off, none⟩ ∧ ∀ j u, us[j]? = some u → w.cell? ⟨b, off + j, none⟩ = some u) ∧ ∀ (i : Nat) (u : Value) (m : List Int), us[i]? = some u → ls[i]? = some m → Seg w u 1 m.length (cI m) := by
  obtain ⟨us, h1, ⟨_, a, c, rfl, h2, h3, h4⟩, h5⟩ := h
  rw [h1] at h2 h4 ⊢
  exact ⟨a, c, us, rfl, h2, h3, h1, h4, h5⟩
/-- entries that lie beside what turns -/
def EntsO (w : World) (S : Nat → Prop) (v : Value) (X : List Ent) : Prop := ∃ es, EntsSt 0 w es X ∧ Seg w v 4 X.length (cEn es) ∧ ∀ b off n c, v = .slice (some ⟨b, off, none⟩) n c → 0 < X.length → ¬ S b
theorem EntsO.seg {w : World} {S : Nat → Prop} {v : Value} {X : List Ent} (h : EntsO w S v X) : EntsSeg w v X := by
  obtain ⟨es, h1, h2, _⟩ := h
  exact ⟨es, h1.1, h2, fun j e x a b => (h1.2 j e x a b).seg⟩
theorem EntsO.ext {S : Nat → Prop} {w w' : World} {v : Value} {X : List Ent} (h : EntsO w S v X) (E : Ext w w') : EntsO w' S v X := by
  obtain ⟨es, h1, h2, h3⟩ := h
  exact ⟨es, h1.ext E, h2.ext E, h3⟩
theorem SegLL.low {w0 w w' : World} {S S' : Nat → Prop} {v : Value} {ls : List (List Int)} (h : SegLL w0 v ls) (E : Ext w0 w) (k : Kp S w w' S') (hS : ∀ i, S i → w0.heap.size ≤ i) : SegLL w' v ls := h.ext (k.low E hS).1
end Go.Proofs.YtnepdfpooobmcaaDoor

/- Contracts and lemmas for the proofs of this seat; each theorem states its own conditions. -/
namespace Go.Proofs.YtnepdfpooobmcaaDoor
open Go.RowKit
/-! MergeGrows: what is used besides -/
/-- one entry of some -/
theorem EntsO.one {w : World} {S : Nat → Prop} {b off c i : Nat} {X : List Ent} (h : EntsO w S (.slice (some ⟨b, off, none⟩) X.length c) X) (hi : i < X.length) : EntsO w S (.slice (some ⟨b, off + i * 4, none⟩) 1 (c - i)) [X[i]] := by
  obtain ⟨es, h1, h2, h3⟩ := h
  have hie : i < es.length := by have := h1.1; omega
  obtain ⟨b', off', he, _, p1, p2, hc⟩ := seg_cells h2 (by omega)
  injection he with he; injection he with e1 e2
  subst e1; subst e2
  obtain ⟨x0, x1, x2, x3⟩ := cEn_at es hie
  replace x0 := hc _ _ x0
  replace x1 := hc _ _ x1
  replace x2 := hc _ _ x2
  replace x3 := hc _ _ x3
  refine ⟨[es[i]], ⟨rfl, fun j e x a b => ?_⟩, ⟨rfl, _, _, rfl, (show 1 ≤ c - i by omega), by omega, fun _ => ⟨b, _, rfl, fun j u hu => ?_⟩⟩, fun b' off' n' c' e _ => ?_⟩
  · have hj : j = 0 := by have := (List.getElem?_eq_some_iff.1 a).1; simp at this; omega
    subst hj; simp at a b; subst a; subst b
    exact h1.2 i _ _ (List.getElem?_eq_getElem hie) (List.getElem?_eq_getElem hi)
  · have hcell : ∀ m, off + i * 4 + m = off + (i * 4 + m) := fun m => by omega
    rw [hcell]
    have hu' : (evC es[i])[j]? = some u := by simpa [cEn] using hu
    rcases j with _ | _ | _ | _ | j
    · simp [evC] at hu'; subst hu'; exact x0
    · simp [evC] at hu'; subst hu'; exact x1
    · simp [evC] at hu'; subst hu'; exact x2
    · simp [evC] at hu'; subst hu'; exact x3
    · simp [evC] at hu'
  · injection e with e _ _; injection e with e; injection e with e1 e2
    subst e1
    exact h3 b off _ _ rfl (by omega)
theorem EntsO.nil (w : World) (S : Nat → Prop) : EntsO w S (.slice none 0 0) [] := ⟨[], EntsSt.nil w, Seg.nil _ _, fun b off n c h => by cases h⟩
/-- one list of some -/
theorem SegLL.one {w : World} {b off c i : Nat} {ls : List (List Int)} (h : SegLL w (.slice (some ⟨b, off, none⟩) ls.length c) ls) (hi : i < ls.length) : SegLL w (.slice (some ⟨b, off + i, none⟩) 1 (c - i)) [ls[i]] := by
  obtain ⟨us, h1, h2, h3⟩ := h
  have hiu : i < us.length := by omega
  obtain ⟨b', off', he, _, p1, p2, hc⟩ := seg_cells h2 (by omega)
  injection he with he; injection he with e1 e2
  subst e1; subst e2
  have x0 := hc i us[i] (List.getElem?_eq_getElem hiu)
  refine ⟨[us[i]], rfl, ⟨rfl, _, _, rfl, ?_, by omega, fun _ => ⟨b, _, rfl, fun j u hu => ?_⟩⟩, fun j u m a b => ?_⟩
  · show 1 ≤ c - i; omega
  · have hj : j = 0 := by have := (List.getElem?_eq_some_iff.1 hu).1; simp at this; omega
    subst hj; simp at hu; subst hu
    exact x0
  · have hj : j = 0 := by have := (List.getElem?_eq_some_iff.1 a).1; simp at this; omega
    subst hj; simp at a b; subst a; subst b
    exact h3 i _ _ (List.getElem?_eq_getElem hiu) (List.getElem?_eq_getElem hi)
/-- the first of some entries -/
theorem EntsSeg.take {w : World} {a : Option Addr} {c m : Nat} {X : List Ent} (h : EntsSeg w (.slice a X.length c) X) (hm : m ≤ X.length) : EntsSeg w (.slice a m c) (X.take m) := by
  obtain ⟨es, h1, ⟨g0, a', c', e, g1, g2, g3⟩, h3⟩ := h
  injection e with e1 _ e2
  subst e1; subst e2
  have hl : (X.take m).length = m := by rw [List.length_take]; omega
  refine ⟨es.take m, by rw [List.length_take, hl]; omega, ⟨by rw [cEn_len, List.length_take, hl]; omega, a, c, by rw [hl], by omega, g2, fun hn => ?_⟩, fun j e x p q => ?_⟩
  · rw [hl] at hn
    obtain ⟨b, off, rfl, hc⟩ := g3 (by omega)
    refine ⟨b, off, rfl, fun j u hu => hc j u ?_⟩
    rw [← cEn_take] at hu
    have hj := (List.getElem?_eq_some_iff.1 hu).1
    rw [List.length_take] at hj
    rw [List.getElem?_take_of_lt (by omega)] at hu
    exact hu
  · have hj := (List.getElem?_eq_some_iff.1 q).1
    rw [hl] at hj
    rw [List.getElem?_take_of_lt hj] at p q
    exact h3 j e x p q
/-- a log lies beside what was there -/
theorem LogR.off {w : World} {S : Nat → Prop} {T : List Nat} {X : List Ent} {v : Value} {a : World} (h : LogR w X v a) (ty : TyS w S T) : EntsO a S v X := by
  obtain ⟨es, h1, h2, h3⟩ := h
  refine ⟨es, h1.low (Nat.zero_le _), own_seg h2, fun b off n c e hn hb => ?_⟩
  have := ty.lt hb
  have := own_ge h2 b (by
    rcases h2.2 with ⟨e', _⟩ | ⟨g, cap, cur, e', _⟩
    · rw [e'] at e; cases e
    · rw [e'] at e ⊢
      injection e with e _ _; injection e with e; injection e with e1 e2
      subst e1; rfl)
  omega
end Go.Proofs.YtnepdfpooobmcaaDoor

/- Contracts and lemmas for the proofs of this seat; each theorem states its own conditions. -/
namespace Go.Proofs.YtnepdfpooobmcaaDoor
open Go.Shelf
def lays144_ren : Go.Shelf.Ren := ⟨fun | 144 => 25 | 143 => 62 | 219 => 91 | 217 => 87 | 225 => 118 | 224 => 119 | 267 => 120 | 266 => 115 | 314 => 143 | n => n, fun | 9 => 9 | 4 => 4 | 3 => 3 | 5 => 5 | 46 => 114 | 146 => 174 | 51 => 173 | n => n, fun | 1 => 0 | n => n⟩
theorem lays144 : Go.Proofs.Lays.n144 Tryd.prog lays144_ren := {
  mixed := by kernel_rfl
  f143 := Tryd.func62.trans (congrArg some (by kernel_rfl))
  f144 := Tryd.func25.trans (congrArg some (by kernel_rfl))
  f217 := Tryd.func87.trans (congrArg some (by kernel_rfl))
  f219 := Tryd.func91.trans (congrArg some (by kernel_rfl))
  f224 := Tryd.func119.trans (congrArg some (by kernel_rfl))
  f225 := Tryd.func118.trans (congrArg some (by kernel_rfl))
  f266 := Tryd.func115.trans (congrArg some (by kernel_rfl))
  f267 := Tryd.func120.trans (congrArg some (by kernel_rfl))
  f314 := Tryd.func143.trans (congrArg some (by kernel_rfl))
  t3 := Tryd.underlying3
  a3 := Tryd.isAgg3
  z3 := Tryd.sizeOf3
  v3 := Tryd.zeroValue3
  t4 := Tryd.underlying4
  a4 := Tryd.isAgg4
  z4 := Tryd.sizeOf4
  v4 := Tryd.zeroValue4
  t5 := Tryd.underlying5
  a5 := Tryd.isAgg5
  z5 := Tryd.sizeOf5
  v5 := Tryd.zeroValue5
  t9 := Tryd.underlying9
  a9 := Tryd.isAgg9
  z9 := Tryd.sizeOf9
  v9 := Tryd.zeroValue9
  t46 := Tryd.underlying114
  a46 := Tryd.isAgg114
  z46 := Tryd.sizeOf114
  v46 := Tryd.zeroValue114
  t51 := Tryd.underlying173
  a51 := Tryd.isAgg173
  z51 := Tryd.sizeOf173
  v51 := Tryd.zeroValue173
  t146 := Tryd.underlying174
  a146 := Tryd.isAgg174
  z146 := Tryd.sizeOf174
  v146 := Tryd.zeroValue174
  g1 := by kernel_rfl }
def lays138_ren : Go.Shelf.Ren := ⟨fun | 138 => 26 | 195 => 63 | 218 => 64 | 143 => 62 | 219 => 91 | 217 => 87 | 225 => 118 | 224 => 119 | 267 => 120 | 266 => 115 | 314 => 143 | n => n, fun | 9 => 9 | 3 => 3 | 4 => 4 | 5 => 5 | 0 => 0 | 46 => 114 | 146 => 174 | 51 => 173 | n => n, fun | 1 => 0 | n => n⟩
theorem lays138 : Go.Proofs.Lays.n138 Tryd.prog lays138_ren := {
  mixed := by kernel_rfl
  f138 := Tryd.func26.trans (congrArg some (by kernel_rfl))
  f143 := Tryd.func62.trans (congrArg some (by kernel_rfl))
  f195 := Tryd.func63.trans (congrArg some (by kernel_rfl))
  f217 := Tryd.func87.trans (congrArg some (by kernel_rfl))
  f218 := Tryd.func64.trans (congrArg some (by kernel_rfl))
  f219 := Tryd.func91.trans (congrArg some (by kernel_rfl))
  f224 := Tryd.func119.trans (congrArg some (by kernel_rfl))
  f225 := Tryd.func118.trans (congrArg some (by kernel_rfl))
  f266 := Tryd.func115.trans (congrArg some (by kernel_rfl))
  f267 := Tryd.func120.trans (congrArg some (by kernel_rfl))
  f314 := Tryd.func143.trans (congrArg some (by kernel_rfl))
  t0 := Tryd.underlying0
  a0 := Tryd.isAgg0
  z0 := Tryd.sizeOf0
  v0 := Tryd.zeroValue0
  t3 := Tryd.underlying3
  a3 := Tryd.isAgg3
  z3 := Tryd.sizeOf3
  v3 := Tryd.zeroValue3
  t4 := Tryd.underlying4
  a4 := Tryd.isAgg4
  z4 := Tryd.sizeOf4
  v4 := Tryd.zeroValue4
  t5 := Tryd.underlying5
  a5 := Tryd.isAgg5
  z5 := Tryd.sizeOf5
  v5 := Tryd.zeroValue5
  t9 := Tryd.underlying9
  a9 := Tryd.isAgg9
  z9 := Tryd.sizeOf9
  v9 := Tryd.zeroValue9
  t46 := Tryd.underlying114
  a46 := Tryd.isAgg114
  z46 := Tryd.sizeOf114
  v46 := Tryd.zeroValue114
  t51 := Tryd.underlying173
  a51 := Tryd.isAgg173
  z51 := Tryd.sizeOf173
  v51 := Tryd.zeroValue173
  t146 := Tryd.underlying174
  a146 := Tryd.isAgg174
  z146 := Tryd.sizeOf174
  v146 := Tryd.zeroValue174
  g1 := by kernel_rfl }
end Go.Proofs.YtnepdfpooobmcaaDoor
