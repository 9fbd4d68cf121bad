/- Contracts and lemmas for the proof of ShardFind; each theorem states its own conditions. -/
import Derived.Test.YtnepdfpooobmcaaDoorQShardFindbc
import Derived.Test.YtnepdfpooobmcaaDoorQShardFindbd
import Derived.Test.YtnepdfpooobmcaaDoorQShardFindbe
import Derived.Test.YtnepdfpooobmcaaDoorQShardFindba
import Derived.Test.YtnepdfpooobmcaaDoorQShardFindat
import Derived.OneCell
set_option linter.unusedVariables false
set_option linter.unusedSimpArgs false
/- Contracts and lemmas for the proofs of this seat; each theorem states its own conditions. -/
namespace Go.Proofs.YtnepdfpooobmcaaDoor
open Go.RowKit
/-! rokeep.Deeds -/
/-- lists of numbers, in a row -/
def SegLL (w : World) (v : Value) (ls : List (List Int)) : Prop :=
  ∃ vs : List Value, vs.length = ls.length ∧ Seg w v 1 vs.length vs ∧ ∀ (i : Nat) (u : Value) (m : List Int), vs[i]? = some u → ls[i]? = some m → Seg w u 1 m.length (cI m)
theorem SegLL.ext {w w' : World} {v : Value} {ls : List (List Int)} (h : SegLL w v ls) (k : Ext w w') : SegLL w' v ls := by
  obtain ⟨vs, h1, h2, h3⟩ := h
  exact ⟨vs, h1, h2.ext k, fun i u m a b => (h3 i u m a b).ext k⟩
/-- an operation that Deeds makes -/
structure OpG (o : GOp) : Prop where
  lo : 1 ≤ o.kind
  hi : o.kind ≤ 5
  key : o.key ∈ keysL
  two : o.kind = 3 ∨ o.kind = 5 → keyB o.from_ = true ∧ o.from_ ≠ o.key
  one : o.kind ≠ 3 → o.kind ≠ 5 → o.from_ = ⟨#[]⟩
  n0 : 0 ≤ o.n
  n8 : o.n ≤ 8
theorem keysL_key : ∀ k ∈ keysL, keyB k = true := by decide +kernel
theorem OpG.ok {o : GOp} (h : OpG o) : OpOk o := ⟨h.lo, h.hi, keysL_key _ h.key, h.two, fun _ => by have := h.n0; have := h.n8; omega, fun _ => h.n0⟩
structure DeedG (d : Ops) : Prop where
  lo : 1 ≤ d.length
  hi : d.length ≤ 4
  ops : ∀ o ∈ d, OpG o
theorem DeedG.ok {d : Ops} (h : DeedG d) : DeedOk d := ⟨h.lo, by have := h.hi; omega, fun o ho => (h.ops o ho).ok⟩
/-- deeds of one's own: their rows, each apart -/
structure OwnDs (w : World) (B : Nat) (vs : List Value) (D : List Ops) : Prop where
  len : vs.length = D.length
  own : ∀ (i : Nat) (u : Value) (d : Ops), vs[i]? = some u → D[i]? = some d → w.ownsRow B 38 4 u d.length (cO d)
  ne : ∀ (i j : Nat) (u v : Value) (k : Nat), i ≠ j → vs[i]? = some u → vs[j]? = some v → u.ownBlock = some k → v.ownBlock ≠ some k
theorem OwnDs.nil (w : World) (B : Nat) : OwnDs w B [] [] := ⟨rfl, fun i u d h => by simp at h, fun i j u v k _ h => by simp at h⟩
theorem OwnDs.ext {w w' : World} {B : Nat} {vs : List Value} {D : List Ops} (h : OwnDs w B vs D) (k : Ext w w') : OwnDs w' B vs D := ⟨h.len, fun i u d a b => own_ext (h.own i u d a b) k, h.ne⟩
theorem OwnDs.grown {w w' : World} {B B' e n : Nat} {sz : Nat} {v : Value} {xs : List Value} {vs : List Value} {D : List Ops} (h : OwnDs w B vs D) (ho : w.ownsRow B' e sz v n xs) (hg : w.grownBy w' v.ownBlock) (he : 38 ≠ e) : OwnDs w' B vs D :=
  ⟨h.len, fun i u d a b => grown_own hg (h.own i u d a b) (own_own_ne (h.own i u d a b) ho he), h.ne⟩
theorem OwnDs.lt {w : World} {B : Nat} {vs : List Value} {D : List Ops} (h : OwnDs w B vs D) : ∀ u ∈ vs, ∀ k, u.ownBlock = some k → k < w.heap.size := fun u hu k hk => by
  obtain ⟨i, hi, rfl⟩ := List.mem_iff_getElem.1 hu
  have hl := h.len
  exact ((h.own i _ (D[i]'(by omega)) (List.getElem?_eq_getElem hi) (List.getElem?_eq_getElem _)).lt k hk).2
end Go.Proofs.YtnepdfpooobmcaaDoor
