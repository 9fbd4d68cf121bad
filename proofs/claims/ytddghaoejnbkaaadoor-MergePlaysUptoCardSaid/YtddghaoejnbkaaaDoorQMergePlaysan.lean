/- Contracts and lemmas for the proof of MergePlays; each theorem states its own conditions. -/
import Derived.Test.YtddghaoejnbkaaaDoorQMergePlaysam
import Derived.Test.YtddghaoejnbkaaaDoorQMergePlaysal
import Derived.Test.YtddghaoejnbkaaaDoorQMergePlaysaj
import Derived.OneCell
set_option linter.unusedVariables false
set_option linter.unusedSimpArgs false
/- Contracts and lemmas for the proofs of this seat; each theorem states its own conditions. -/
namespace Go.Proofs.YtddghaoejnbkaaaDoor
open Go.RowKit
/-- the number that Within makes -/
def wi (k n : Int) : Int := (k % 18446744073709551616) % n
theorem wi_lo {k n : Int} (hn : 0 < n) : 0 ≤ wi k n := Int.emod_nonneg _ (by omega)
theorem wi_hi {k n : Int} (hn : 0 < n) : wi k n < n := Int.emod_lt_of_pos _ hn
/-- the keys that the statements use -/
def keysL : List ByteArray := [⟨#[97]⟩, ⟨#[98]⟩, ⟨#[99]⟩, ⟨#[100]⟩, ⟨#[109]⟩, ⟨#[110]⟩, ⟨#[122]⟩, ⟨#[97, 98]⟩]
end Go.Proofs.YtddghaoejnbkaaaDoor

/- Contracts and lemmas for the proofs of this seat; each theorem states its own conditions. -/
namespace Go.Proofs.YtddghaoejnbkaaaDoor
open Go.RowKit
end Go.Proofs.YtddghaoejnbkaaaDoor

/- Contracts and lemmas for the proofs of this seat; each theorem states its own conditions. -/
namespace Go.Proofs.YtddghaoejnbkaaaDoor
open Go.RowKit
/-! rokeep.Deeds -/
/-- lists of numbers, in a row -/
def SegLL (w : World) (v : Value) (ls : List (List Int)) : Prop :=
  ∃ vs : List Value, vs.length = ls.length ∧ Seg w v 1 vs.length vs ∧ ∀ (i : Nat) (u : Value) (m : List Int), vs[i]? = some u → ls[i]? = some m → Seg w u 1 m.length (cI m)
theorem SegLL.ext {w w' : World} {v : Value} {ls : List (List Int)} (h : SegLL w v ls) (k : Ext w w') : SegLL w' v ls := by
  obtain ⟨vs, h1, h2, h3⟩ := h
  exact ⟨vs, h1, h2.ext k, fun i u m a b => (h3 i u m a b).ext k⟩
/-- an operation that Deeds makes -/
structure OpG (o : GOp) : Prop where
  lo : 1 ≤ o.kind
  hi : o.kind ≤ 5
  key : o.key ∈ keysL
  two : o.kind = 3 ∨ o.kind = 5 → keyB o.from_ = true ∧ o.from_ ≠ o.key
  one : o.kind ≠ 3 → o.kind ≠ 5 → o.from_ = ⟨#[]⟩
  n0 : 0 ≤ o.n
  n8 : o.n ≤ 8
theorem keysL_key : ∀ k ∈ keysL, keyB k = true := by decide +kernel
theorem OpG.ok {o : GOp} (h : OpG o) : OpOk o := ⟨h.lo, h.hi, keysL_key _ h.key, h.two, fun _ => by have := h.n0; have := h.n8; omega, fun _ => h.n0⟩
theorem OpG.sm {o : GOp} (h : OpG o) : o.from_.size ≤ 6 := by
  by_cases k : o.kind = 3 ∨ o.kind = 5
  · have := (h.two k).1; simp [keyB] at this; omega
  · rw [h.one (fun e => k (.inl e)) (fun e => k (.inr e))]; decide
structure DeedG (d : Ops) : Prop where
  lo : 1 ≤ d.length
  hi : d.length ≤ 4
  ops : ∀ o ∈ d, OpG o
theorem DeedG.ok {d : Ops} (h : DeedG d) : DeedOk d := ⟨h.lo, by have := h.hi; omega, fun o ho => (h.ops o ho).ok⟩
theorem DeedG.sm {d : Ops} (h : DeedG d) : ∀ o ∈ d, o.from_.size ≤ 9223372036854775807 := fun o ho => by have := (h.ops o ho).sm; omega
/-- deeds of one's own: their rows, each apart -/
structure OwnDs (w : World) (B : Nat) (vs : List Value) (D : List Ops) : Prop where
  len : vs.length = D.length
  own : ∀ (i : Nat) (u : Value) (d : Ops), vs[i]? = some u → D[i]? = some d → w.ownsRow B 71 4 u d.length (cO d)
  ne : ∀ (i j : Nat) (u v : Value) (k : Nat), i ≠ j → vs[i]? = some u → vs[j]? = some v → u.ownBlock = some k → v.ownBlock ≠ some k
theorem OwnDs.nil (w : World) (B : Nat) : OwnDs w B [] [] := ⟨rfl, fun i u d h => by simp at h, fun i j u v k _ h => by simp at h⟩
theorem OwnDs.ext {w w' : World} {B : Nat} {vs : List Value} {D : List Ops} (h : OwnDs w B vs D) (k : Ext w w') : OwnDs w' B vs D := ⟨h.len, fun i u d a b => own_ext (h.own i u d a b) k, h.ne⟩
theorem OwnDs.grown {w w' : World} {B B' e n : Nat} {sz : Nat} {v : Value} {xs : List Value} {vs : List Value} {D : List Ops} (h : OwnDs w B vs D) (ho : w.ownsRow B' e sz v n xs) (hg : w.grownBy w' v.ownBlock) (he : 71 ≠ e) : OwnDs w' B vs D :=
  ⟨h.len, fun i u d a b => grown_own hg (h.own i u d a b) (own_own_ne (h.own i u d a b) ho he), h.ne⟩
theorem OwnDs.snoc {w : World} {B B2 : Nat} {vs : List Value} {D : List Ops} (h : OwnDs w B vs D) (hlt : ∀ u ∈ vs, ∀ k, u.ownBlock = some k → k < B2) (hB : B ≤ B2) {v : Value} {d : Ops} (ho : w.ownsRow B2 71 4 v d.length (cO d)) : OwnDs w B (vs ++ [v]) (D ++ [d]) := by
  have hl := h.len
  refine ⟨by simp [hl], fun i u d' a b => ?_, fun i j u u' k hij a b hk hk' => ?_⟩
  · rcases Nat.lt_or_ge i vs.length with hi | hi
    · rw [List.getElem?_append_left hi] at a
      rw [List.getElem?_append_left (by omega)] at b
      exact h.own i u d' a b
    · rw [List.getElem?_append_right hi] at a
      rw [List.getElem?_append_right (by omega)] at b
      have : i - vs.length = 0 := by
        have := (List.getElem?_eq_some_iff.1 a).1; simp at this; omega
      rw [this] at a; rw [← hl, this] at b
      simp at a b; subst a; subst b
      exact own_base ho hB
  · rcases Nat.lt_or_ge i vs.length with hi | hi
    · rw [List.getElem?_append_left hi] at a
      rcases Nat.lt_or_ge j vs.length with hj | hj
      · rw [List.getElem?_append_left hj] at b
        exact h.ne i j u u' k hij a b hk hk'
      · rw [List.getElem?_append_right hj] at b
        have : j - vs.length = 0 := by
          have := (List.getElem?_eq_some_iff.1 b).1; simp at this; omega
        rw [this] at b; simp at b; subst b
        have h1 := hlt u (List.mem_of_getElem? a) k hk
        have h2 := own_ge ho k hk'
        omega
    · rw [List.getElem?_append_right hi] at a
      have hi0 : i - vs.length = 0 := by
        have := (List.getElem?_eq_some_iff.1 a).1; simp at this; omega
      rw [hi0] at a; simp at a; subst a
      rcases Nat.lt_or_ge j vs.length with hj | hj
      · rw [List.getElem?_append_left hj] at b
        have h1 := hlt u' (List.mem_of_getElem? b) k hk'
        have h2 := own_ge ho k hk
        omega
      · rw [List.getElem?_append_right hj] at b
        have : j - vs.length = 0 := by
          have := (List.getElem?_eq_some_iff.1 b).1; simp at this; omega
        omega
theorem OwnDs.lt {w : World} {B : Nat} {vs : List Value} {D : List Ops} (h : OwnDs w B vs D) : ∀ u ∈ vs, ∀ k, u.ownBlock = some k → k < w.heap.size := fun u hu k hk => by
  obtain ⟨i, hi, rfl⟩ := List.mem_iff_getElem.1 hu
  have hl := h.len
  exact ((h.own i _ (D[i]'(by omega)) (List.getElem?_eq_getElem hi) (List.getElem?_eq_getElem _)).lt k hk).2
theorem frz4 {w : World} {b : Nat} {x y z u : Value} {t : TypeId} (h : w.heap[b]? = some (.cells #[x, y, z, u] t (0, 0))) : w.frozen? ⟨b, 0, none⟩ = false ∧ w.frozen? ⟨b, 1, none⟩ = false ∧ w.frozen? ⟨b, 2, none⟩ = false ∧ w.frozen? ⟨b, 3, none⟩ = false := by
  simp [World.frozen?, h]
end Go.Proofs.YtddghaoejnbkaaaDoor
