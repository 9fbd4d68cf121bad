/- Contracts and lemmas for the proof of TopInputs; each theorem states its own conditions. -/
import Derived.Test.YtnepdfpooobmcaaGreatQTopInputsap
import Derived.Test.YtnepdfpooobmcaaGreatQTopInputsaq
import Derived.Test.YtnepdfpooobmcaaGreatQTopInputsbc
import Derived.Test.YtnepdfpooobmcaaGreatQTopInputsbd
import Derived.Test.YtnepdfpooobmcaaGreatQTopInputsav
import Derived.BigQuiet
set_option linter.unusedVariables false
set_option linter.unusedSimpArgs false
/- Contracts and lemmas for the proofs of this seat; each theorem states its own conditions. -/
namespace Go.Proofs.YtnepdfpooobmcaaGreat
open Go.RowKit
/-- what the row tells of a slice of slices of numbers, as mine -/
theorem segll_of_rows {w : World} {base : Nat} {x : Addr} {len cap : Nat} {A : Nat → Option Addr} {L C : Nat → Nat} {Z : Nat → List Int} (hl : len ≤ cap) (hm : cap ≤ maxLen)
    (h : ∀ r, r < cap → w.cell? (x.add r) = some (.slice (A r) (L r) (C r)) ∧ L r ≤ C r ∧ C r ≤ maxLen ∧ (Z r).length = C r ∧ (∀ n ∈ Z r, (Lit.int .i64 n).wf = true) ∧ (A r = none → C r = 0) ∧
        ∀ a', A r = some a' → base ≤ a'.block ∧ ∀ c, c < C r → w.cell? (a'.add c) = some (.int .i64 ((Z r).getD c 0))) :
    ∃ ls : List (List Int), SegLL w (.slice (some x) len cap) ls ∧ ls.length = len ∧ ∀ l ∈ ls, ∀ z ∈ l, -9223372036854775808 ≤ z ∧ z ≤ 9223372036854775807 := by
  have row : ∀ r, r < cap → Seg w (.slice (A r) (L r) (C r)) 1 ((Z r).take (L r)).length (cI ((Z r).take (L r))) ∧ ∀ z ∈ (Z r).take (L r), -9223372036854775808 ≤ z ∧ z ≤ 9223372036854775807 := fun r hr => by
    obtain ⟨h1, h2, h3, h4, h5, h6, h7⟩ := h r hr
    have hrow := seg_of_row (w := w) (a := A r) (len := L r) (cap := C r) (zs := Z r) (by
      cases ha : A r with
      | none =>
        have := h6 ha
        left
        exact ⟨rfl, by omega, this, List.eq_nil_of_length_eq_zero (by omega)⟩
      | some a' =>
        right
        exact ⟨a', rfl, h2, h3, h4, fun i hi => (h7 a' ha).2 i (by omega), h5⟩)
    exact ⟨hrow.1, hrow.2.1⟩
  refine ⟨(List.range len).map fun r => (Z r).take (L r), ⟨(List.range len).map fun r => .slice (A r) (L r) (C r), by simp, ⟨by simp, some x, cap, by simp, by simpa using hl, hm, fun hn => ?_⟩, fun i u m hu hm' => ?_⟩, by simp, fun l hl' z hz => ?_⟩
  · simp at hn
    have hs := cell_spot (h 0 (by omega)).1
    obtain ⟨b, off, sp⟩ := x
    have : sp = none := by simpa [Addr.add] using hs
    subst this
    refine ⟨b, off, rfl, fun j u hu => ?_⟩
    rw [← addr_add]
    obtain ⟨hj, e⟩ := List.getElem?_eq_some_iff.1 hu
    simp at hj e
    subst e
    exact (h j (by omega)).1
  · obtain ⟨hj, e⟩ := List.getElem?_eq_some_iff.1 hu
    obtain ⟨_, e'⟩ := List.getElem?_eq_some_iff.1 hm'
    simp at hj e e'
    subst e; subst e'
    exact (row i (by omega)).1
  · simp at hl'
    obtain ⟨r, hr, rfl⟩ := hl'
    exact (row r (by omega)).2 z hz
theorem segll_nil (w : World) : SegLL w (.slice none 0 0) [] := ⟨[], rfl, Seg.nil _ _, fun i u m h => by simp at h⟩
theorem seg_rows {w : World} {a : Option Addr} {len cap : Nat} {zs : List Int} (h : (a = none ∧ len = 0 ∧ cap = 0 ∧ zs = []) ∨
    ∃ x, a = some x ∧ len ≤ cap ∧ cap ≤ maxLen ∧ zs.length = cap ∧ (∀ i, i < zs.length → w.cell? (x.add i) = some (.int .i64 (zs.getD i 0))) ∧ ∀ n ∈ zs, (Lit.int .i64 n).wf = true) :
    ∃ l : List Int, Seg w (.slice a len cap) 1 l.length (cI l) ∧ ∀ z ∈ l, -9223372036854775808 ≤ z ∧ z ≤ 9223372036854775807 := ⟨_, (seg_of_row h).1, (seg_of_row h).2.1⟩
end Go.Proofs.YtnepdfpooobmcaaGreat

/- Contracts and lemmas for the proofs of this seat; each theorem states its own conditions. -/
namespace Go.Proofs.YtnepdfpooobmcaaGreat
open Go.RowKit
/-! rokeep.entries, roref.SameEntry -/
theorem LogB.base {w w1 : World} {X : List Ent} {v : Value} {a : World} (h : LogB w.heap.size w1 X v a) (E : Ext w w1) : LogR w X v a := by
  obtain ⟨es, h1, h2, h3⟩ := h
  exact ⟨es, h1, own_base h2 E.size', E.trans h3⟩
end Go.Proofs.YtnepdfpooobmcaaGreat

/- Contracts and lemmas for the proofs of this seat; each theorem states its own conditions. -/
namespace Go.Proofs.YtnepdfpooobmcaaGreat
open Go.RowKit
/-! roref.SameEntry, slices.EqualFunc at entries -/
/-- a slice that reads as entries -/
def EntsSeg (w : World) (v : Value) (X : List Ent) : Prop := ∃ es : List EV, es.length = X.length ∧ Seg w v 4 X.length (cEn es) ∧ ∀ (j : Nat) (e : EV) (x : Ent), es[j]? = some e → X[j]? = some x → EntSeg w e x
theorem EntsSeg.ext {w w' : World} {v : Value} {X : List Ent} (h : EntsSeg w v X) (E : Ext w w') : EntsSeg w' v X := by
  obtain ⟨es, h1, h2, h3⟩ := h
  exact ⟨es, h1, h2.ext E, fun j e x a b => (h3 j e x a b).ext E⟩
theorem EntsSeg.form {w : World} {v : Value} {X : List Ent} (h : EntsSeg w v X) : ∃ a c, v = .slice a X.length c := by
  obtain ⟨es, h1, h2, h3⟩ := h
  exact seg_form h2
theorem ents_seg {eB : Nat} {w : World} {es : List EV} {B : Nat} {v : Value} {X : List Ent} (h : EntsSt eB w es X) (ho : w.ownsRow B 47 4 v X.length (cEn es)) : EntsSeg w v X := ⟨es, h.1, own_seg ho, fun j e x a b => (h.2 j e x a b).seg⟩
theorem LogR.seg {w : World} {X : List Ent} {v : Value} {a : World} (h : LogR w X v a) : EntsSeg a v X := by
  obtain ⟨es, h1, h2, h3⟩ := h
  exact ents_seg h1 h2
def entZ : Ent := ⟨[], false, [], []⟩
end Go.Proofs.YtnepdfpooobmcaaGreat

/- Contracts and lemmas for the proofs of this seat; each theorem states its own conditions. -/
namespace Go.Proofs.YtnepdfpooobmcaaGreat
open Go.RowKit
/-! merges that are fed, in plain lists -/
def colTo (cl : List (List Bat)) (r : Nat) : Nat → Nat
  | 0 => 0
  | k + 1 => colTo cl r k + sumTo (cl.getD k []) r
theorem col_step (cl : List (List Bat)) (r : Nat) : ∀ k, colTo cl (r + 1) k = colTo cl r k + (rowTo cl r k).length
  | 0 => rfl
  | k + 1 => by
    rw [colTo, col_step cl r k, colTo, rowTo, List.length_append, sumTo]; omega
theorem col_log (cl : List (List Bat)) : ∀ r, (logTo cl r).length = colTo cl r cl.length
  | 0 => by
    have : ∀ k, colTo cl 0 k = 0 := fun k => by
      induction k with
      | zero => rfl
      | succ k ih => rw [colTo, ih]; rfl
    rw [this]; rfl
  | r + 1 => by rw [logTo, List.length_append, col_log cl r, col_step]
theorem col_many (cl : List (List Bat)) (op : List Bat) {r : Nat} : ∀ {k : Nat}, (∀ i, i < k → r ≤ (cl.getD i []).length) → colTo cl r k ≤ manyTo cl op k
  | 0, _ => Nat.le_refl _
  | k + 1, h => by
    have h1 := col_many cl op (k := k) fun i hi => h i (by omega)
    have h2 := sumTo_mono (cl.getD k []) (h k (by omega))
    rw [sumTo_all] at h2
    rw [colTo, manyTo]; omega
theorem log_many (cl : List (List Bat)) (op : List Bat) : (logM cl).length ≤ manyM cl op := by
  unfold logM manyM
  rw [col_log]
  exact col_many cl op fun i hi => rdM_le hi
theorem op_many {cl : List (List Bat)} {op : List Bat} {i : Nat} (hi : i < cl.length) : (op.getD i []).length ≤ manyM cl op := by
  have := manyTo_mono cl op (show i + 1 ≤ cl.length from hi)
  rw [manyTo] at this
  unfold manyM; omega
/-- all entries are small -/
def SmM (cl : List (List Bat)) (op : List Bat) : Prop := (∀ i, i < cl.length → ∀ j, j < (cl.getD i []).length → ∀ x ∈ (cl.getD i []).getD j [], EntSm x) ∧ ∀ i, i < op.length → ∀ x ∈ op.getD i [], EntSm x
theorem SmM.log {cl : List (List Bat)} {op : List Bat} (h : SmM cl op) : ∀ l ∈ cl, ∀ b ∈ l, ∀ x ∈ b, EntSm x := by
  intro l hl b hb x hx
  obtain ⟨i, hi, rfl⟩ := List.mem_iff_getElem.1 hl
  obtain ⟨j, hj, rfl⟩ := List.mem_iff_getElem.1 hb
  refine h.1 i hi j (by rw [getD_lt hi]; exact hj) x ?_
  rw [getD_lt hi, getD_lt hj]; exact hx
theorem SmM.nil (n : Nat) : SmM (List.replicate n []) (List.replicate n []) :=
  ⟨fun i hi j hj => by rw [getD_repl] at hj; simp at hj, fun i hi x hx => by rw [getD_repl'] at hx; simp at hx⟩
theorem SmM.add {cl : List (List Bat)} {op : List Bat} (h : SmM cl op) {i : Nat} (hi : i < op.length) {x : Ent} (hx : EntSm x) : SmM cl (addM op i x) := by
  refine ⟨h.1, fun j hj y hy => ?_⟩
  rw [add_len] at hj
  rw [add_at hi] at hy
  split at hy
  · rcases List.mem_append.1 hy with a | a
    · exact h.2 i hi y a
    · simp at a; subst a; exact hx
  · exact h.2 j hj y hy
theorem SmM.cls {cl : List (List Bat)} {op : List Bat} (h : SmM cl op) {i : Nat} (hi : i < cl.length) (hl : op.length = cl.length) : SmM (clsM cl i (op.getD i [])) (op.set i []) := by
  refine ⟨fun j hj k hk x hx => ?_, fun j hj x hx => ?_⟩
  · rw [cls_len] at hj
    rw [cls_at hi] at hk hx
    split at hk
    · rename_i e
      rw [if_pos e] at hx
      rw [List.length_append, List.length_singleton] at hk
      rcases Nat.lt_or_ge k (cl.getD i []).length with a | a
      · simp only [List.getD_eq_getElem?_getD] at hx
        rw [List.getElem?_append_left (by rw [List.getD_eq_getElem?_getD] at a; exact a)] at hx
        simp only [← List.getD_eq_getElem?_getD] at hx
        exact h.1 i hi k a x hx
      · obtain rfl : k = (cl.getD i []).length := by omega
        have : (cl.getD i [] ++ [op.getD i []]).getD (cl.getD i []).length [] = op.getD i [] := by
          rw [List.getD_eq_getElem?_getD, List.getElem?_append_right (Nat.le_refl _), Nat.sub_self]; rfl
        rw [this] at hx
        exact h.2 i (by omega) x hx
    · rename_i e
      rw [if_neg e] at hx
      exact h.1 j hj k hk x hx
  · rw [List.length_set] at hj
    by_cases e : j = i
    · subst e
      have : (op.set j []).getD j [] = ([] : Bat) := by simp [List.getD_eq_getElem?_getD, List.getElem?_set_self (show j < op.length by omega)]
      rw [this] at hx; simp at hx
    · have : (op.set i []).getD j [] = op.getD j [] := by
        simp only [List.getD_eq_getElem?_getD]
        rw [List.getElem?_set_ne (fun h => e h.symm)]
      rw [this] at hx
      exact h.2 j hj x hx
/-- a merge within bounds: n inputs, at most a entries, at most k batches of an input -/
structure BdM (n a k : Nat) (cl : List (List Bat)) (op : List Bat) : Prop where
  n0 : 0 < n
  lc : cl.length = n
  lo : op.length = n
  many : manyM cl op ≤ a
  len : ∀ i, i < n → (cl.getD i []).length ≤ k
  sm : SmM cl op
theorem BdM.mono {n a k a' k' : Nat} {cl : List (List Bat)} {op : List Bat} (h : BdM n a k cl op) (ha : a ≤ a') (hk : k ≤ k') : BdM n a' k' cl op :=
  ⟨h.n0, h.lc, h.lo, Nat.le_trans h.many ha, fun i hi => Nat.le_trans (h.len i hi) hk, h.sm⟩
theorem many_nil (n : Nat) : manyM (List.replicate n []) (List.replicate n []) = 0 := by
  have : ∀ k, manyTo (List.replicate n []) (List.replicate n []) k = 0 := fun k => by
    induction k with
    | zero => rfl
    | succ k ih => rw [manyTo, ih, getD_repl, getD_repl']; rfl
  exact this _
theorem BdM.nil {n : Nat} (h : 0 < n) : BdM n 0 0 (List.replicate n []) (List.replicate n []) :=
  ⟨h, by simp, by simp, by rw [many_nil]; exact Nat.le_refl _, fun i hi => by rw [getD_repl]; simp, SmM.nil n⟩
theorem BdM.add {n a k : Nat} {cl : List (List Bat)} {op : List Bat} (h : BdM n a k cl op) {i : Nat} (hi : i < n) {x : Ent} (hx : EntSm x) : BdM n (a + 1) k cl (addM op i x) :=
  ⟨h.n0, h.lc, by rw [add_len]; exact h.lo, by rw [many_add (by rw [h.lc, h.lo]) (by rw [h.lo]; exact hi)]; have := h.many; omega, h.len, h.sm.add (by rw [h.lo]; exact hi) hx⟩
theorem BdM.cls {n a k : Nat} {cl : List (List Bat)} {op : List Bat} (h : BdM n a k cl op) {i : Nat} (hi : i < n) : BdM n a (k + 1) (clsM cl i (op.getD i [])) (op.set i []) :=
  ⟨h.n0, by rw [cls_len]; exact h.lc, by rw [List.length_set]; exact h.lo, by rw [many_cls (by rw [h.lc, h.lo]) (by rw [h.lc]; exact hi)]; exact h.many, fun j hj => by
    rw [cls_at (by rw [h.lc]; exact hi)]
    have := h.len j hj
    split
    · rename_i e; subst e; rw [List.length_append, List.length_singleton]; omega
    · omega, h.sm.cls (by rw [h.lc]; exact hi) (by rw [h.lc, h.lo])⟩
theorem wi_nat {z : Int} {n : Nat} (h : 0 < n) : ∃ i : Nat, wi z n = (i : Int) ∧ (wi z n).toNat = i ∧ i < n := by
  have g1 := wi_lo (k := z) (n := n) (by omega)
  have g2 := wi_hi (k := z) (n := n) (by omega)
  exact ⟨(wi z n).toNat, by omega, rfl, by omega⟩
end Go.Proofs.YtnepdfpooobmcaaGreat
