/- Contracts and lemmas for the proof of TopMoves; each theorem states its own conditions. -/
import Derived.Test.YtnepdfpooobmcaaGreatQTopMovesao
import Derived.Test.YtnepdfpooobmcaaGreatQTopMovesap
import Derived.Test.YtnepdfpooobmcaaGreatQTopMovesbb
import Derived.Test.YtnepdfpooobmcaaGreatQTopMovesbc
import Derived.Test.YtnepdfpooobmcaaGreatQTopMovesau
import Derived.BigQuiet
import Derived.Test.YtnepdfpooobmcaaGreatQTopMovesas
set_option linter.unusedVariables false
set_option linter.unusedSimpArgs false
/- Contracts and lemmas for the proofs of this seat; each theorem states its own conditions. -/
namespace Go.Proofs.YtnepdfpooobmcaaGreat
open Go.RowKit
/-- what the row tells of a slice of slices of numbers, as mine -/
theorem segll_of_rows {w : World} {base : Nat} {x : Addr} {len cap : Nat} {A : Nat → Option Addr} {L C : Nat → Nat} {Z : Nat → List Int} (hl : len ≤ cap) (hm : cap ≤ maxLen)
    (h : ∀ r, r < cap → w.cell? (x.add r) = some (.slice (A r) (L r) (C r)) ∧ L r ≤ C r ∧ C r ≤ maxLen ∧ (Z r).length = C r ∧ (∀ n ∈ Z r, (Lit.int .i64 n).wf = true) ∧ (A r = none → C r = 0) ∧
        ∀ a', A r = some a' → base ≤ a'.block ∧ ∀ c, c < C r → w.cell? (a'.add c) = some (.int .i64 ((Z r).getD c 0))) :
    ∃ ls : List (List Int), SegLL w (.slice (some x) len cap) ls ∧ ls.length = len ∧ ∀ l ∈ ls, ∀ z ∈ l, -9223372036854775808 ≤ z ∧ z ≤ 9223372036854775807 := by
  have row : ∀ r, r < cap → Seg w (.slice (A r) (L r) (C r)) 1 ((Z r).take (L r)).length (cI ((Z r).take (L r))) ∧ ∀ z ∈ (Z r).take (L r), -9223372036854775808 ≤ z ∧ z ≤ 9223372036854775807 := fun r hr => by
    obtain ⟨h1, h2, h3, h4, h5, h6, h7⟩ := h r hr
    have hrow := seg_of_row (w := w) (a := A r) (len := L r) (cap := C r) (zs := Z r) (by
      cases ha : A r with
      | none =>
        have := h6 ha
        left
        exact ⟨rfl, by omega, this, List.eq_nil_of_length_eq_zero (by omega)⟩
      | some a' =>
        right
        exact ⟨a', rfl, h2, h3, h4, fun i hi => (h7 a' ha).2 i (by omega), h5⟩)
    exact ⟨hrow.1, hrow.2.1⟩
  refine ⟨(List.range len).map fun r => (Z r).take (L r), ⟨(List.range len).map fun r => .slice (A r) (L r) (C r), by simp, ⟨by simp, some x, cap, by simp, by simpa using hl, hm, fun hn => ?_⟩, fun i u m hu hm' => ?_⟩, by simp, fun l hl' z hz => ?_⟩
  · simp at hn
    have hs := cell_spot (h 0 (by omega)).1
    obtain ⟨b, off, sp⟩ := x
    have : sp = none := by simpa [Addr.add] using hs
    subst this
    refine ⟨b, off, rfl, fun j u hu => ?_⟩
    rw [← addr_add]
    obtain ⟨hj, e⟩ := List.getElem?_eq_some_iff.1 hu
    simp at hj e
    subst e
    exact (h j (by omega)).1
  · obtain ⟨hj, e⟩ := List.getElem?_eq_some_iff.1 hu
    obtain ⟨_, e'⟩ := List.getElem?_eq_some_iff.1 hm'
    simp at hj e e'
    subst e; subst e'
    exact (row i (by omega)).1
  · simp at hl'
    obtain ⟨r, hr, rfl⟩ := hl'
    exact (row r (by omega)).2 z hz
theorem segll_nil (w : World) : SegLL w (.slice none 0 0) [] := ⟨[], rfl, Seg.nil _ _, fun i u m h => by simp at h⟩
theorem seg_rows {w : World} {a : Option Addr} {len cap : Nat} {zs : List Int} (h : (a = none ∧ len = 0 ∧ cap = 0 ∧ zs = []) ∨
    ∃ x, a = some x ∧ len ≤ cap ∧ cap ≤ maxLen ∧ zs.length = cap ∧ (∀ i, i < zs.length → w.cell? (x.add i) = some (.int .i64 (zs.getD i 0))) ∧ ∀ n ∈ zs, (Lit.int .i64 n).wf = true) :
    ∃ l : List Int, Seg w (.slice a len cap) 1 l.length (cI l) ∧ ∀ z ∈ l, -9223372036854775808 ≤ z ∧ z ≤ 9223372036854775807 := ⟨_, (seg_of_row h).1, (seg_of_row h).2.1⟩
end Go.Proofs.YtnepdfpooobmcaaGreat

/- Contracts and lemmas for the proofs of this seat; each theorem states its own conditions. -/
namespace Go.Proofs.YtnepdfpooobmcaaGreat
open Go.RowKit
/-! rokeep.entries, roref.SameEntry -/
theorem LogB.base {w w1 : World} {X : List Ent} {v : Value} {a : World} (h : LogB w.heap.size w1 X v a) (E : Ext w w1) : LogR w X v a := by
  obtain ⟨es, h1, h2, h3⟩ := h
  exact ⟨es, h1, own_base h2 E.size', E.trans h3⟩
end Go.Proofs.YtnepdfpooobmcaaGreat

/- Contracts and lemmas for the proofs of this seat; each theorem states its own conditions. -/
namespace Go.Proofs.YtnepdfpooobmcaaGreat
open Go.RowKit
/-! roref.SameEntry, slices.EqualFunc at entries -/
/-- a slice that reads as entries -/
def EntsSeg (w : World) (v : Value) (X : List Ent) : Prop := ∃ es : List EV, es.length = X.length ∧ Seg w v 4 X.length (cEn es) ∧ ∀ (j : Nat) (e : EV) (x : Ent), es[j]? = some e → X[j]? = some x → EntSeg w e x
theorem EntsSeg.ext {w w' : World} {v : Value} {X : List Ent} (h : EntsSeg w v X) (E : Ext w w') : EntsSeg w' v X := by
  obtain ⟨es, h1, h2, h3⟩ := h
  exact ⟨es, h1, h2.ext E, fun j e x a b => (h3 j e x a b).ext E⟩
theorem EntsSeg.form {w : World} {v : Value} {X : List Ent} (h : EntsSeg w v X) : ∃ a c, v = .slice a X.length c := by
  obtain ⟨es, h1, h2, h3⟩ := h
  exact seg_form h2
theorem ents_seg {eB : Nat} {w : World} {es : List EV} {B : Nat} {v : Value} {X : List Ent} (h : EntsSt eB w es X) (ho : w.ownsRow B 47 4 v X.length (cEn es)) : EntsSeg w v X := ⟨es, h.1, own_seg ho, fun j e x a b => (h.2 j e x a b).seg⟩
theorem LogR.seg {w : World} {X : List Ent} {v : Value} {a : World} (h : LogR w X v a) : EntsSeg a v X := by
  obtain ⟨es, h1, h2, h3⟩ := h
  exact ents_seg h1 h2
def entZ : Ent := ⟨[], false, [], []⟩
end Go.Proofs.YtnepdfpooobmcaaGreat

/- Contracts and lemmas for the proofs of this seat; each theorem states its own conditions. -/
namespace Go.Proofs.YtnepdfpooobmcaaGreat
open Go.RowKit
/-! merges that are fed, in plain lists -/
def colTo (cl : List (List Bat)) (r : Nat) : Nat → Nat
  | 0 => 0
  | k + 1 => colTo cl r k + sumTo (cl.getD k []) r
theorem col_step (cl : List (List Bat)) (r : Nat) : ∀ k, colTo cl (r + 1) k = colTo cl r k + (rowTo cl r k).length
  | 0 => rfl
  | k + 1 => by
    rw [colTo, col_step cl r k, colTo, rowTo, List.length_append, sumTo]; omega
theorem col_log (cl : List (List Bat)) : ∀ r, (logTo cl r).length = colTo cl r cl.length
  | 0 => by
    have : ∀ k, colTo cl 0 k = 0 := fun k => by
      induction k with
      | zero => rfl
      | succ k ih => rw [colTo, ih]; rfl
    rw [this]; rfl
  | r + 1 => by rw [logTo, List.length_append, col_log cl r, col_step]
theorem col_many (cl : List (List Bat)) (op : List Bat) {r : Nat} : ∀ {k : Nat}, (∀ i, i < k → r ≤ (cl.getD i []).length) → colTo cl r k ≤ manyTo cl op k
  | 0, _ => Nat.le_refl _
  | k + 1, h => by
    have h1 := col_many cl op (k := k) fun i hi => h i (by omega)
    have h2 := sumTo_mono (cl.getD k []) (h k (by omega))
    rw [sumTo_all] at h2
    rw [colTo, manyTo]; omega
theorem log_many (cl : List (List Bat)) (op : List Bat) : (logM cl).length ≤ manyM cl op := by
  unfold logM manyM
  rw [col_log]
  exact col_many cl op fun i hi => rdM_le hi
theorem op_many {cl : List (List Bat)} {op : List Bat} {i : Nat} (hi : i < cl.length) : (op.getD i []).length ≤ manyM cl op := by
  have := manyTo_mono cl op (show i + 1 ≤ cl.length from hi)
  rw [manyTo] at this
  unfold manyM; omega
/-- all entries are small -/
def SmM (cl : List (List Bat)) (op : List Bat) : Prop := (∀ i, i < cl.length → ∀ j, j < (cl.getD i []).length → ∀ x ∈ (cl.getD i []).getD j [], EntSm x) ∧ ∀ i, i < op.length → ∀ x ∈ op.getD i [], EntSm x
theorem SmM.log {cl : List (List Bat)} {op : List Bat} (h : SmM cl op) : ∀ l ∈ cl, ∀ b ∈ l, ∀ x ∈ b, EntSm x := by
  intro l hl b hb x hx
  obtain ⟨i, hi, rfl⟩ := List.mem_iff_getElem.1 hl
  obtain ⟨j, hj, rfl⟩ := List.mem_iff_getElem.1 hb
  refine h.1 i hi j (by rw [getD_lt hi]; exact hj) x ?_
  rw [getD_lt hi, getD_lt hj]; exact hx
theorem SmM.nil (n : Nat) : SmM (List.replicate n []) (List.replicate n []) :=
  ⟨fun i hi j hj => by rw [getD_repl] at hj; simp at hj, fun i hi x hx => by rw [getD_repl'] at hx; simp at hx⟩
theorem SmM.add {cl : List (List Bat)} {op : List Bat} (h : SmM cl op) {i : Nat} (hi : i < op.length) {x : Ent} (hx : EntSm x) : SmM cl (addM op i x) := by
  refine ⟨h.1, fun j hj y hy => ?_⟩
  rw [add_len] at hj
  rw [add_at hi] at hy
  split at hy
  · rcases List.mem_append.1 hy with a | a
    · exact h.2 i hi y a
    · simp at a; subst a; exact hx
  · exact h.2 j hj y hy
theorem SmM.cls {cl : List (List Bat)} {op : List Bat} (h : SmM cl op) {i : Nat} (hi : i < cl.length) (hl : op.length = cl.length) : SmM (clsM cl i (op.getD i [])) (op.set i []) := by
  refine ⟨fun j hj k hk x hx => ?_, fun j hj x hx => ?_⟩
  · rw [cls_len] at hj
    rw [cls_at hi] at hk hx
    split at hk
    · rename_i e
      rw [if_pos e] at hx
      rw [List.length_append, List.length_singleton] at hk
      rcases Nat.lt_or_ge k (cl.getD i []).length with a | a
      · simp only [List.getD_eq_getElem?_getD] at hx
        rw [List.getElem?_append_left (by rw [List.getD_eq_getElem?_getD] at a; exact a)] at hx
        simp only [← List.getD_eq_getElem?_getD] at hx
        exact h.1 i hi k a x hx
      · obtain rfl : k = (cl.getD i []).length := by omega
        have : (cl.getD i [] ++ [op.getD i []]).getD (cl.getD i []).length [] = op.getD i [] := by
          rw [List.getD_eq_getElem?_getD, List.getElem?_append_right (Nat.le_refl _), Nat.sub_self]; rfl
        rw [this] at hx
        exact h.2 i (by omega) x hx
    · rename_i e
      rw [if_neg e] at hx
      exact h.1 j hj k hk x hx
  · rw [List.length_set] at hj
    by_cases e : j = i
    · subst e
      have : (op.set j []).getD j [] = ([] : Bat) := by simp [List.getD_eq_getElem?_getD, List.getElem?_set_self (show j < op.length by omega)]
      rw [this] at hx; simp at hx
    · have : (op.set i []).getD j [] = op.getD j [] := by
        simp only [List.getD_eq_getElem?_getD]
        rw [List.getElem?_set_ne (fun h => e h.symm)]
      rw [this] at hx
      exact h.2 j hj x hx
/-- a merge within bounds: n inputs, at most a entries, at most k batches of an input -/
structure BdM (n a k : Nat) (cl : List (List Bat)) (op : List Bat) : Prop where
  n0 : 0 < n
  lc : cl.length = n
  lo : op.length = n
  many : manyM cl op ≤ a
  len : ∀ i, i < n → (cl.getD i []).length ≤ k
  sm : SmM cl op
theorem BdM.mono {n a k a' k' : Nat} {cl : List (List Bat)} {op : List Bat} (h : BdM n a k cl op) (ha : a ≤ a') (hk : k ≤ k') : BdM n a' k' cl op :=
  ⟨h.n0, h.lc, h.lo, Nat.le_trans h.many ha, fun i hi => Nat.le_trans (h.len i hi) hk, h.sm⟩
theorem many_nil (n : Nat) : manyM (List.replicate n []) (List.replicate n []) = 0 := by
  have : ∀ k, manyTo (List.replicate n []) (List.replicate n []) k = 0 := fun k => by
    induction k with
    | zero => rfl
    | succ k ih => rw [manyTo, ih, getD_repl, getD_repl']; rfl
  exact this _
theorem BdM.nil {n : Nat} (h : 0 < n) : BdM n 0 0 (List.replicate n []) (List.replicate n []) :=
  ⟨h, by simp, by simp, by rw [many_nil]; exact Nat.le_refl _, fun i hi => by rw [getD_repl]; simp, SmM.nil n⟩
theorem BdM.add {n a k : Nat} {cl : List (List Bat)} {op : List Bat} (h : BdM n a k cl op) {i : Nat} (hi : i < n) {x : Ent} (hx : EntSm x) : BdM n (a + 1) k cl (addM op i x) :=
  ⟨h.n0, h.lc, by rw [add_len]; exact h.lo, by rw [many_add (by rw [h.lc, h.lo]) (by rw [h.lo]; exact hi)]; have := h.many; omega, h.len, h.sm.add (by rw [h.lo]; exact hi) hx⟩
theorem BdM.cls {n a k : Nat} {cl : List (List Bat)} {op : List Bat} (h : BdM n a k cl op) {i : Nat} (hi : i < n) : BdM n a (k + 1) (clsM cl i (op.getD i [])) (op.set i []) :=
  ⟨h.n0, by rw [cls_len]; exact h.lc, by rw [List.length_set]; exact h.lo, by rw [many_cls (by rw [h.lc, h.lo]) (by rw [h.lc]; exact hi)]; exact h.many, fun j hj => by
    rw [cls_at (by rw [h.lc]; exact hi)]
    have := h.len j hj
    split
    · rename_i e; subst e; rw [List.length_append, List.length_singleton]; omega
    · omega, h.sm.cls (by rw [h.lc]; exact hi) (by rw [h.lc, h.lo])⟩
theorem wi_nat {z : Int} {n : Nat} (h : 0 < n) : ∃ i : Nat, wi z n = (i : Int) ∧ (wi z n).toNat = i ∧ i < n := by
  have g1 := wi_lo (k := z) (n := n) (by omega)
  have g2 := wi_hi (k := z) (n := n) (by omega)
  exact ⟨(wi z n).toNat, by omega, rfl, by omega⟩
end Go.Proofs.YtnepdfpooobmcaaGreat

/- Contracts and lemmas for the proofs of this seat; each theorem states its own conditions. -/
namespace Go.Proofs.YtnepdfpooobmcaaGreat
open Go.RowKit
/-! rokeep.mergeBegun, rokeep.fed -/
theorem SegLL.in {w : World} {v : Value} {ls : List (List Int)} (h : SegLL w v ls) : ∃ (a : Option Addr) (c : Nat) (us : List Value), v = .slice a ls.length c ∧ ls.length ≤ c ∧ c ≤ maxLen ∧ us.length = ls.length ∧ (0 < ls.length → ∃ b off, a = some ⟨b, off, none⟩ ∧ ∀ j u, us[j]? = some u → w.cell? ⟨b, off + j, none⟩ = some u) ∧ ∀ (i : Nat) (u : Value) (m : List Int), us[i]? = some u → ls[i]? = some m → Seg w u 1 m.length (cI m) := by
  obtain ⟨us, h1, ⟨_, a, c, rfl, h2, h3, h4⟩, h5⟩ := h
  rw [h1] at h2 h4 ⊢
  exact ⟨a, c, us, rfl, h2, h3, h1, h4, h5⟩
/-- entries that lie beside what turns -/
def EntsO (w : World) (S : Nat → Prop) (v : Value) (X : List Ent) : Prop := ∃ es, EntsSt 0 w es X ∧ Seg w v 4 X.length (cEn es) ∧ ∀ b off n c, v = .slice (some ⟨b, off, none⟩) n c → 0 < X.length → ¬ S b
theorem EntsO.seg {w : World} {S : Nat → Prop} {v : Value} {X : List Ent} (h : EntsO w S v X) : EntsSeg w v X := by
  obtain ⟨es, h1, h2, _⟩ := h
  exact ⟨es, h1.1, h2, fun j e x a b => (h1.2 j e x a b).seg⟩
theorem EntsO.kp {S S' : Nat → Prop} {w w' : World} (ty : TyS w S mTy) (k : Kp S w w' S') {v : Value} {X : List Ent} (h : EntsO w S v X) : EntsO w' S' v X := by
  obtain ⟨es, h1, ⟨g0, a, c, rfl, g1, g2, g3⟩, h3⟩ := h
  by_cases hn : 0 < X.length
  · obtain ⟨b, off, rfl, hc⟩ := g3 hn
    have hb := h3 b off _ _ rfl hn
    have hlt : b < w.heap.size := by
      have := hc 0 ((cEn es)[0]'(by rw [g0]; omega)) (List.getElem?_eq_getElem _)
      exact World.block_lt_of_cell? _ ⟨b, off + 0, none⟩ this
    have hblk := k.2.1 b hlt hb
    refine ⟨es, h1.kp ty k, ⟨g0, _, _, rfl, g1, g2, fun _ => ⟨b, off, rfl, fun j u hu => ?_⟩⟩, fun b' off' n c' e _ => ?_⟩
    · have := hc j u hu
      simp only [World.cell?] at this ⊢
      rw [hblk]; exact this
    · injection e with e _ _; injection e with e; injection e with e1 e2
      subst e1
      exact k.out hlt hb
  · exact ⟨es, h1.kp ty k, ⟨g0, _, _, rfl, g1, g2, fun h => absurd h hn⟩, fun _ _ _ _ _ h => absurd h hn⟩
theorem EntsO.ext {S : Nat → Prop} {w w' : World} {v : Value} {X : List Ent} (h : EntsO w S v X) (E : Ext w w') : EntsO w' S v X := by
  obtain ⟨es, h1, h2, h3⟩ := h
  exact ⟨es, h1.ext E, h2.ext E, h3⟩
structure EntOk (x : Ent) : Prop where
  sm : EntSm x
  sz : EntSz x
  ok : entE x = 0
theorem SegLL.low {w0 w w' : World} {S S' : Nat → Prop} {v : Value} {ls : List (List Int)} (h : SegLL w0 v ls) (E : Ext w0 w) (k : Kp S w w' S') (hS : ∀ i, S i → w0.heap.size ≤ i) : SegLL w' v ls := h.ext (k.low E hS).1
end Go.Proofs.YtnepdfpooobmcaaGreat

/- Contracts and lemmas for the proofs of this seat; each theorem states its own conditions. -/
namespace Go.Proofs.YtnepdfpooobmcaaGreat
theorem cutsOk_of {C : List ByteArray} (hp : C.Pairwise fun a b => blt a b = true) (hk : ∀ x ∈ C, keyB x = true) : allTo (cutOk C) C.length := by
  intro i hi
  have h1 := hk C[i] (List.getElem_mem hi)
  cases i with
  | zero => simp [cutOk, kAt_eq hi, h1]
  | succ i =>
    have h2 := List.pairwise_iff_getElem.1 hp i (i + 1) (by omega) hi (by omega)
    simp [cutOk, kAt_eq hi, kAt_eq (show i < C.length by omega), h1, h2]
theorem nm_key : ∀ j, (h : j < nmL.length) → keyB nmL[j] = true := by decide +kernel
theorem nm_lt : ∀ i, (hi : i < nmL.length) → ∀ j, (hj : j < nmL.length) → i < j → blt nmL[i] nmL[j] = true := by decide +kernel
theorem mkC_mem (l : List Int) : ∀ k, k ≤ 6 → ∀ x ∈ mkC l k, ∃ j, ∃ h : j < nmL.length, j < k ∧ x = nmL[j]
  | 0, _, x, hx => by simp [mkC] at hx
  | k + 1, hk, x, hx => by
    have ih := mkC_mem l k (by omega)
    have hl : k < nmL.length := by simp [nmL]; omega
    simp only [mkC] at hx
    split at hx
    · rw [List.mem_append] at hx
      rcases hx with hx | hx
      · obtain ⟨j, h, h1, h2⟩ := ih x hx; exact ⟨j, h, by omega, h2⟩
      · rw [List.mem_singleton, kAt_eq hl] at hx
        exact ⟨k, hl, by omega, hx⟩
    · obtain ⟨j, h, h1, h2⟩ := ih x hx; exact ⟨j, h, by omega, h2⟩
theorem mkC_sorted (l : List Int) : ∀ k, k ≤ 6 → (mkC l k).Pairwise fun a b => blt a b = true
  | 0, _ => by simp [mkC]
  | k + 1, hk => by
    have ih := mkC_sorted l k (by omega)
    have hl : k < nmL.length := by simp [nmL]; omega
    simp only [mkC]
    split
    · rw [List.pairwise_append]
      refine ⟨ih, by simp, fun a ha b hb => ?_⟩
      rw [List.mem_singleton, kAt_eq hl] at hb
      obtain ⟨j, h, h1, h2⟩ := mkC_mem l k (by omega) a ha
      rw [h2, hb]; exact nm_lt j h k hl h1
    · exact ih
theorem mkO_range (l : List Int) : ∀ k, ∀ n ∈ mkO l k, 0 ≤ n ∧ n < 4
  | 0, n, hn => by simp [mkO] at hn; omega
  | k + 1, n, hn => by
    simp only [mkO] at hn
    split at hn
    · rw [List.mem_append] at hn
      rcases hn with hn | hn
      · exact mkO_range l k n hn
      · rw [List.mem_singleton] at hn
        rw [hn]; exact ⟨wi_lo (by omega), wi_hi (by omega)⟩
    · exact mkO_range l k n hn
theorem ownsOk_of {O : List Int} (h : ∀ n ∈ O, 0 ≤ n ∧ n < 4) : allTo (ownOk O) O.length := by
  intro i hi
  have := h O[i] (List.getElem_mem hi)
  exact ownOk_yes hi this.1 this.2
theorem mk_ok (l : List Int) : MapOk (mkC l 6) (mkO l 6) :=
  ⟨by have := mkC_len l 6; omega, mkO_len l 6, cutsOk_of (mkC_sorted l 6 (by omega)) (fun x hx => by
    obtain ⟨j, h, _, h2⟩ := mkC_mem l 6 (by omega) x hx; rw [h2]; exact nm_key j h), ownsOk_of (mkO_range l 6)⟩
theorem mk_small (l : List Int) : ∀ x ∈ mkC l 6, x.size ≤ 9223372036854775807 := fun x hx => by
  obtain ⟨j, h, _, h2⟩ := mkC_mem l 6 (by omega) x hx
  have : ∀ j, (h : j < nmL.length) → nmL[j].size ≤ 2 := by decide +kernel
  have := this j h
  rw [h2]; omega
theorem mem_range_of {O : List Int} (h : allTo (ownOk O) O.length) : ∀ n ∈ O, 0 ≤ n ∧ n < 4 := by
  intro n hn
  obtain ⟨i, hi, rfl⟩ := List.mem_iff_getElem.1 hn
  have := h i hi
  simp [ownOk, hi] at this
  omega
/-- the place of a key -/
def plc (C : List ByteArray) (k : ByteArray) : Nat := idx (leAt C k) C.length
theorem plc_cut {C : List ByteArray} (hs : srt C) (k : ByteArray) : cutAt (leAt C k) C.length (plc C k) := by
  have hd := dropsB_le hs k
  have : ∃ i, cutAt (leAt C k) C.length i := by
    have key : ∀ m, m ≤ C.length → (∃ i, cutAt (leAt C k) C.length i) ∨ ∀ j, j < m → leAt C k j = true := by
      intro m
      induction m with
      | zero => intro _; right; intro j hj; omega
      | succ m ih =>
        intro hm
        rcases ih (by omega) with h | h
        · exact .inl h
        · cases hb : leAt C k m with
          | true => right; intro j hj; rcases Nat.lt_succ_iff_lt_or_eq.1 hj with h' | h'
                    · exact h j h'
                    · subst h'; exact hb
          | false =>
            left
            refine ⟨m, by omega, h, fun j hj hjn => ?_⟩
            cases hb' : leAt C k j with
            | false => rfl
            | true =>
              rcases Nat.eq_or_lt_of_le hj with h' | h'
              · subst h'; rw [hb] at hb'; cases hb'
              · have := hd m j h' hjn hb'; rw [hb] at this; cases this
    rcases key C.length (Nat.le_refl _) with h | h
    · exact h
    · exact ⟨C.length, Nat.le_refl _, h, fun j hj hjn => by omega⟩
  obtain ⟨i, hi⟩ := this
  have := idx_spec _ _ _ hi
  unfold plc; rw [this]; exact hi
theorem plc_le {C : List ByteArray} (hs : srt C) (k : ByteArray) : plc C k ≤ C.length := (plc_cut hs k).1
theorem whose_plc (C : List ByteArray) (O : List Int) (k : ByteArray) : whose C O k = O.getD (plc C k) 0 := rfl
theorem OwnMap.unpack {w : World} {B : Nat} {v : Value} {cuts : List ByteArray} {owners : List Int} (h : OwnMap w B v cuts owners) :
    ∃ a k a' k', v = .agg #[.slice a cuts.length k, .slice a' owners.length k'] ∧ IsMap w (.agg #[.slice a cuts.length k, .slice a' owners.length k']) cuts owners := by
  have h' := h.is
  obtain ⟨a, k, a', k', rfl, _⟩ := h'.unpack
  exact ⟨a, k, a', k', rfl, h'⟩
end Go.Proofs.YtnepdfpooobmcaaGreat

/- Contracts and lemmas for the proofs of this seat; each theorem states its own conditions. -/
namespace Go.Proofs.YtnepdfpooobmcaaGreat
open Go.RowKit
/-! MergeGrows: what is used besides -/
/-- one entry of some -/
theorem EntsO.one {w : World} {S : Nat → Prop} {b off c i : Nat} {X : List Ent} (h : EntsO w S (.slice (some ⟨b, off, none⟩) X.length c) X) (hi : i < X.length) : EntsO w S (.slice (some ⟨b, off + i * 4, none⟩) 1 (c - i)) [X[i]] := by
  obtain ⟨es, h1, h2, h3⟩ := h
  have hie : i < es.length := by have := h1.1; omega
  obtain ⟨b', off', he, _, p1, p2, hc⟩ := seg_cells h2 (by omega)
  injection he with he; injection he with e1 e2
  subst e1; subst e2
  obtain ⟨x0, x1, x2, x3⟩ := cEn_at es hie
  replace x0 := hc _ _ x0
  replace x1 := hc _ _ x1
  replace x2 := hc _ _ x2
  replace x3 := hc _ _ x3
  refine ⟨[es[i]], ⟨rfl, fun j e x a b => ?_⟩, ⟨rfl, _, _, rfl, (show 1 ≤ c - i by omega), by omega, fun _ => ⟨b, _, rfl, fun j u hu => ?_⟩⟩, fun b' off' n' c' e _ => ?_⟩
  · have hj : j = 0 := by have := (List.getElem?_eq_some_iff.1 a).1; simp at this; omega
    subst hj; simp at a b; subst a; subst b
    exact h1.2 i _ _ (List.getElem?_eq_getElem hie) (List.getElem?_eq_getElem hi)
  · have hcell : ∀ m, off + i * 4 + m = off + (i * 4 + m) := fun m => by omega
    rw [hcell]
    have hu' : (evC es[i])[j]? = some u := by simpa [cEn] using hu
    rcases j with _ | _ | _ | _ | j
    · simp [evC] at hu'; subst hu'; exact x0
    · simp [evC] at hu'; subst hu'; exact x1
    · simp [evC] at hu'; subst hu'; exact x2
    · simp [evC] at hu'; subst hu'; exact x3
    · simp [evC] at hu'
  · injection e with e _ _; injection e with e; injection e with e1 e2
    subst e1
    exact h3 b off _ _ rfl (by omega)
theorem EntsO.nil (w : World) (S : Nat → Prop) : EntsO w S (.slice none 0 0) [] := ⟨[], EntsSt.nil w, Seg.nil _ _, fun b off n c h => by cases h⟩
/-- one list of some -/
theorem SegLL.one {w : World} {b off c i : Nat} {ls : List (List Int)} (h : SegLL w (.slice (some ⟨b, off, none⟩) ls.length c) ls) (hi : i < ls.length) : SegLL w (.slice (some ⟨b, off + i, none⟩) 1 (c - i)) [ls[i]] := by
  obtain ⟨us, h1, h2, h3⟩ := h
  have hiu : i < us.length := by omega
  obtain ⟨b', off', he, _, p1, p2, hc⟩ := seg_cells h2 (by omega)
  injection he with he; injection he with e1 e2
  subst e1; subst e2
  have x0 := hc i us[i] (List.getElem?_eq_getElem hiu)
  refine ⟨[us[i]], rfl, ⟨rfl, _, _, rfl, ?_, by omega, fun _ => ⟨b, _, rfl, fun j u hu => ?_⟩⟩, fun j u m a b => ?_⟩
  · show 1 ≤ c - i; omega
  · have hj : j = 0 := by have := (List.getElem?_eq_some_iff.1 hu).1; simp at this; omega
    subst hj; simp at hu; subst hu
    exact x0
  · have hj : j = 0 := by have := (List.getElem?_eq_some_iff.1 a).1; simp at this; omega
    subst hj; simp at a b; subst a; subst b
    exact h3 i _ _ (List.getElem?_eq_getElem hiu) (List.getElem?_eq_getElem hi)
/-- the first of some entries -/
theorem EntsSeg.take {w : World} {a : Option Addr} {c m : Nat} {X : List Ent} (h : EntsSeg w (.slice a X.length c) X) (hm : m ≤ X.length) : EntsSeg w (.slice a m c) (X.take m) := by
  obtain ⟨es, h1, ⟨g0, a', c', e, g1, g2, g3⟩, h3⟩ := h
  injection e with e1 _ e2
  subst e1; subst e2
  have hl : (X.take m).length = m := by rw [List.length_take]; omega
  refine ⟨es.take m, by rw [List.length_take, hl]; omega, ⟨by rw [cEn_len, List.length_take, hl]; omega, a, c, by rw [hl], by omega, g2, fun hn => ?_⟩, fun j e x p q => ?_⟩
  · rw [hl] at hn
    obtain ⟨b, off, rfl, hc⟩ := g3 (by omega)
    refine ⟨b, off, rfl, fun j u hu => hc j u ?_⟩
    rw [← cEn_take] at hu
    have hj := (List.getElem?_eq_some_iff.1 hu).1
    rw [List.length_take] at hj
    rw [List.getElem?_take_of_lt (by omega)] at hu
    exact hu
  · have hj := (List.getElem?_eq_some_iff.1 q).1
    rw [hl] at hj
    rw [List.getElem?_take_of_lt hj] at p q
    exact h3 j e x p q
/-- a log lies beside what was there -/
theorem LogR.off {w : World} {S : Nat → Prop} {T : List Nat} {X : List Ent} {v : Value} {a : World} (h : LogR w X v a) (ty : TyS w S T) : EntsO a S v X := by
  obtain ⟨es, h1, h2, h3⟩ := h
  refine ⟨es, h1.low (Nat.zero_le _), own_seg h2, fun b off n c e hn hb => ?_⟩
  have := ty.lt hb
  have := own_ge h2 b (by
    rcases h2.2 with ⟨e', _⟩ | ⟨g, cap, cur, e', _⟩
    · rw [e'] at e; cases e
    · rw [e'] at e ⊢
      injection e with e _ _; injection e with e; injection e with e1 e2
      subst e1; rfl)
  omega
end Go.Proofs.YtnepdfpooobmcaaGreat

/- Contracts and lemmas for the proofs of this seat; each theorem states its own conditions. -/
namespace Go.Proofs.YtnepdfpooobmcaaGreat
/-! orders of deeds, in plain lists -/
end Go.Proofs.YtnepdfpooobmcaaGreat

/- Contracts and lemmas for the proofs of this seat; each theorem states its own conditions. -/
namespace Go.Proofs.YtnepdfpooobmcaaGreat
/-! orders of deeds, on stores; where each stands; rounds -/
/-- the round of each, up to k -/
def rnd1 (A : List Ops) (R : List Nat) (i : Nat) : Nat → Nat
  | 0 => 0
  | k + 1 => if clashB (A.getD k []) (A.getD i []) = true then max (rnd1 A R i k) (R.getD k 0 + 1) else rnd1 A R i k
def rndTo (A : List Ops) : Nat → List Nat
  | 0 => []
  | n + 1 => rndTo A n ++ [rnd1 A (rndTo A n) n n]
end Go.Proofs.YtnepdfpooobmcaaGreat
