/- Contracts and lemmas for the proof of MergePlays; each theorem states its own conditions. -/
import Derived.Test.YtddghaoejnbkaaaDoorQMergePlaysaq
import Derived.Test.YtddghaoejnbkaaaDoorQMergePlaysay
import Derived.BigRegion
set_option linter.unusedVariables false
set_option linter.unusedSimpArgs false
/- Contracts and lemmas for the proofs of this seat; each theorem states its own conditions. -/
namespace Go.Proofs.YtddghaoejnbkaaaDoor
open Go.RowKit
/-! make([]int, n), make([]bool, n); stores into such rows -/
theorem made_one (z : Value) (hz : z.cells = #[z]) (n : Nat) : (madeCells z.cells (n * 1)).toList = List.replicate n z := by
  apply List.ext_getElem
  · simp [madeCells]
  · intro i h1 h2
    simp [madeCells, hz, Nat.mod_one]
section
variable (w : World) {ops : Array Oper} {rest : List Oper} {o : Oper} {a : Act} {Q : Exit → Act → World → Prop}
end
end Go.Proofs.YtddghaoejnbkaaaDoor

/- Contracts and lemmas for the proofs of this seat; each theorem states its own conditions. -/
namespace Go.Proofs.YtddghaoejnbkaaaDoor
open Go.RowKit
variable {eB : Nat}
/-! merge.New -/
set_option maxRecDepth 100000 in
theorem wpList_make_sl {w : World} {ops : Array Oper} {rest : List Oper} {o : Oper} {a : Act} {Q : Exit → Act → World → Prop} (hg : o.guard = none) (l c : Operand) (t e : TypeId) (hop : o.op = Op.makeSlice t l c) (ht : Tryd.prog.underlying t = some (.slice e))
    (hinfo : (Tryd.prog.info? e).map (fun i => (i.zero, i.size, i.bytes)) = some (some (.slice none 0 0), 1, 24)) (n : Nat) (hl : a.eval l = .int .i64 n) (hc : a.eval c = .int .i64 n) (hn : n ≤ 1000000)
    (hK : ∀ w', w'.ownsRow w.heap.size e 1 (.slice (some ⟨w.heap.size, 0, none⟩) n n) n (List.replicate n (.slice none 0 0)) → w'.heap[w.heap.size]? = some (.cells (rowV n (fun _ => .slice none 0 0)).toArray e (0, 0)) → Ext w w' → wpList Tryd.prog ops Q rest (a.put o.dst (.slice (some ⟨w.heap.size, 0, none⟩) n n)) w') : wpList Tryd.prog ops Q (o :: rest) a w := by
  obtain ⟨i, i1, i2, i3, i4⟩ := info_parts hinfo
  refine wpList_make_full w hg l c t hop w.heap.size e i (.slice none 0 0) 1 ht i1 i2 i3 .i64 .i64 n n n hl hc rfl rfl (by rw [i4]; omega) (by unfold maxLen; omega) (Nat.le_refl _) fun w' h1 h2 => ?_
  rw [made_one _ rfl] at h1
  refine hK w' h1 ?_ ((Ext.refl w).grown h2 (by simp))
  rcases h1.2 with ⟨e, _⟩ | ⟨g, cap, cur, e1, e2, e3, e4, e5, e6, e7⟩
  · cases e
  · injection e1 with e1 _ e1c
    injection e1 with e1; injection e1 with e1
    subst e1; subst e1c
    rw [e3]
    have : cur.toList = rowV n (fun _ => .slice none 0 0) := by
      have hl : cur.toList.length = n * 1 := by simpa using e6
      rw [List.take_of_length_le (by omega)] at e7
      rw [e7]
      unfold rowV
      apply List.ext_getElem
      · simp
      · intro j h1 h2; simp
    rw [← this]
def MadeR (w : World) (n e : Nat) (v : Value) (w' : World) : Prop := ∃ b, v = .slice (some ⟨b, 0, none⟩) n n ∧ w.heap.size ≤ b ∧ w'.heap[b]? = some (.cells (rowV n (fun _ => .slice none 0 0)).toArray e (0, 0))
def MadeS (w : World) (n : Nat) (v : Value) (w' : World) : Prop := ∃ b c, v = .agg #[.slice (some ⟨b, 0, none⟩) n n, .slice (some ⟨c, 0, none⟩) n n] ∧ w.heap.size ≤ b ∧ w.heap.size ≤ c ∧ w'.heap[b]? = some (.cells (rowV n (fun _ => .slice none 0 0)).toArray 52 (0, 0)) ∧ w'.heap[c]? = some (.cells (rowV n (fun _ => .slice none 0 0)).toArray 23 (0, 0))
def MadeB (w : World) (n : Nat) (v : Value) (w' : World) : Prop := ∃ a b c, v = .pointer (some ⟨a, 0, none⟩) ∧ w.heap.size ≤ a ∧ w.heap.size ≤ b ∧ w.heap.size ≤ c ∧ w'.heap[a]? = some (.cells #[.slice (some ⟨b, 0, none⟩) n n, .slice (some ⟨c, 0, none⟩) n n] 54 (0, 0)) ∧ w'.heap[b]? = some (.cells (rowV n (fun _ => .slice none 0 0)).toArray 52 (0, 0)) ∧ w'.heap[c]? = some (.cells (rowV n (fun _ => .slice none 0 0)).toArray 23 (0, 0))
theorem getD_repl (n i : Nat) : (List.replicate n ([] : List Bat)).getD i [] = [] := by
  simp only [List.getD_eq_getElem?_getD]
  by_cases h : i < n
  · simp [h]
  · rw [List.getElem?_eq_none (by simp; omega)]; rfl
theorem getD_repl' (n i : Nat) : (List.replicate n ([] : Bat)).getD i [] = [] := by
  simp only [List.getD_eq_getElem?_getD]
  by_cases h : i < n
  · simp [h]
  · rw [List.getElem?_eq_none (by simp; omega)]; rfl
theorem made_merge {w w' : World} {n : Nat} (h1 : 1 ≤ n) (h4 : n ≤ 4) {a b c : Nat} (h : w.heap.size ≤ a ∧ w.heap.size ≤ b ∧ w.heap.size ≤ c ∧ w'.heap[a]? = some (.cells #[.slice (some ⟨b, 0, none⟩) n n, .slice (some ⟨c, 0, none⟩) n n] 54 (0, 0)) ∧ w'.heap[b]? = some (.cells (rowV n (fun _ => .slice none 0 0)).toArray 52 (0, 0)) ∧ w'.heap[c]? = some (.cells (rowV n (fun _ => .slice none 0 0)).toArray 23 (0, 0))) :
    ∃ S, MergeSt 0 w' S a (List.replicate n []) (List.replicate n []) ∧ ∀ k, S k → w.heap.size ≤ k := by
  obtain ⟨l1, l2, l3, b1, b2, b3⟩ := h
  refine ⟨fun k => k = a ∨ k = b ∨ k = c, ⟨b, c, fun _ => .slice none 0 0, fun _ => .slice none 0 0, by simp; omega, by simpa using h4, by simp, ?_, .inl rfl, .inr (.inl rfl), .inr (.inr rfl), by simpa using b1, by simpa using b2, by simpa using b3, ?_, ?_, fun _ _ _ _ _ => apart_nil _, fun _ _ h => (by cases h), fun _ _ _ _ _ => apart_nil _, Nat.zero_le _⟩, ?_⟩
  · rintro k (rfl | rfl | rfl)
    · exact ⟨_, _, b1, by decide⟩
    · exact ⟨_, _, b2, by decide⟩
    · exact ⟨_, _, b3, by decide⟩
  · intro i _
    rw [getD_repl]
    exact ClsSt.nil _ _ _
  · intro i _
    rw [getD_repl']
    exact BatSt.nil _ _
  · rintro k (rfl | rfl | rfl) <;> assumption
set_option maxRecDepth 100000 in
set_option maxHeartbeats 4000000 in
theorem mnew_ok (n : Nat) (h1 : 1 ≤ n) (h4 : n ≤ 4) (w : World) : Calls Tryd.prog 4 #[.int .i64 n] w fun e w' => ∃ bm S, e = .returned (.tuple #[.pointer (some ⟨bm, 0, none⟩), .int .i64 0]) ∧ MergeSt 0 w' S bm (List.replicate n []) (List.replicate n []) ∧ (∀ k, S k → w.heap.size ≤ k) ∧ Ext w w' := by
  have qa : ¬ ((n : Int) < 1) := by omega
  have qb : ¬ ((n : Int) > 4) := by omega
  go_enter Tryd.func4, Tryd.ntmps4
  go_wp2_with fail
  refine wp_region_ph [.k (.int .i64 n), .p (MadeR w n 52), .k (.int .i64 n), .p (MadeR w n 23), .p (MadeS w n), .p (MadeB w n)] [] (by kernel_rfl) (by kernel_rfl) (by kernel_rfl) rfl rfl ?hs ?hC ?he
  case hC =>
    intro i hi
    simp at hi
  case hs =>
    refine ⟨?_, ?_, ?_, ?_, ?_, ?_, trivial⟩
    all_goals (
      intro x w' hE hd
      try simp [PhDeps, at_k, at_p, at_t, at_any, Region.binds] at hd
      try ((with_reducible refine Exists.elim hd ?_); clear hd; intro y hd; obtain ⟨hd, hG⟩ := hd)
      try (obtain ⟨⟨u1, g1, g2, b1, e1, l1, k1⟩, ⟨u2, g3, g4, b2, e2, l2, k2⟩⟩ := hd; replace k1 := g2.heap k1; replace k2 := g4.heap k2; clear g1 g2 g3 g4)
      try (obtain ⟨u1, g1, g2, b1, b2, e1, l1, l2, k1, k2⟩ := hd; replace k1 := g2.heap k1; replace k2 := g2.heap k2; clear g1 g2)
      try (have hsz := hE.size')
      first | simp only [frL, List.length_cons, List.length_nil, List.take_succ_cons, List.take_zero, Nat.reduceAdd, Nat.zero_add, List.setIfInBounds_toArray, List.set_cons_zero, List.set_cons_succ, hd] | simp only [frL, List.length_cons, List.length_nil, List.take_succ_cons, List.take_zero, Nat.reduceAdd, Nat.zero_add, List.setIfInBounds_toArray, List.set_cons_zero, List.set_cons_succ]
      go_wp2_with (first | (at_make; refine wpList_make_sl rfl _ _ _ 52 rfl Tryd.underlying51 infoEss n rfl rfl (by omega) ?_; intro w2 ho1 hb1 hE1) | (at_make; refine wpList_make_sl rfl _ _ _ 23 rfl Tryd.underlying52 infoEs n rfl rfl (by omega) ?_; intro w2 ho2 hb2 hE2))
      all_goals first
        | ((with_reducible refine phK ?_ ?_); (focus rfl); (repeat (first | (with_reducible assumption) | (with_reducible exact Ext.refl _) | (with_reducible refine Ext.drew ?_) | (with_reducible refine Ext.drewN ?_ _) | (with_reducible refine Ext.alloc ?_ _) | (with_reducible refine Ext.trans ?_ (by with_reducible assumption)))))
        | (exact phN ⟨_, rfl, hsz, hb1⟩ hE hE1)
        | (exact phN ⟨_, rfl, hsz, hb2⟩ hE hE2)
        | (exact phN ⟨_, _, rfl, l1, l2, k1, k2⟩ hE (Ext.refl _))
        | (exact phN ⟨_, _, _, rfl, hsz, l1, l2, heap_alloc_new _ _, ((Ext.refl _).alloc _).heap k1, ((Ext.refl _).alloc _).heap k2⟩ hE ((Ext.refl _).alloc _))
        | ((with_reducible refine phT rfl hG ?_); (repeat (first | (with_reducible assumption) | (with_reducible exact Ext.refl _) | (with_reducible refine Ext.drew ?_) | (with_reducible refine Ext.drewN ?_ _) | (with_reducible refine Ext.alloc ?_ _) | (with_reducible refine Ext.trans ?_ (by with_reducible assumption)))))
        | ((with_reducible refine phU hG ?_); (repeat (first | (with_reducible assumption) | (with_reducible exact Ext.refl _) | (with_reducible refine Ext.drew ?_) | (with_reducible refine Ext.drewN ?_ _) | (with_reducible refine Ext.alloc ?_ _) | (with_reducible refine Ext.trans ?_ (by with_reducible assumption)))))
        | (with_reducible exact phBox hE)
        | (with_reducible exact phRow hE))
  case he =>
    intro x w' hE hd
    simp [PhEnd, at_k, at_p, at_t] at hd
    obtain ⟨e0, -, e2, -, -, u1, g1, g2, a, b, c, e5, hM⟩ := hd
    obtain ⟨l1, l2, l3, b1, b2, b3⟩ := hM
    obtain ⟨S, hS, hl⟩ := made_merge h1 h4 ⟨l1, l2, l3, g2.heap b1, g2.heap b2, g2.heap b3⟩
    simp only [frL, List.length_cons, List.length_nil, List.take_succ_cons, List.take_zero, Nat.reduceAdd, Nat.zero_add, List.setIfInBounds_toArray, List.set_cons_zero, List.set_cons_succ, e0, e2, e5]
    clear e0 e2 e5 b1 b2 b3 g1 g2
    go_wp2
    go_ret2
    exact ⟨_, S, rT2 rfl rfl, hS, hl, hE⟩
end Go.Proofs.YtddghaoejnbkaaaDoor
