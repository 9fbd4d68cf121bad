/- Contracts and lemmas for the proof of TopLog; each theorem states its own conditions. -/
import Derived.Test.YtddghaoejnbkaaaGreatDoorQTopLogbe
import Derived.Test.YtddghaoejnbkaaaGreatDoorQTopLogay
import Derived.Test.YtddghaoejnbkaaaGreatDoorQTopLogbd
import Derived.BigRegion
set_option linter.unusedVariables false
set_option linter.unusedSimpArgs false
/- Contracts and lemmas for the proofs of this seat; each theorem states its own conditions. -/
namespace Go.Proofs.YtddghaoejnbkaaaGreatDoor
/-! a log as text, in plain lists -/
/-- P40, over at most so many lines -/
def lgRd : Nat → List UInt8 → Int × List Ent × Nat
  | 0, _ => (0, [], 0)
  | f + 1, l =>
    if l = [] then (0, [], 0) else if (lnRd l).1 = 7 then (0, [], 0) else if (lnRd l).1 ≠ 0 then ((lnRd l).1, [], 0)
    else if (lgRd f (l.drop (lnRd l).2.2)).1 = 0 then (0, (lnRd l).2.1 :: (lgRd f (l.drop (lnRd l).2.2)).2.1, (lnRd l).2.2 + (lgRd f (l.drop (lnRd l).2.2)).2.2) else ((lgRd f (l.drop (lnRd l).2.2)).1, [], 0)
def logT (xs : List Ent) : List UInt8 := xs.flatMap entT
theorem lnRd_short {l : List UInt8} (h : (10 : UInt8) ∉ l) : lnRd l = (7, entN, 0) := by rw [lnRd, cutF_not h]
theorem entT_ne (x : Ent) : entT x ≠ [] := by simp [entT, lineT]
/-- a log read as it was written, with a rest that holds no line -/
theorem lgRd_rt {r : List UInt8} (hr : (10 : UInt8) ∉ r) : ∀ (xs : List Ent) (f : Nat), xs.length < f → (∀ x ∈ xs, entE x = 0) → lgRd f (logT xs ++ r) = (0, xs.map bareE, (logT xs).length)
  | [], f + 1, _, _ => by
    rw [lgRd]
    simp only [logT, List.flatMap_nil, List.nil_append, lnRd_short hr]
    split <;> simp
  | x :: xs, f + 1, h, hx => by
    have ih := lgRd_rt hr xs f (by simpa using h) (fun y hy => hx y (by simp [hy]))
    have h1 := lnRd_rt (hx x (by simp)) (logT xs ++ r)
    have e : logT (x :: xs) ++ r = entT x ++ (logT xs ++ r) := by simp [logT]
    rw [e, lgRd, if_neg (by simp [entT_ne]), h1]
    simp only [List.drop_left, ih]
    simp [logT]
end Go.Proofs.YtddghaoejnbkaaaGreatDoor

/- Contracts and lemmas for the proofs of this seat; each theorem states its own conditions. -/
namespace Go.Proofs.YtddghaoejnbkaaaGreatDoor
/-! a log as text: what a prefix of it says; how a reading goes on -/
theorem lnRd_len {l : List UInt8} (h : (lnRd l).1 = 0) : 1 ≤ (lnRd l).2.2 ∧ (lnRd l).2.2 ≤ l.length := by
  obtain ⟨b, more, rfl, hb, hr, _⟩ := lnRd_ok h
  rw [lnRd_line hb more hr]
  simp only [List.length_append]
  have : (lineT b).length ≠ 0 := by simp [lineT]
  omega
/-- what was read, and what the rest says -/
def lgAcc (X : List Ent) (u : Nat) (r : Int × List Ent × Nat) : Int × List Ent × Nat := if r.1 = 0 then (0, X ++ r.2.1, u + r.2.2) else (r.1, [], 0)
theorem lgAcc_nil (r : Int × List Ent × Nat) (h : r.1 ≠ 0 → r = (r.1, [], 0)) : lgAcc [] 0 r = r := by
  obtain ⟨a, b, c⟩ := r
  unfold lgAcc
  split
  · rename_i h0
    simp only at h0
    subst h0
    simp
  · rename_i h0
    exact (h h0).symm
theorem lgRd_err : ∀ (f : Nat) (l : List UInt8), (lgRd f l).1 ≠ 0 → lgRd f l = ((lgRd f l).1, [], 0)
  | 0, l, h => by simp [lgRd] at h
  | f + 1, l, h => by
    rw [lgRd] at h ⊢
    split at h
    · simp at h
    · rename_i h1
      rw [if_neg h1]
      split at h
      · simp at h
      · rename_i h2
        rw [if_neg h2]
        split at h
        · rename_i h3
          rw [if_pos h3]
        · rename_i h3
          rw [if_neg h3]
          split at h
          · simp at h
          · rename_i h4
            rw [if_neg h4]
theorem lgRd_end {f : Nat} {l : List UInt8} (h : l = [] ∨ (lnRd l).1 = 7) : lgRd (f + 1) l = (0, [], 0) := by
  rw [lgRd]
  by_cases h0 : l = []
  · rw [if_pos h0]
  · rw [if_neg h0, if_pos (h.resolve_left h0)]
theorem lgRd_bad {f : Nat} {l : List UInt8} (h0 : l ≠ []) (h7 : (lnRd l).1 ≠ 7) (h : (lnRd l).1 ≠ 0) : lgRd (f + 1) l = ((lnRd l).1, [], 0) := by
  rw [lgRd, if_neg h0, if_neg h7, if_pos h]
theorem lgAcc_step {X : List Ent} {u f : Nat} {l : List UInt8} (h0 : l ≠ []) (h : (lnRd l).1 = 0) :
    lgAcc X u (lgRd (f + 1) l) = lgAcc (X ++ [(lnRd l).2.1]) (u + (lnRd l).2.2) (lgRd f (l.drop (lnRd l).2.2)) := by
  have h7 : (lnRd l).1 ≠ 7 := by rw [h]; decide
  rw [lgRd, if_neg h0, if_neg h7, if_neg (by simp [h])]
  unfold lgAcc
  by_cases hr : (lgRd f (l.drop (lnRd l).2.2)).1 = 0
  · rw [if_pos hr, if_pos hr, if_pos rfl]
    simp [Nat.add_assoc]
  · rw [if_neg hr, if_neg hr, if_neg hr]
/-- a whole log read -/
def lgAll (l : List UInt8) : Int × List Ent × Nat := if 20000 < l.length then (2, [], 0) else lgRd (l.length + 1) l
theorem entT_end {x : Ent} (h : entE x = 0) : ∃ a, entT x = a ++ [10] ∧ (10 : UInt8) ∉ a := by
  refine ⟨bodyT x ++ 32 :: Lib.itoa (sbL (bodyT x)), by simp [entT, lineT], ?_⟩
  simp only [List.mem_append, List.mem_cons, not_or]
  exact ⟨(bodP_ent h).nl, by decide, itoaN_not _ 10 rfl⟩
/-- a log cut anywhere: its whole lines, and a rest that holds no end of a line -/
theorem log_cut : ∀ (xs : List Ent) (c : Nat), (∀ x ∈ xs, entE x = 0) → c ≤ (logT xs).length →
    ∃ m r, m ≤ xs.length ∧ (logT xs).take c = logT (xs.take m) ++ r ∧ (10 : UInt8) ∉ r ∧ ((logT xs).take c).count 10 = m
  | [], c, _, hc => ⟨0, [], by simp, by simp [logT], by simp, by simp [logT]⟩
  | x :: xs, c, h, hc => by
    obtain ⟨a, ha, hn⟩ := entT_end (h x (by simp))
    have e : logT (x :: xs) = entT x ++ logT xs := by simp [logT]
    rw [e] at hc ⊢
    by_cases hl : c < (entT x).length
    · rw [List.take_append_of_le_length (by omega), ha, List.take_append_of_le_length (by rw [ha] at hl; simp at hl; omega)]
      have hm : (10 : UInt8) ∉ a.take c := fun q => hn (List.mem_of_mem_take q)
      exact ⟨0, a.take c, by simp, by simp [logT], hm, List.count_eq_zero.2 hm⟩
    · rw [List.length_append] at hc
      obtain ⟨m, r, h1, h2, h3, h4⟩ := log_cut xs (c - (entT x).length) (fun y hy => h y (by simp [hy])) (by omega)
      refine ⟨m + 1, r, by simp; omega, ?_, h3, ?_⟩
      · rw [List.take_append, List.take_of_length_le (by omega), h2]
        simp [logT]
      · rw [List.take_append, List.take_of_length_le (by omega), List.count_append, h4, ha, List.count_append, List.count_eq_zero.2 hn]
        simp
        omega
theorem logT_len : ∀ xs : List Ent, xs.length ≤ (logT xs).length
  | [] => by simp [logT]
  | x :: xs => by
    have := logT_len xs
    have h2 : (entT x).length ≠ 0 := by simp [entT, lineT]
    simp [logT] at this ⊢
    omega
theorem logT_snoc (xs : List Ent) (x : Ent) : logT (xs ++ [x]) = logT xs ++ entT x := by simp [logT]
end Go.Proofs.YtddghaoejnbkaaaGreatDoor

/- Contracts and lemmas for the proofs of this seat; each theorem states its own conditions. -/
namespace Go.Proofs.YtddghaoejnbkaaaGreatDoor
open Go.RowKit
/-! make([]int, n), make([]bool, n); stores into such rows -/
theorem made_one (z : Value) (hz : z.cells = #[z]) (n : Nat) : (madeCells z.cells (n * 1)).toList = List.replicate n z := by
  apply List.ext_getElem
  · simp [madeCells]
  · intro i h1 h2
    simp [madeCells, hz, Nat.mod_one]
section
variable (w : World) {ops : Array Oper} {rest : List Oper} {o : Oper} {a : Act} {Q : Exit → Act → World → Prop}
end
end Go.Proofs.YtddghaoejnbkaaaGreatDoor

/- Contracts and lemmas for the proofs of this seat; each theorem states its own conditions. -/
namespace Go.Proofs.YtddghaoejnbkaaaGreatDoor
open Go.RowKit
variable {eB : Nat}
/-! merge.New -/
set_option maxRecDepth 100000 in
theorem wpList_make_sl {w : World} {ops : Array Oper} {rest : List Oper} {o : Oper} {a : Act} {Q : Exit → Act → World → Prop} (hg : o.guard = none) (l c : Operand) (t e : TypeId) (hop : o.op = Op.makeSlice t l c) (ht : Tryz.prog.underlying t = some (.slice e))
    (hinfo : (Tryz.prog.info? e).map (fun i => (i.zero, i.size, i.bytes)) = some (some (.slice none 0 0), 1, 24)) (n : Nat) (hl : a.eval l = .int .i64 n) (hc : a.eval c = .int .i64 n) (hn : n ≤ 1000000)
    (hK : ∀ w', w'.ownsRow w.heap.size e 1 (.slice (some ⟨w.heap.size, 0, none⟩) n n) n (List.replicate n (.slice none 0 0)) → w'.heap[w.heap.size]? = some (.cells (rowV n (fun _ => .slice none 0 0)).toArray e (0, 0)) → Ext w w' → wpList Tryz.prog ops Q rest (a.put o.dst (.slice (some ⟨w.heap.size, 0, none⟩) n n)) w') : wpList Tryz.prog ops Q (o :: rest) a w := by
  obtain ⟨i, i1, i2, i3, i4⟩ := info_parts hinfo
  refine wpList_make_full w hg l c t hop w.heap.size e i (.slice none 0 0) 1 ht i1 i2 i3 .i64 .i64 n n n hl hc rfl rfl (by rw [i4]; omega) (by unfold maxLen; omega) (Nat.le_refl _) fun w' h1 h2 => ?_
  rw [made_one _ rfl] at h1
  refine hK w' h1 ?_ ((Ext.refl w).grown h2 (by simp))
  rcases h1.2 with ⟨e, _⟩ | ⟨g, cap, cur, e1, e2, e3, e4, e5, e6, e7⟩
  · cases e
  · injection e1 with e1 _ e1c
    injection e1 with e1; injection e1 with e1
    subst e1; subst e1c
    rw [e3]
    have : cur.toList = rowV n (fun _ => .slice none 0 0) := by
      have hl : cur.toList.length = n * 1 := by simpa using e6
      rw [List.take_of_length_le (by omega)] at e7
      rw [e7]
      unfold rowV
      apply List.ext_getElem
      · simp
      · intro j h1 h2; simp
    rw [← this]
def MadeR (w : World) (n e : Nat) (v : Value) (w' : World) : Prop := ∃ b, v = .slice (some ⟨b, 0, none⟩) n n ∧ w.heap.size ≤ b ∧ w'.heap[b]? = some (.cells (rowV n (fun _ => .slice none 0 0)).toArray e (0, 0))
def MadeS (w : World) (n : Nat) (v : Value) (w' : World) : Prop := ∃ b c, v = .agg #[.slice (some ⟨b, 0, none⟩) n n, .slice (some ⟨c, 0, none⟩) n n] ∧ w.heap.size ≤ b ∧ w.heap.size ≤ c ∧ w'.heap[b]? = some (.cells (rowV n (fun _ => .slice none 0 0)).toArray 152 (0, 0)) ∧ w'.heap[c]? = some (.cells (rowV n (fun _ => .slice none 0 0)).toArray 26 (0, 0))
def MadeB (w : World) (n : Nat) (v : Value) (w' : World) : Prop := ∃ a b c, v = .pointer (some ⟨a, 0, none⟩) ∧ w.heap.size ≤ a ∧ w.heap.size ≤ b ∧ w.heap.size ≤ c ∧ w'.heap[a]? = some (.cells #[.slice (some ⟨b, 0, none⟩) n n, .slice (some ⟨c, 0, none⟩) n n] 154 (0, 0)) ∧ w'.heap[b]? = some (.cells (rowV n (fun _ => .slice none 0 0)).toArray 152 (0, 0)) ∧ w'.heap[c]? = some (.cells (rowV n (fun _ => .slice none 0 0)).toArray 26 (0, 0))
theorem getD_repl (n i : Nat) : (List.replicate n ([] : List Bat)).getD i [] = [] := by
  simp only [List.getD_eq_getElem?_getD]
  by_cases h : i < n
  · simp [h]
  · rw [List.getElem?_eq_none (by simp; omega)]; rfl
theorem getD_repl' (n i : Nat) : (List.replicate n ([] : Bat)).getD i [] = [] := by
  simp only [List.getD_eq_getElem?_getD]
  by_cases h : i < n
  · simp [h]
  · rw [List.getElem?_eq_none (by simp; omega)]; rfl
theorem made_merge {w w' : World} {n : Nat} (h1 : 1 ≤ n) (h4 : n ≤ 4) {a b c : Nat} (h : w.heap.size ≤ a ∧ w.heap.size ≤ b ∧ w.heap.size ≤ c ∧ w'.heap[a]? = some (.cells #[.slice (some ⟨b, 0, none⟩) n n, .slice (some ⟨c, 0, none⟩) n n] 154 (0, 0)) ∧ w'.heap[b]? = some (.cells (rowV n (fun _ => .slice none 0 0)).toArray 152 (0, 0)) ∧ w'.heap[c]? = some (.cells (rowV n (fun _ => .slice none 0 0)).toArray 26 (0, 0))) :
    ∃ S, MergeSt 0 w' S a (List.replicate n []) (List.replicate n []) ∧ ∀ k, S k → w.heap.size ≤ k := by
  obtain ⟨l1, l2, l3, b1, b2, b3⟩ := h
  refine ⟨fun k => k = a ∨ k = b ∨ k = c, ⟨b, c, fun _ => .slice none 0 0, fun _ => .slice none 0 0, by simp; omega, by simpa using h4, by simp, ?_, .inl rfl, .inr (.inl rfl), .inr (.inr rfl), by simpa using b1, by simpa using b2, by simpa using b3, ?_, ?_, fun _ _ _ _ _ => apart_nil _, fun _ _ h => (by cases h), fun _ _ _ _ _ => apart_nil _, Nat.zero_le _⟩, ?_⟩
  · rintro k (rfl | rfl | rfl)
    · exact ⟨_, _, b1, by decide⟩
    · exact ⟨_, _, b2, by decide⟩
    · exact ⟨_, _, b3, by decide⟩
  · intro i _
    rw [getD_repl]
    exact ClsSt.nil _ _ _
  · intro i _
    rw [getD_repl']
    exact BatSt.nil _ _
  · rintro k (rfl | rfl | rfl) <;> assumption
set_option maxRecDepth 100000 in
set_option maxHeartbeats 4000000 in
theorem mnew_ok (n : Nat) (h1 : 1 ≤ n) (h4 : n ≤ 4) (w : World) : Calls Tryz.prog 84 #[.int .i64 n] w fun e w' => ∃ bm S, e = .returned (.tuple #[.pointer (some ⟨bm, 0, none⟩), .int .i64 0]) ∧ MergeSt 0 w' S bm (List.replicate n []) (List.replicate n []) ∧ (∀ k, S k → w.heap.size ≤ k) ∧ Ext w w' := by
  have qa : ¬ ((n : Int) < 1) := by omega
  have qb : ¬ ((n : Int) > 4) := by omega
  go_enter Tryz.func84, Tryz.ntmps84
  go_wp2_with fail
  refine wp_region_ph [.k (.int .i64 n), .p (MadeR w n 152), .k (.int .i64 n), .p (MadeR w n 26), .p (MadeS w n), .p (MadeB w n)] [] (by kernel_rfl) (by kernel_rfl) (by kernel_rfl) rfl rfl ?hs ?hC ?he
  case hC =>
    intro i hi
    simp at hi
  case hs =>
    refine ⟨?_, ?_, ?_, ?_, ?_, ?_, trivial⟩
    all_goals (
      intro x w' hE hd
      try simp [PhDeps, at_k, at_p, at_t, at_any, Region.binds] at hd
      try ((with_reducible refine Exists.elim hd ?_); clear hd; intro y hd; obtain ⟨hd, hG⟩ := hd)
      try (obtain ⟨⟨u1, g1, g2, b1, e1, l1, k1⟩, ⟨u2, g3, g4, b2, e2, l2, k2⟩⟩ := hd; replace k1 := g2.heap k1; replace k2 := g4.heap k2; clear g1 g2 g3 g4)
      try (obtain ⟨u1, g1, g2, b1, b2, e1, l1, l2, k1, k2⟩ := hd; replace k1 := g2.heap k1; replace k2 := g2.heap k2; clear g1 g2)
      try (have hsz := hE.size')
      first | simp only [frL, List.length_cons, List.length_nil, List.take_succ_cons, List.take_zero, Nat.reduceAdd, Nat.zero_add, List.setIfInBounds_toArray, List.set_cons_zero, List.set_cons_succ, hd] | simp only [frL, List.length_cons, List.length_nil, List.take_succ_cons, List.take_zero, Nat.reduceAdd, Nat.zero_add, List.setIfInBounds_toArray, List.set_cons_zero, List.set_cons_succ]
      go_wp2_with (first | (at_make; refine wpList_make_sl rfl _ _ _ 152 rfl Tryz.underlying151 infoEss n rfl rfl (by omega) ?_; intro w2 ho1 hb1 hE1) | (at_make; refine wpList_make_sl rfl _ _ _ 26 rfl Tryz.underlying152 infoEs n rfl rfl (by omega) ?_; intro w2 ho2 hb2 hE2))
      all_goals first
        | ((with_reducible refine phK ?_ ?_); (focus rfl); (repeat (first | (with_reducible assumption) | (with_reducible exact Ext.refl _) | (with_reducible refine Ext.drew ?_) | (with_reducible refine Ext.drewN ?_ _) | (with_reducible refine Ext.alloc ?_ _) | (with_reducible refine Ext.trans ?_ (by with_reducible assumption)))))
        | (exact phN ⟨_, rfl, hsz, hb1⟩ hE hE1)
        | (exact phN ⟨_, rfl, hsz, hb2⟩ hE hE2)
        | (exact phN ⟨_, _, rfl, l1, l2, k1, k2⟩ hE (Ext.refl _))
        | (exact phN ⟨_, _, _, rfl, hsz, l1, l2, heap_alloc_new _ _, ((Ext.refl _).alloc _).heap k1, ((Ext.refl _).alloc _).heap k2⟩ hE ((Ext.refl _).alloc _))
        | ((with_reducible refine phT rfl hG ?_); (repeat (first | (with_reducible assumption) | (with_reducible exact Ext.refl _) | (with_reducible refine Ext.drew ?_) | (with_reducible refine Ext.drewN ?_ _) | (with_reducible refine Ext.alloc ?_ _) | (with_reducible refine Ext.trans ?_ (by with_reducible assumption)))))
        | ((with_reducible refine phU hG ?_); (repeat (first | (with_reducible assumption) | (with_reducible exact Ext.refl _) | (with_reducible refine Ext.drew ?_) | (with_reducible refine Ext.drewN ?_ _) | (with_reducible refine Ext.alloc ?_ _) | (with_reducible refine Ext.trans ?_ (by with_reducible assumption)))))
        | (with_reducible exact phBox hE)
        | (with_reducible exact phRow hE))
  case he =>
    intro x w' hE hd
    simp [PhEnd, at_k, at_p, at_t] at hd
    obtain ⟨e0, -, e2, -, -, u1, g1, g2, a, b, c, e5, hM⟩ := hd
    obtain ⟨l1, l2, l3, b1, b2, b3⟩ := hM
    obtain ⟨S, hS, hl⟩ := made_merge h1 h4 ⟨l1, l2, l3, g2.heap b1, g2.heap b2, g2.heap b3⟩
    simp only [frL, List.length_cons, List.length_nil, List.take_succ_cons, List.take_zero, Nat.reduceAdd, Nat.zero_add, List.setIfInBounds_toArray, List.set_cons_zero, List.set_cons_succ, e0, e2, e5]
    clear e0 e2 e5 b1 b2 b3 g1 g2
    go_wp2
    go_ret2
    exact ⟨_, S, rT2 rfl rfl, hS, hl, hE⟩
end Go.Proofs.YtddghaoejnbkaaaGreatDoor
