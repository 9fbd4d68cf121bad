/- Contracts and lemmas for the proof of TopMoves; each theorem states its own conditions. -/
import Derived.Test.YtnepdfpooobmcaaGreatQTopMovesau
import Derived.Test.YtnepdfpooobmcaaGreatQTopMovesba
import Derived.BigRegion
import Derived.Test.YtnepdfpooobmcaaGreatQTopMovesao
import Derived.Deep.Cut
set_option linter.unusedVariables false
set_option linter.unusedSimpArgs false
/- Contracts and lemmas for the proofs of this seat; each theorem states its own conditions. -/
namespace Go.Proofs.YtnepdfpooobmcaaGreat
open Go.RowKit
/-! make([]int, n), make([]bool, n); stores into such rows -/
theorem made_one (z : Value) (hz : z.cells = #[z]) (n : Nat) : (madeCells z.cells (n * 1)).toList = List.replicate n z := by
  apply List.ext_getElem
  · simp [madeCells]
  · intro i h1 h2
    simp [madeCells, hz, Nat.mod_one]
section
variable (w : World) {ops : Array Oper} {rest : List Oper} {o : Oper} {a : Act} {Q : Exit → Act → World → Prop}
end
end Go.Proofs.YtnepdfpooobmcaaGreat

/- Contracts and lemmas for the proofs of this seat; each theorem states its own conditions. -/
namespace Go.Proofs.YtnepdfpooobmcaaGreat
open Go.RowKit
variable {eB : Nat}
/-! merge.New -/
set_option maxRecDepth 100000 in
theorem wpList_make_sl {w : World} {ops : Array Oper} {rest : List Oper} {o : Oper} {a : Act} {Q : Exit → Act → World → Prop} (hg : o.guard = none) (l c : Operand) (t e : TypeId) (hop : o.op = Op.makeSlice t l c) (ht : Tryz.prog.underlying t = some (.slice e))
    (hinfo : (Tryz.prog.info? e).map (fun i => (i.zero, i.size, i.bytes)) = some (some (.slice none 0 0), 1, 24)) (n : Nat) (hl : a.eval l = .int .i64 n) (hc : a.eval c = .int .i64 n) (hn : n ≤ 1000000)
    (hK : ∀ w', w'.ownsRow w.heap.size e 1 (.slice (some ⟨w.heap.size, 0, none⟩) n n) n (List.replicate n (.slice none 0 0)) → w'.heap[w.heap.size]? = some (.cells (rowV n (fun _ => .slice none 0 0)).toArray e (0, 0)) → Ext w w' → wpList Tryz.prog ops Q rest (a.put o.dst (.slice (some ⟨w.heap.size, 0, none⟩) n n)) w') : wpList Tryz.prog ops Q (o :: rest) a w := by
  obtain ⟨i, i1, i2, i3, i4⟩ := info_parts hinfo
  refine wpList_make_full w hg l c t hop w.heap.size e i (.slice none 0 0) 1 ht i1 i2 i3 .i64 .i64 n n n hl hc rfl rfl (by rw [i4]; omega) (by unfold maxLen; omega) (Nat.le_refl _) fun w' h1 h2 => ?_
  rw [made_one _ rfl] at h1
  refine hK w' h1 ?_ ((Ext.refl w).grown h2 (by simp))
  rcases h1.2 with ⟨e, _⟩ | ⟨g, cap, cur, e1, e2, e3, e4, e5, e6, e7⟩
  · cases e
  · injection e1 with e1 _ e1c
    injection e1 with e1; injection e1 with e1
    subst e1; subst e1c
    rw [e3]
    have : cur.toList = rowV n (fun _ => .slice none 0 0) := by
      have hl : cur.toList.length = n * 1 := by simpa using e6
      rw [List.take_of_length_le (by omega)] at e7
      rw [e7]
      unfold rowV
      apply List.ext_getElem
      · simp
      · intro j h1 h2; simp
    rw [← this]
def MadeR (w : World) (n e : Nat) (v : Value) (w' : World) : Prop := ∃ b, v = .slice (some ⟨b, 0, none⟩) n n ∧ w.heap.size ≤ b ∧ w'.heap[b]? = some (.cells (rowV n (fun _ => .slice none 0 0)).toArray e (0, 0))
def MadeS (w : World) (n : Nat) (v : Value) (w' : World) : Prop := ∃ b c, v = .agg #[.slice (some ⟨b, 0, none⟩) n n, .slice (some ⟨c, 0, none⟩) n n] ∧ w.heap.size ≤ b ∧ w.heap.size ≤ c ∧ w'.heap[b]? = some (.cells (rowV n (fun _ => .slice none 0 0)).toArray 118 (0, 0)) ∧ w'.heap[c]? = some (.cells (rowV n (fun _ => .slice none 0 0)).toArray 63 (0, 0))
def MadeB (w : World) (n : Nat) (v : Value) (w' : World) : Prop := ∃ a b c, v = .pointer (some ⟨a, 0, none⟩) ∧ w.heap.size ≤ a ∧ w.heap.size ≤ b ∧ w.heap.size ≤ c ∧ w'.heap[a]? = some (.cells #[.slice (some ⟨b, 0, none⟩) n n, .slice (some ⟨c, 0, none⟩) n n] 120 (0, 0)) ∧ w'.heap[b]? = some (.cells (rowV n (fun _ => .slice none 0 0)).toArray 118 (0, 0)) ∧ w'.heap[c]? = some (.cells (rowV n (fun _ => .slice none 0 0)).toArray 63 (0, 0))
theorem getD_repl (n i : Nat) : (List.replicate n ([] : List Bat)).getD i [] = [] := by
  simp only [List.getD_eq_getElem?_getD]
  by_cases h : i < n
  · simp [h]
  · rw [List.getElem?_eq_none (by simp; omega)]; rfl
theorem getD_repl' (n i : Nat) : (List.replicate n ([] : Bat)).getD i [] = [] := by
  simp only [List.getD_eq_getElem?_getD]
  by_cases h : i < n
  · simp [h]
  · rw [List.getElem?_eq_none (by simp; omega)]; rfl
theorem made_merge {w w' : World} {n : Nat} (h1 : 1 ≤ n) (h4 : n ≤ 4) {a b c : Nat} (h : w.heap.size ≤ a ∧ w.heap.size ≤ b ∧ w.heap.size ≤ c ∧ w'.heap[a]? = some (.cells #[.slice (some ⟨b, 0, none⟩) n n, .slice (some ⟨c, 0, none⟩) n n] 120 (0, 0)) ∧ w'.heap[b]? = some (.cells (rowV n (fun _ => .slice none 0 0)).toArray 118 (0, 0)) ∧ w'.heap[c]? = some (.cells (rowV n (fun _ => .slice none 0 0)).toArray 63 (0, 0))) :
    ∃ S, MergeSt 0 w' S a (List.replicate n []) (List.replicate n []) ∧ ∀ k, S k → w.heap.size ≤ k := by
  obtain ⟨l1, l2, l3, b1, b2, b3⟩ := h
  refine ⟨fun k => k = a ∨ k = b ∨ k = c, ⟨b, c, fun _ => .slice none 0 0, fun _ => .slice none 0 0, by simp; omega, by simpa using h4, by simp, ?_, .inl rfl, .inr (.inl rfl), .inr (.inr rfl), by simpa using b1, by simpa using b2, by simpa using b3, ?_, ?_, fun _ _ _ _ _ => apart_nil _, fun _ _ h => (by cases h), fun _ _ _ _ _ => apart_nil _, Nat.zero_le _⟩, ?_⟩
  · rintro k (rfl | rfl | rfl)
    · exact ⟨_, _, b1, by decide⟩
    · exact ⟨_, _, b2, by decide⟩
    · exact ⟨_, _, b3, by decide⟩
  · intro i _
    rw [getD_repl]
    exact ClsSt.nil _ _ _
  · intro i _
    rw [getD_repl']
    exact BatSt.nil _ _
  · rintro k (rfl | rfl | rfl) <;> assumption
set_option maxRecDepth 100000 in
set_option maxHeartbeats 4000000 in
theorem mnew_ok (n : Nat) (h1 : 1 ≤ n) (h4 : n ≤ 4) (w : World) : Calls Tryz.prog 53 #[.int .i64 n] w fun e w' => ∃ bm S, e = .returned (.tuple #[.pointer (some ⟨bm, 0, none⟩), .int .i64 0]) ∧ MergeSt 0 w' S bm (List.replicate n []) (List.replicate n []) ∧ (∀ k, S k → w.heap.size ≤ k) ∧ Ext w w' := by
  have qa : ¬ ((n : Int) < 1) := by omega
  have qb : ¬ ((n : Int) > 4) := by omega
  go_enter Tryz.func53, Tryz.ntmps53
  go_wp2_with fail
  refine wp_region_ph [.k (.int .i64 n), .p (MadeR w n 118), .k (.int .i64 n), .p (MadeR w n 63), .p (MadeS w n), .p (MadeB w n)] [] (by kernel_rfl) (by kernel_rfl) (by kernel_rfl) rfl rfl ?hs ?hC ?he
  case hC =>
    intro i hi
    simp at hi
  case hs =>
    refine ⟨?_, ?_, ?_, ?_, ?_, ?_, trivial⟩
    all_goals (
      intro x w' hE hd
      try simp [PhDeps, at_k, at_p, at_t, at_any, Region.binds] at hd
      try ((with_reducible refine Exists.elim hd ?_); clear hd; intro y hd; obtain ⟨hd, hG⟩ := hd)
      try (obtain ⟨⟨u1, g1, g2, b1, e1, l1, k1⟩, ⟨u2, g3, g4, b2, e2, l2, k2⟩⟩ := hd; replace k1 := g2.heap k1; replace k2 := g4.heap k2; clear g1 g2 g3 g4)
      try (obtain ⟨u1, g1, g2, b1, b2, e1, l1, l2, k1, k2⟩ := hd; replace k1 := g2.heap k1; replace k2 := g2.heap k2; clear g1 g2)
      try (have hsz := hE.size')
      first | simp only [frL, List.length_cons, List.length_nil, List.take_succ_cons, List.take_zero, Nat.reduceAdd, Nat.zero_add, List.setIfInBounds_toArray, List.set_cons_zero, List.set_cons_succ, hd] | simp only [frL, List.length_cons, List.length_nil, List.take_succ_cons, List.take_zero, Nat.reduceAdd, Nat.zero_add, List.setIfInBounds_toArray, List.set_cons_zero, List.set_cons_succ]
      go_wp2_with (first | (at_make; refine wpList_make_sl rfl _ _ _ 118 rfl Tryz.underlying117 infoEss n rfl rfl (by omega) ?_; intro w2 ho1 hb1 hE1) | (at_make; refine wpList_make_sl rfl _ _ _ 63 rfl Tryz.underlying118 infoEs n rfl rfl (by omega) ?_; intro w2 ho2 hb2 hE2))
      all_goals first
        | ((with_reducible refine phK ?_ ?_); (focus rfl); (repeat (first | (with_reducible assumption) | (with_reducible exact Ext.refl _) | (with_reducible refine Ext.drew ?_) | (with_reducible refine Ext.drewN ?_ _) | (with_reducible refine Ext.alloc ?_ _) | (with_reducible refine Ext.trans ?_ (by with_reducible assumption)))))
        | (exact phN ⟨_, rfl, hsz, hb1⟩ hE hE1)
        | (exact phN ⟨_, rfl, hsz, hb2⟩ hE hE2)
        | (exact phN ⟨_, _, rfl, l1, l2, k1, k2⟩ hE (Ext.refl _))
        | (exact phN ⟨_, _, _, rfl, hsz, l1, l2, heap_alloc_new _ _, ((Ext.refl _).alloc _).heap k1, ((Ext.refl _).alloc _).heap k2⟩ hE ((Ext.refl _).alloc _))
        | ((with_reducible refine phT rfl hG ?_); (repeat (first | (with_reducible assumption) | (with_reducible exact Ext.refl _) | (with_reducible refine Ext.drew ?_) | (with_reducible refine Ext.drewN ?_ _) | (with_reducible refine Ext.alloc ?_ _) | (with_reducible refine Ext.trans ?_ (by with_reducible assumption)))))
        | ((with_reducible refine phU hG ?_); (repeat (first | (with_reducible assumption) | (with_reducible exact Ext.refl _) | (with_reducible refine Ext.drew ?_) | (with_reducible refine Ext.drewN ?_ _) | (with_reducible refine Ext.alloc ?_ _) | (with_reducible refine Ext.trans ?_ (by with_reducible assumption)))))
        | (with_reducible exact phBox hE)
        | (with_reducible exact phRow hE))
  case he =>
    intro x w' hE hd
    simp [PhEnd, at_k, at_p, at_t] at hd
    obtain ⟨e0, -, e2, -, -, u1, g1, g2, a, b, c, e5, hM⟩ := hd
    obtain ⟨l1, l2, l3, b1, b2, b3⟩ := hM
    obtain ⟨S, hS, hl⟩ := made_merge h1 h4 ⟨l1, l2, l3, g2.heap b1, g2.heap b2, g2.heap b3⟩
    simp only [frL, List.length_cons, List.length_nil, List.take_succ_cons, List.take_zero, Nat.reduceAdd, Nat.zero_add, List.setIfInBounds_toArray, List.set_cons_zero, List.set_cons_succ, e0, e2, e5]
    clear e0 e2 e5 b1 b2 b3 g1 g2
    go_wp2
    go_ret2
    exact ⟨_, S, rT2 rfl rfl, hS, hl, hE⟩
end Go.Proofs.YtnepdfpooobmcaaGreat

/- Contracts and lemmas for the proofs of this seat; each theorem states its own conditions. -/
namespace Go.Proofs.YtnepdfpooobmcaaGreat
open Go.RowKit
variable {eB : Nat}
/-! merge.Log -/
theorem rowTo_more (cl : List (List Bat)) (r i : Nat) : ∀ d, ∃ l, rowTo cl r (i + d) = rowTo cl r i ++ l
  | 0 => ⟨[], by simp⟩
  | d + 1 => by
    obtain ⟨l, h⟩ := rowTo_more cl r i d
    exact ⟨l ++ (cl.getD (i + d) []).getD r [], by rw [← Nat.add_assoc, rowTo, h, List.append_assoc]⟩
theorem log_len {cl : List (List Bat)} {r i : Nat} (hr : r < rdM cl) (hi : i < cl.length) : (logTo cl r).length + (rowTo cl r i).length + ((cl.getD i []).getD r []).length ≤ (logM cl).length := by
  obtain ⟨l, e⟩ := logTo_more cl (r + 1) (rdM cl - (r + 1))
  rw [show r + 1 + (rdM cl - (r + 1)) = rdM cl by omega] at e
  obtain ⟨m, e2⟩ := rowTo_more cl r (i + 1) (cl.length - (i + 1))
  rw [show i + 1 + (cl.length - (i + 1)) = cl.length by omega] at e2
  have e3 : logTo cl (r + 1) = logTo cl r ++ rowTo cl r cl.length := rfl
  have e4 : rowTo cl r (i + 1) = rowTo cl r i ++ (cl.getD i []).getD r [] := rfl
  unfold logM
  rw [e, e3, e2, e4]
  simp only [List.length_append]
  omega
theorem getD_lt {α : Type} {l : List α} {d : α} {r : Nat} (h : r < l.length) : l.getD r d = l[r] := by simp [h]
/-- a log being laid -/
def LogB (B : Nat) (w : World) (X : List Ent) (v : Value) (wr : World) : Prop := ∃ es, EntsSt B wr es X ∧ wr.ownsRow w.heap.size 47 4 v X.length (cEn es) ∧ Ext w wr
def LogR (w : World) (X : List Ent) (v : Value) (wr : World) : Prop := LogB w.heap.size w X v wr
theorem LogB.ext {B : Nat} {w : World} {X : List Ent} {v : Value} {a b : World} (h : LogB B w X v a) (E : Ext a b) : LogB B w X v b := by
  obtain ⟨es, h1, h2, h3⟩ := h
  exact ⟨es, h1.ext E, own_ext h2 E, h3.trans E⟩
theorem LogB.form {B : Nat} {w : World} {X : List Ent} {v : Value} {a : World} (h : LogB B w X v a) : ∃ p c, v = .slice p X.length c := by
  obtain ⟨es, h1, h2, h3⟩ := h
  exact own_form h2
theorem LogB.E {B : Nat} {w : World} {X : List Ent} {v : Value} {a : World} (h : LogB B w X v a) : Ext w a := by
  obtain ⟨es, h1, h2, h3⟩ := h
  exact h3
theorem LogR.ext {w : World} {X : List Ent} {v : Value} {a b : World} (h : LogR w X v a) (E : Ext a b) : LogR w X v b := LogB.ext h E
theorem LogR.form {w : World} {X : List Ent} {v : Value} {a : World} (h : LogR w X v a) : ∃ p c, v = .slice p X.length c := LogB.form h
theorem LogR.E {w : World} {X : List Ent} {v : Value} {a : World} (h : LogR w X v a) : Ext w a := LogB.E h
theorem EntSt.grown {w w' : World} {row : Option Nat} {B n : Nat} {v : Value} {xs : List Value} (hg : w.grownBy w' v.ownBlock) (ho : w.ownsRow B 47 4 v n xs) {e : EV} {x : Ent} (h : EntSt eB w e x) : EntSt eB w' e x :=
  ⟨grown_own hg h.ops (own_own_ne h.ops ho (by decide)), h.im, grown_own hg h.cuts (own_own_ne h.cuts ho (by decide)), grown_own hg h.own (own_own_ne h.own ho (by decide))⟩
/-- the operations of any two lie apart -/
def ApE (es : List EV) : Prop := ∀ (i j : Nat) (e e' : EV), es[i]? = some e → es[j]? = some e' → i < j → ∀ k, e.1.ownBlock = some k → e'.1.ownBlock ≠ some k
theorem ApE.nil : ApE [] := fun i j e e' h => by simp at h
theorem ApE.snoc {es : List EV} {e : EV} (h : ApE es) (hf : ∀ (i : Nat) (e' : EV), es[i]? = some e' → ∀ k, e'.1.ownBlock = some k → e.1.ownBlock ≠ some k) : ApE (es ++ [e]) := by
  intro i j e1 e2 h1 h2 hij k hk
  by_cases hj : j < es.length
  · rw [List.getElem?_append_left (by omega)] at h1
    rw [List.getElem?_append_left hj] at h2
    exact h i j e1 e2 h1 h2 hij k hk
  · rw [List.getElem?_append_right (by omega)] at h2
    have : j - es.length = 0 := by
      rcases Nat.eq_zero_or_pos (j - es.length) with q | q
      · exact q
      · rw [List.getElem?_eq_none (by simp; omega)] at h2; cases h2
    rw [this] at h2
    simp only [List.getElem?_cons_zero, Option.some.injEq] at h2
    subst h2
    rw [List.getElem?_append_left (by omega)] at h1
    exact hf i e1 h1 k hk
/-- a log whose entries' operations lie apart -/
def LogRA (w : World) (X : List Ent) (v : Value) (wr : World) : Prop := ∃ es, EntsSt w.heap.size wr es X ∧ wr.ownsRow w.heap.size 47 4 v X.length (cEn es) ∧ Ext w wr ∧ ApE es
theorem LogRA.toR {w : World} {X : List Ent} {v : Value} {wr : World} (h : LogRA w X v wr) : LogR w X v wr := by
  obtain ⟨es, h1, h2, h3, _⟩ := h
  exact ⟨es, h1, h2, h3⟩
theorem LogRA.ext {w : World} {X : List Ent} {v : Value} {a b : World} (h : LogRA w X v a) (E : Ext a b) : LogRA w X v b := by
  obtain ⟨es, h1, h2, h3, h4⟩ := h
  exact ⟨es, h1.ext E, own_ext h2 E, h3.trans E, h4⟩
theorem LogRA.form {w : World} {X : List Ent} {v : Value} {a : World} (h : LogRA w X v a) : ∃ p c, v = .slice p X.length c := h.toR.form
theorem LogRA.E {w : World} {X : List Ent} {v : Value} {a : World} (h : LogRA w X v a) : Ext w a := h.toR.E
theorem log_stepA {w w1 w2 : World} {X : List Ent} {es : List EV} {v v' : Value} {e : EV} {x : Ent} (h1 : EntsSt w.heap.size w1 es X) (h2 : w1.ownsRow w.heap.size 47 4 v X.length (cEn es)) (h3 : Ext w w1) (he : EntSt w.heap.size w1 e x)
    (ho : w2.ownsRow w.heap.size 47 4 v' (X.length + 1) (cEn es ++ evC e)) (hg : w1.grownBy w2 v.ownBlock) (ap : ApE (es ++ [e])) : LogRA w (X ++ [x]) v' w2 := by
  refine ⟨es ++ [e], EntsSt.snoc ⟨h1.1, fun j e' x' a b => (h1.2 j e' x' a b).grown (row := none) hg h2⟩ (he.grown (row := none) hg h2), ?_, h3.grown hg (fun k hk => own_ge h2 k hk), ap⟩
  rw [cEn_app, List.length_append]
  simpa [cEn] using ho
set_option maxRecDepth 100000 in
set_option maxHeartbeats 4000000 in
theorem mlog_okA {w : World} {S : Nat → Prop} {bm : Nat} {cl : List (List Bat)} {op : List Bat} (h : MergeSt eB w S bm cl op) (hsm : ∀ l ∈ cl, ∀ b ∈ l, ∀ x ∈ b, EntSm x) (hlen : (logM cl).length ≤ 100000) (hcl : ∀ i, i < cl.length → (cl.getD i []).length ≤ 1000000) :
    Calls Tryz.prog 60 #[.pointer (some ⟨bm, 0, none⟩)] w fun e w' => ∃ v', e = .returned v' ∧ LogRA w (logM cl) v' w' := by
  have MR := hid (mrounds_ok h)
  obtain ⟨bc, bo, vc, vo, h⟩ := h
  have H := hid h
  have n0 := h.n0
  have n4 := h.n4
  have cb := h.cells.1
  clear h
  have hR : rdM cl ≤ 1000000 := by
    have := rdM_le (cl := cl) (i := 0) n0
    have := hcl 0 n0
    omega
  have HL := hid (fun r i (hr : r < rdM cl) (hi : i < cl.length) => Nat.le_trans (log_len hr hi) hlen)
  have HRL := hid (fun i (hi : i < cl.length) => rdM_le hi)
  have HC := hid hcl
  have HSM := hid hsm
  have HEND := hid (show logTo cl (rdM cl) = logM cl from rfl)
  clear hlen hcl hsm
  obtain ⟨R, hRR⟩ : ∃ R, rdM cl = R := ⟨_, rfl⟩
  rw [hRR] at MR hR HL HRL HEND
  clear hRR
  go_enter Tryz.func60, Tryz.ntmps60
  go_wp2_with fail
  refine (MR.out).mono ?_
  rintro e w1 ⟨rfl, E1⟩
  clear MR
  go_wp2_with fail
  go_loopw [3, 4, 5, 7, 10, 18, 32] (fun ov _ _ _ rv _ _ wr => ∃ r : Nat, r ≤ R ∧ rv = .int .i64 r ∧ LogRA w (logTo cl r) ov wr) (fun _ _ _ _ rv _ _ _ => R - (intOf rv).toNat)
  case atStart => exact ⟨0, Nat.zero_le _, rfl, [], EntsSt.nil _, World.ownsRow_nil _ _ _ _, E1, ApE.nil⟩
  case round =>
    obtain ⟨wq, rfl⟩ : ∃ wq : World, wq = wr := ⟨_, rfl⟩
    obtain ⟨r, hr, rfl, hlog⟩ := hrel
    by_cases hrl : r < R
    · have cbq := hlog.E.cell cb
      go_wp2_with fail
      go_loopw [3, 5, 7, 18, 32] (fun ov _ _ iv _ wr => ∃ i : Nat, i ≤ cl.length ∧ iv = .int .i64 i ∧ LogRA w (logTo cl r ++ rowTo cl r i) ov wr) (fun _ _ _ iv _ _ => cl.length - (intOf iv).toNat)
      case atStart => exact ⟨0, Nat.zero_le _, rfl, by rw [show rowTo cl r 0 = [] from rfl, List.append_nil]; exact hlog⟩
      case round =>
        clear hlog cbq
        obtain ⟨wz, rfl⟩ : ∃ wz : World, wz = wr := ⟨_, rfl⟩
        obtain ⟨i, hi, rfl, hlog⟩ := hrel
        by_cases hil : i < cl.length
        · have Ez := hlog.E
          have cbz := Ez.cell cb
          have ci := Ez.cell (H.out.cellC hil).1
          obtain ⟨us, hus, hown, _, hbs⟩ := H.out.cls i hil
          have hrL := HRL.out i hil
          have hcL := HC.out i hil
          obtain ⟨ai, ki, e1⟩ := own_form hown
          rw [e1] at ci hown
          obtain ⟨bu, offu, rfl, _, q1, q2, hcu⟩ := seg_cells (own_seg hown) (by omega)
          unfold maxLen at q2
          have cu := Ez.cell (hcu r us[r] (List.getElem?_eq_getElem (by omega)))
          obtain ⟨⟨fs, hfs, hbo, hx1⟩, hx2⟩ := hbs r us[r] _ (List.getElem?_eq_getElem (by omega)) (List.getElem?_eq_getElem (show r < (cl.getD i []).length by omega))
          have hsmb := HSM.out (cl.getD i []) (by simp [hil]) _ (List.getElem_mem (show r < (cl.getD i []).length by omega))
          have hgr : (cl.getD i []).getD r [] = (cl.getD i [])[r]'(by omega) := getD_lt (by omega)
          have hll := HL.out r i hrl hil
          have HST := hid (show rowTo cl r (i + 1) = rowTo cl r i ++ (cl.getD i []).getD r [] from rfl)
          rw [hgr] at HST hll
          generalize (cl.getD i [])[r]'(by omega) = b at hfs hbo hsmb hll HST
          obtain ⟨ab, kb, e3⟩ := own_form hbo
          rw [e3] at cu hbo
          obtain ⟨N, hN⟩ : ∃ N, (cl.getD i []).length = N := ⟨_, rfl⟩
          rw [hN] at ci q1 hrL hcL
          have HFS := hid hfs
          have HSB := hid hsmb
          have HST2 : Hid (logTo cl r ++ rowTo cl r (i + 1) = logTo cl r ++ rowTo cl r i ++ b) := hid (by rw [HST.out, List.append_assoc])
          have hXl : (logTo cl r ++ rowTo cl r i).length + b.length ≤ 100000 := by rw [List.length_append]; omega
          generalize logTo cl r ++ rowTo cl r i = X at hlog HST2 hXl
          clear hx1 hx2 hgr hll HST e1 e3 hcu hbs hN hus hown hfs hsmb
          go_wp2_with fail
          go_loopw [3, 7, 32] (fun ov _ jv wr => ∃ j : Nat, j ≤ b.length ∧ jv = .int .i64 j ∧ LogRA w (X ++ b.take j) ov wr) (fun _ _ jv _ => b.length - (intOf jv).toNat)
          case atStart => exact ⟨0, Nat.zero_le _, rfl, by rw [List.take_zero, List.append_nil]; exact hlog⟩
          case round =>
            clear hlog
            obtain ⟨j, hj, rfl, hlog⟩ := hrel
            by_cases hjl : j < b.length
            · have Ej := hlog.E
              obtain ⟨bb, ob, rfl, _, p1, p2, hcb⟩ := seg_cells (own_seg hbo) (by omega)
              unfold maxLen at p2
              have hfl := HFS.out.1
              have hjf : j < fs.length := by omega
              obtain ⟨x0, x1, x2, x3⟩ := cEn_at fs hjf
              replace x0 := Ej.cell (hcb _ _ x0)
              replace x1 : wr.cell? ⟨bb, ob + j * 4 + 1, none⟩ = _ := Ej.cell (hcb _ _ x1)
              replace x2 : wr.cell? ⟨bb, ob + j * 4 + 2, none⟩ = _ := Ej.cell (hcb _ _ x2)
              replace x3 : wr.cell? ⟨bb, ob + j * 4 + 3, none⟩ = _ := Ej.cell (hcb _ _ x3)
              have hE := (HFS.out.2 j fs[j] b[j] (List.getElem?_eq_getElem hjf) (List.getElem?_eq_getElem hjl))
              have hsb := HSB.out b[j] (List.getElem_mem hjl)
              have HT := hid (show X ++ b.take (j + 1) = (X ++ b.take j) ++ [b[j]] by rw [List.take_succ_eq_append_getElem hjl, List.append_assoc])
              have hXj : (X ++ b.take j).length ≤ 100000 := by rw [List.length_append, List.length_take]; omega
              generalize b[j] = xj at hE hsb HT
              generalize X ++ b.take j = Y at hlog HT hXj
              generalize fs[j] = ej at x0 x1 x2 x3 hE
              obtain ⟨v1, b1, v2, v3⟩ := ej
              dsimp only at x0 x1 x2 x3
              obtain ⟨f1, g1, e1⟩ := own_form hE.ops
              obtain ⟨f2, g2, e2⟩ := own_form hE.cuts
              obtain ⟨f3, g3, e3⟩ := own_form hE.own
              dsimp only at e1 e2 e3
              subst e1; subst e2; subst e3
              have EC := hid (fun w' (E : Ext w w') => ecopied_fresh (eB := w.heap.size) _ _ w' (hE.seg.ext E) hsb E.size')
              have HE := hid hE
              have HLG := hid hlog
              obtain ⟨av, kv, rfl⟩ := hlog.form
              clear hE hsb hcb hfl hlog
              go_wp2_with fail
              refine (EC.out _ ((HLG.out.E.alloc _))).mono ?_
              rintro e w4 ⟨⟨v1, b1', v2, v3⟩, rfl, he4, E4, fr4⟩
              obtain ⟨es, m1, m2, m3, m4⟩ := HLG.out
              have EE4 := ((Ext.refl wr).alloc (.cells #[.slice f1 xj.ops.length g1, .bool b1, .slice f2 xj.cuts.length g2, .slice f3 xj.own.length g3] 47)).trans E4
              have k1 := m1.ext EE4
              have k2 := own_ext m2 EE4
              have k3 := m3.trans EE4
              have HAP := hid (ApE.snoc m4 (fun i e' hi k hk => by
                have hil : i < es.length := by
                  rcases Nat.lt_or_ge i es.length with q | q
                  · exact q
                  · rw [List.getElem?_eq_none q] at hi; cases hi
                have := ((m1.2 i e' _ hi (List.getElem?_eq_getElem (by have := m1.1; omega))).ops.lt k hk).2
                intro hk2
                have := fr4 k hk2
                simp only [World.size_alloc] at this
                omega))
              have HE4 := hid he4
              obtain ⟨f4, g4, e4⟩ := own_form he4.ops
              obtain ⟨f5, g5, e5⟩ := own_form he4.cuts
              obtain ⟨f6, g6, e6⟩ := own_form he4.own
              dsimp only at e4 e5 e6
              subst e4; subst e5; subst e6
              have K := hid k1
              have p1' : Seg (w4.alloc (.cells #[.slice f4 xj.ops.length g4, .bool b1', .slice f5 xj.cuts.length g5, .slice f6 xj.own.length g6] 47)) (.slice (some ⟨w4.heap.size, 0, none⟩) 1 1) 4 1 (evC (.slice f4 xj.ops.length g4, b1', .slice f5 xj.cuts.length g5, .slice f6 xj.own.length g6)) := seg_blk (heap_alloc_new w4 _) rfl (Nat.le_refl _) (by simp [maxLen])
              have p2' := k2.alloc (.cells #[.slice f4 xj.ops.length g4, .bool b1', .slice f5 xj.cuts.length g5, .slice f6 xj.own.length g6] 47)
              have p3' : w.heap.size ≤ (w4.alloc (.cells #[.slice f4 xj.ops.length g4, .bool b1', .slice f5 xj.cuts.length g5, .slice f6 xj.own.length g6] 47)).heap.size := by have := k3.size'; simp; omega
              have hone := HE4.out.one
              have K3 := hid k3
              clear k1 k3 he4 E4 k2 m1 m2 m3 m4 EE4 fr4
              simp only [evV]
              go_wp2_with (first | (at_builtin; refine (wpList_app rfl _ _ 63 rfl w.heap.size 47 (.agg #[.slice none 0 0, .bool false, .slice none 0 0, .slice none 0 0]) 4 80 Tryz.underlying63 infoEn rfl (by decide) _ Y.length (cEn es) rfl p2' _ 1 _ rfl p1' hone (by omega) (by unfold maxLen; omega) p3' ?_); intro v' w9 ho' hg))
              have HN := hid (log_stepA (K.out.ext ((Ext.refl w4).alloc _)) p2' (K3.out.alloc _) (HE4.out.ext ((Ext.refl w4).alloc _)) ho' hg HAP.out)
              go_roundw
              case rel => exact ⟨j + 1, by omega, by go_num, by rw [HT.out]; exact HN.out⟩
              case measure => simp [intOf] <;> omega
            · obtain rfl : j = b.length := by omega
              rw [List.take_of_length_le (Nat.le_refl _), ← HST2.out] at hlog
              go_wp2
              go_roundw
              case rel => exact ⟨i + 1, by omega, by go_num, hlog⟩
              case measure => simp [intOf] <;> omega
        · obtain rfl : i = cl.length := by omega
          rw [show logTo cl r ++ rowTo cl r cl.length = logTo cl (r + 1) from rfl] at hlog
          go_wp2
          go_roundw
          case rel => exact ⟨r + 1, by omega, by go_num, hlog⟩
          case measure => simp [intOf] <;> omega
    · obtain rfl : r = R := by omega
      rw [HEND.out] at hlog
      go_wp2
      go_ret
      exact ⟨_, rfl, hlog⟩

theorem mlog_ok {w : World} {S : Nat → Prop} {bm : Nat} {cl : List (List Bat)} {op : List Bat} (h : MergeSt eB w S bm cl op) (hsm : ∀ l ∈ cl, ∀ b ∈ l, ∀ x ∈ b, EntSm x) (hlen : (logM cl).length ≤ 100000) (hcl : ∀ i, i < cl.length → (cl.getD i []).length ≤ 1000000) :
    Calls Tryz.prog 60 #[.pointer (some ⟨bm, 0, none⟩)] w fun e w' => ∃ v', e = .returned v' ∧ LogR w (logM cl) v' w' :=
  (mlog_okA h hsm hlen hcl).mono fun e w' ⟨v', h1, h2⟩ => ⟨v', h1, h2.toR⟩
end Go.Proofs.YtnepdfpooobmcaaGreat

/- Contracts and lemmas for the proofs of this seat; each theorem states its own conditions. -/
namespace Go.Proofs.YtnepdfpooobmcaaGreat
open Go.RowKit
end Go.Proofs.YtnepdfpooobmcaaGreat
