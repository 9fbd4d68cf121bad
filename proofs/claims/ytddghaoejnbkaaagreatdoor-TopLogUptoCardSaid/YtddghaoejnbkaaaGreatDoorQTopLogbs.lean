/- Contracts and lemmas for the proof of TopLog; each theorem states its own conditions. -/
import Derived.Test.YtddghaoejnbkaaaGreatDoorQTopLogbo
import Derived.Test.YtddghaoejnbkaaaGreatDoorQTopLogay
set_option linter.unusedVariables false
set_option linter.unusedSimpArgs false
/- Contracts and lemmas for the proofs of this seat; each theorem states its own conditions. -/
namespace Go.Proofs.YtddghaoejnbkaaaGreatDoor
open Go.RowKit
/-! copies: New -/
set_option maxRecDepth 100000 in
theorem wpList_make_z {w : World} {ops : Array Oper} {rest : List Oper} {o : Oper} {a : Act} {Q : Exit → Act → World → Prop} (hg : o.guard = none) (l c : Operand) (t : TypeId) (hop : o.op = Op.makeSlice t l c) (ht : Tryz.prog.underlying t = some (.slice 3))
    (n : Nat) (hl : a.eval l = .int .i64 n) (hc : a.eval c = .int .i64 n) (hn : n ≤ 1000000)
    (hK : ∀ w', w'.heap[w.heap.size]? = some (.cells (rowV n (fun _ => .int .i64 0)).toArray 3 (0, 0)) → Ext w w' → wpList Tryz.prog ops Q rest (a.put o.dst (.slice (some ⟨w.heap.size, 0, none⟩) n n)) w') : wpList Tryz.prog ops Q (o :: rest) a w := by
  obtain ⟨i, i1, i2, i3, i4⟩ := info_parts infoI
  refine wpList_make_full w hg l c t hop w.heap.size 3 i (.int .i64 0) 1 ht i1 i2 i3 .i64 .i64 n n n hl hc rfl rfl (by rw [i4]; omega) (by unfold maxLen; omega) (Nat.le_refl _) fun w' h1 h2 => ?_
  rw [made_one _ rfl] at h1
  refine hK w' ?_ ((Ext.refl w).grown h2 (by simp))
  rcases h1.2 with ⟨e, _⟩ | ⟨g, cap, cur, e1, e2, e3, e4, e5, e6, e7⟩
  · cases e
  · injection e1 with e1 _ e1c
    injection e1 with e1; injection e1 with e1
    subst e1; subst e1c
    rw [e3]
    have : cur.toList = rowV n (fun _ => .int .i64 0) := by
      have hl : cur.toList.length = n * 1 := by simpa using e6
      rw [List.take_of_length_le (by omega)] at e7
      rw [e7]
      unfold rowV
      apply List.ext_getElem
      · simp
      · intro j h1 h2; simp
    rw [← this]
/-- copies being made: k of n are there -/
structure NewI (w wr : World) (S : Nat → Prop) (b bm bd bo inp n k : Nat) (lv : Value) (bt : Nat → Nat) (vc vs : Nat → Value) (pv : Nat → Nat → Value) (C : List ByteArray) (O : List Int) (P : Prs) : Prop where
  box : wr.heap[b]? = some (.cells #[.pointer (some ⟨bm, 0, none⟩), lv, .slice (some ⟨bd, 0, none⟩) n n, .slice (some ⟨bo, 0, none⟩) n n] 50 (0, 0))
  mer : MergeSt 0 wr S bm (List.replicate inp []) (List.replicate inp [])
  lrow : wr.ownsRow w.heap.size 105 1 lv k (rowV k fun i => .pointer (some ⟨bt i, 0, none⟩))
  drow : wr.heap[bd]? = some (.cells (rowV n (fun _ => .int .i64 0)).toArray 3 (0, 0))
  orow : wr.heap[bo]? = some (.cells (rowV n (fun _ => .slice none 0 0)).toArray 83 (0, 0))
  parts : ∀ i, i < k → PartsSt wr (bt i) C O (parP C O P) (vc i) (vs i) (pv i)
  far : ∀ i, i < k → (vs i).ownBlock ≠ some bd
  btz : ∀ i j, i < k → j < k → i ≠ j → bt i ≠ bt j
  btl : ∀ i, i < k → w.heap.size ≤ bt i
  vl : ∀ i, i < k → ∀ q, (vs i).ownBlock = some q → w.heap.size ≤ q
  sz : ∀ q, S q → w.heap.size ≤ q
  bl : w.heap.size ≤ b
  dl : w.heap.size ≤ bd
  ol : w.heap.size ≤ bo
  E : Ext w wr
theorem NewI.ext {w wr w' : World} {S : Nat → Prop} {b bm bd bo inp n k : Nat} {lv : Value} {bt : Nat → Nat} {vc vs : Nat → Value} {pv : Nat → Nat → Value} {C : List ByteArray} {O : List Int} {P : Prs} (h : NewI w wr S b bm bd bo inp n k lv bt vc vs pv C O P) (E : Ext wr w') : NewI w w' S b bm bd bo inp n k lv bt vc vs pv C O P :=
  { h with box := E.heap h.box, mer := h.mer.ext E, lrow := own_ext h.lrow E, drow := E.heap h.drow, orow := E.heap h.orow, parts := fun i hi => (h.parts i hi).ext E, E := h.E.trans E }
/-- one more -/
theorem NewI.step {w wr w' : World} {S : Nat → Prop} {b bm bd bo inp n k : Nat} {lv : Value} {bt : Nat → Nat} {vc vs : Nat → Value} {pv : Nat → Nat → Value} {C : List ByteArray} {O : List Int} {P : Prs} (h : NewI w wr S b bm bd bo inp n k lv bt vc vs pv C O P)
    {p : Nat} {c s : Value} {q : Nat → Value} (hp : PartsSt wr p C O (parP C O P) c s q) (hs : s.ownBlock ≠ some bd) (hsl : ∀ q, s.ownBlock = some q → w.heap.size ≤ q) (hpl : w.heap.size ≤ p) (hpn : ∀ i, i < k → bt i ≠ p) {v : Value} (hown : w'.ownsRow w.heap.size 105 1 v (k + 1) ((rowV k fun i => .pointer (some ⟨bt i, 0, none⟩)) ++ [.pointer (some ⟨p, 0, none⟩)])) (hg : wr.grownBy w' lv.ownBlock) :
    NewI w (w'.setCell ⟨b, 1, none⟩ v) S b bm bd bo inp n (k + 1) v (fun i => if i = k then p else bt i) (fun i => if i = k then c else vc i) (fun i => if i = k then s else vs i) (fun i => if i = k then q else pv i) C O P := by
  have ho := h.lrow
  have keep : ∀ {B e sz n : Nat} {u : Value} {xs : List Value}, wr.ownsRow B e sz u n xs → e ≠ 105 → w'.ownsRow B e sz u n xs := fun q hne => grown_own hg q (own_own_ne q ho hne)
  have heapk : ∀ {k : Nat} {cs : Array Value} {t : TypeId} {fr : Nat × Nat}, wr.heap[k]? = some (.cells cs t fr) → 105 ≠ t → w'.heap[k]? = some (.cells cs t fr) := fun q hne => grown_heap hg q (own_ne ho q hne)
  have hb := heapk h.box (by decide)
  have hst := grown_set w' b 1 v
  have mer1 : MergeSt 0 w' S bm (List.replicate inp []) (List.replicate inp []) := by
    rcases hq : lv.ownBlock with _ | g
    · rw [hq] at hg; exact h.mer.ext (ext_of_grown hg)
    · obtain ⟨cur, hc⟩ := own_some ho hq
      rw [hq] at hg
      exact h.mer.far hc (by decide) (.inl (by decide)) hg
  have pk : ∀ {t : Nat} {c s : Value} {q : Nat → Value}, PartsSt wr t C O (parP C O P) c s q → PartsSt (w'.setCell ⟨b, 1, none⟩ v) t C O (parP C O P) c s q := fun p => by
    have p1 : PartsSt w' _ C O (parP C O P) _ _ _ := ⟨heapk p.box (by decide), keep p.cuts (by decide), keep p.owners (by decide), fun q hq => keep (p.rows q hq) (by decide)⟩
    exact p1.far hb (fun e => by have a := p1.box; rw [← e, hb] at a; injection a with a; injection a with _ a; exact absurd a (by decide)) (by decide) (by decide) (.inl (by decide)) hst
  have nd : bd ≠ b := fun e => by have a := h.drow; rw [e, h.box] at a; injection a with a; injection a with _ a; exact absurd a (by decide)
  have no : bo ≠ b := fun e => by have a := h.orow; rw [e, h.box] at a; injection a with a; injection a with _ a; exact absurd a (by decide)
  refine ⟨by simp [World.setCell, Array.getElem?_modify, hb], mer1.far hb (by decide) (.inl (by decide)) hst, ?_, heap_set_far (heapk h.drow (by decide)) nd, heap_set_far (heapk h.orow (by decide)) no, fun i hi => ?_, fun i hi => ?_, fun i j hi hj hne => ?_, fun i hi => ?_, fun i hi => ?_, h.sz, h.bl, h.dl, h.ol, (h.E.grown hg (fun k hk => own_ge ho k hk)).setCell h.bl v⟩
  · have e : (rowV k fun i => Value.pointer (some ⟨bt i, 0, none⟩)) ++ [.pointer (some ⟨p, 0, none⟩)] = rowV (k + 1) fun i => .pointer (some ⟨(if i = k then p else bt i), 0, none⟩) := by
      unfold rowV
      rw [List.range_succ, List.map_append]
      congr 1
      · refine List.map_congr_left fun i hi => ?_
        have := List.mem_range.1 hi
        rw [if_neg (by omega)]
      · simp
    rw [e] at hown
    exact own_set_other hown (own_ne hown hb (by decide)) v
  · by_cases e : i = k
    · subst e; simp only [if_pos]; exact pk hp
    · simp only [if_neg e]; exact pk (h.parts i (by omega))
  · try dsimp only
    by_cases e : i = k
    · rw [if_pos e]; exact hs
    · rw [if_neg e]; exact h.far i (by omega)
  · try dsimp only
    by_cases e : i = k
    · rw [if_pos e, if_neg (by omega)]; exact fun q => hpn j (by omega) q.symm
    · rw [if_neg e]
      by_cases e' : j = k
      · rw [if_pos e']; exact hpn i (by omega)
      · rw [if_neg e']; exact h.btz i j (by omega) (by omega) hne
  · try dsimp only
    by_cases e : i = k
    · rw [if_pos e]; exact hpl
    · rw [if_neg e]; exact h.btl i (by omega)
  · try dsimp only
    by_cases e : i = k
    · rw [if_pos e]; exact hsl
    · rw [if_neg e]; exact h.vl i (by omega)
theorem rep_at (n i : Nat) (c : Cop) (hi : i < n) : (List.replicate n c).getD i copZ = c := by simp [hi]
/-- copies that are new: nothing lies in their zone that was there before -/
def CopN (w wr : World) (F : Nat → Prop) (b inp n : Nat) (c : Cop) : Prop := ∃ A, CopG wr F b A (List.replicate inp []) (List.replicate inp []) (List.replicate n c) ∧ (∀ q, q < w.heap.size → A.Z q) ∧ w.heap.size ≤ A.eB
theorem CopN.ext {w wr w' : World} {F : Nat → Prop} {b inp n : Nat} {c : Cop} (h : CopN w wr F b inp n c) (E : Ext wr w') : CopN w w' F b inp n c := by
  obtain ⟨A, h, z⟩ := h
  exact ⟨A, h.ext E, z⟩
theorem CopN.st {w wr : World} {F : Nat → Prop} {b inp n : Nat} {c : Cop} (h : CopN w wr F b inp n c) : CopSt wr F b (List.replicate inp []) (List.replicate inp []) (List.replicate n c) := by
  obtain ⟨A, h, _⟩ := h
  exact ⟨A, h⟩
/-- all of them -/
theorem NewI.all {w wr : World} {S : Nat → Prop} {b bm bd bo inp n : Nat} {lv : Value} {bt : Nat → Nat} {vc vs : Nat → Value} {pv : Nat → Nat → Value} {C : List ByteArray} {O : List Int} {P : Prs} (h : NewI w wr S b bm bd bo inp n n lv bt vc vs pv C O P) (h0 : 0 < n) (h4 : n ≤ 4) :
    ∃ F, CopN w wr F b inp n ⟨C, O, P, 0, []⟩ ∧ ∀ q, F q → w.heap.size ≤ q := by
  have lbd := (Array.getElem?_eq_some_iff.1 h.drow).1
  have len : (List.replicate n (⟨C, O, P, 0, []⟩ : Cop)).length = n := List.length_replicate
  refine ⟨fun q => S q ∨ q = b ∨ q = bd ∨ q = bo ∨ lv.ownBlock = some q ∨ ∃ i, i < n ∧ q = bt i, ⟨⟨bm, bd, bo, lv, fun _ => .slice none 0 0, bt, vc, vs, pv, S, wr.heap.size, fun k => k = bd ∨ k < w.heap.size⟩, ⟨⟨by rw [len]; exact h0, by rw [len]; exact h4, by rw [len]; exact h.box, h.mer.rebase (Nat.le_refl _), by rw [len]; exact own_base h.lrow (Nat.zero_le _), ?_, by rw [len]; exact h.orow, ?_, ?_, (by rw [len]; exact fun i hi k hk hz => hz.elim (fun q => h.far i hi (by rw [hk, q])) (fun q => by have := h.vl i hi k hk; omega)), fun i j _ _ _ => apart_nil _, by rw [len]; exact h.btz, .inl rfl, fun k hz => hz.elim (fun q => by rw [q]; exact lbd) (fun q => Nat.lt_of_lt_of_le q h.E.size'), lbd, ?_, ?_, .inr (.inl rfl), .inr (.inr (.inl rfl)), .inr (.inr (.inr (.inl rfl))), fun q hq => .inr (.inr (.inr (.inr (.inl hq)))), by rw [len]; exact fun i hi => .inr (.inr (.inr (.inr (.inr ⟨i, hi, rfl⟩)))), fun i _ q hq => (by cases hq)⟩, fun q hq => .inl hq⟩, fun q hq => .inr hq, h.E.size'⟩, ?_⟩
  · have e : dnsC (List.replicate n (⟨C, O, P, 0, []⟩ : Cop)) = rowV n (fun _ => .int .i64 0) := by
      unfold dnsC
      rw [len]
      refine rowV_congr fun i hi => ?_
      rw [rep_at n i _ hi]; rfl
    rw [e]; exact h.drow
  · rw [len]
    intro i hi
    rw [rep_at n i _ hi]
    exact h.parts i hi
  · rw [len]
    intro i hi
    rw [rep_at n i _ hi]
    exact World.ownsRow_nil _ _ _ _
  · intro q cs fr hq hc
    rcases hq with a | a | a | a | a | ⟨i, hi, a⟩
    · obtain ⟨cs', t', hc', hx⟩ := h.mer.ty q a
      rw [hc'] at hc
      injection hc with hc; injection hc with _ h4
      rw [h4] at hx
      exact absurd hx (by decide)
    · subst a; rw [h.box] at hc; injection hc with hc; injection hc with _ h4; exact absurd h4 (by decide)
    · exact a
    · subst a; rw [h.orow] at hc; injection hc with hc; injection hc with _ h4; exact absurd h4 (by decide)
    · obtain ⟨cur, hc'⟩ := own_some h.lrow a
      rw [hc'] at hc; injection hc with hc; injection hc with _ h4; exact absurd h4 (by decide)
    · subst a; rw [(h.parts i hi).box] at hc; injection hc with hc; injection hc with _ h4; exact absurd h4 (by decide)
  · intro q hq
    rcases hq with a | a | a | a | a | ⟨i, hi, a⟩
    · obtain ⟨cs, t, hc, hm⟩ := h.mer.ty q a
      exact ⟨cs, t, hc, List.mem_append.2 (.inl hm)⟩
    · subst a; exact ⟨_, _, h.box, by decide⟩
    · subst a; exact ⟨_, _, h.drow, by decide⟩
    · subst a; exact ⟨_, _, h.orow, by decide⟩
    · obtain ⟨cur, hc⟩ := own_some h.lrow a
      exact ⟨cur, _, hc, by decide⟩
    · subst a; exact ⟨_, _, (h.parts i hi).box, by decide⟩
  · intro q hq
    rcases hq with a | a | a | a | a | ⟨i, hi, a⟩
    · exact h.sz q a
    · subst a; exact h.bl
    · subst a; exact h.dl
    · subst a; exact h.ol
    · exact own_ge h.lrow q a
    · subst a; exact h.btl i hi
def MadeZ (w : World) (n : Nat) (v : Value) (w' : World) : Prop := ∃ b, v = .slice (some ⟨b, 0, none⟩) n n ∧ w.heap.size ≤ b ∧ w'.heap[b]? = some (.cells (rowV n (fun _ => .int .i64 0)).toArray 3 (0, 0))
def MadeC (w : World) (n bm : Nat) (v : Value) (w' : World) : Prop := ∃ bd bo, v = .agg #[.pointer (some ⟨bm, 0, none⟩), .slice none 0 0, .slice (some ⟨bd, 0, none⟩) n n, .slice (some ⟨bo, 0, none⟩) n n] ∧ w.heap.size ≤ bd ∧ w.heap.size ≤ bo ∧ w'.heap[bd]? = some (.cells (rowV n (fun _ => .int .i64 0)).toArray 3 (0, 0)) ∧ w'.heap[bo]? = some (.cells (rowV n (fun _ => .slice none 0 0)).toArray 83 (0, 0))
def MadeD (w : World) (n bm : Nat) (v : Value) (w' : World) : Prop := ∃ b bd bo, v = .pointer (some ⟨b, 0, none⟩) ∧ w.heap.size ≤ b ∧ w.heap.size ≤ bd ∧ w.heap.size ≤ bo ∧ w'.heap[b]? = some (.cells #[.pointer (some ⟨bm, 0, none⟩), .slice none 0 0, .slice (some ⟨bd, 0, none⟩) n n, .slice (some ⟨bo, 0, none⟩) n n] 50 (0, 0)) ∧ w'.heap[bd]? = some (.cells (rowV n (fun _ => .int .i64 0)).toArray 3 (0, 0)) ∧ w'.heap[bo]? = some (.cells (rowV n (fun _ => .slice none 0 0)).toArray 83 (0, 0))
theorem infoBs : (Tryz.prog.info? 83).map (fun i => (i.zero, i.size, i.bytes)) = some (some (.slice none 0 0), 1, 24) := by kernel_rfl
theorem infoPp : (Tryz.prog.info? 105).map (fun i => (i.zero, i.size, i.bytes)) = some (some (.pointer none), 1, 8) := by kernel_rfl
theorem one_ptr (a : Option Addr) : ∀ u ∈ [Value.pointer a], u.oneCell' = true := by
  intro u hu
  simp at hu; subst hu; rfl
set_option maxRecDepth 100000 in
set_option maxHeartbeats 8000000 in
theorem cnew_okN (inp n : Nat) (i1 : 1 ≤ inp) (i4 : inp ≤ 4) (n1 : 1 ≤ n) (n4 : n ≤ 4) (vm vl : Value) (C : List ByteArray) (O : List Int) (S : Prs) (w : World) (hm : IsMap w vm C O) (ok : MapOk C O) (hk : ∀ k ∈ C, k.size ≤ 9223372036854775807) (hv : Seg w vl 2 S.length (cP S)) (oS : StoreOk S) (hl : S.length ≤ 400000) :
    Calls Tryz.prog 9 #[.int .i64 inp, .int .i64 n, vm, vl] w fun e w' => ∃ b F, e = .returned (.tuple #[.pointer (some ⟨b, 0, none⟩), .int .i64 0]) ∧ CopN w w' F b inp n ⟨C, O, S, 0, []⟩ ∧ (∀ q, F q → w.heap.size ≤ q) ∧ Ext w w' := by
  obtain ⟨a1, k1, a2, k2, rfl, m1, m2⟩ := hm.unpack
  have b0 := heap_alloc_new w (.cells #[.slice a1 C.length k1, .slice a2 O.length k2] 34)
  have E0 := (Ext.refl w).alloc (.cells #[.slice a1 C.length k1, .slice a2 O.length k2] 34)
  obtain ⟨w0, hw0⟩ : ∃ w0, w.alloc (.cells #[.slice a1 C.length k1, .slice a2 O.length k2] 34) = w0 := ⟨_, rfl⟩
  obtain ⟨mb, hmb⟩ : ∃ mb, w.heap.size = mb := ⟨_, rfl⟩
  rw [hw0] at b0 E0
  rw [hmb] at b0
  have MN := hid (mnew_ok inp i1 i4 w0)
  have PN := hid (fun w' (q : Ext w w') => pnew_ok' (.agg #[.slice a1 C.length k1, .slice a2 O.length k2]) vl C O S w' (hm.ext q) ok hk (hv.ext q) oS (by omega))
  have HB := hid b0
  have HE0 := hid E0
  have qa : ¬ ((n : Int) < 1) := by omega
  have qb : ¬ ((n : Int) > 4) := by omega
  clear m1 m2 hm hv ok hk oS b0 E0
  go_enter Tryz.func9, Tryz.ntmps9
  go_wp2_with fail
  refine (MN.out).mono ?_
  clear MN hw0 hmb
  rintro e w1 ⟨bm, S0, rfl, hM, hS, E1⟩
  have HM := hid hM
  have HS := hid hS
  have HE1 := hid (HE0.out.trans E1)
  have HB1 := hid (E1.heap HB.out)
  have HSZ := hid HE0.out.size'
  clear hM hS E1 HB HE0
  go_wp2_with fail
  refine wp_region_ph [.k (.pointer (some ⟨bm, 0, none⟩)), .k (.int .i64 n), .p (MadeZ w1 n), .k (.int .i64 n), .p (MadeR w1 n 83), .p (MadeC w1 n bm), .p (MadeD w1 n bm)] [] (by kernel_rfl) (by kernel_rfl) (by kernel_rfl) rfl rfl ?hs ?hC ?he
  case hC =>
    intro i hi
    simp at hi
  case hs =>
    refine ⟨?_, ?_, ?_, ?_, ?_, ?_, ?_, trivial⟩
    all_goals (
      intro x w' hE hd
      try simp [PhDeps, at_k, at_p, at_t, at_any, Region.binds] at hd
      try ((with_reducible refine Exists.elim hd ?_); clear hd; intro y hd; obtain ⟨hd, hG⟩ := hd)
      try (obtain ⟨e00, ⟨u1, g1, g2, b1, e1, l1, k1⟩, ⟨u2, g3, g4, b2, e2, l2, k2⟩⟩ := hd; replace k1 := g2.heap k1; replace k2 := g4.heap k2; clear g1 g2 g3 g4)
      try (obtain ⟨u1, g1, g2, b1, b2, e1, l1, l2, k1, k2⟩ := hd; replace k1 := g2.heap k1; replace k2 := g2.heap k2; clear g1 g2)
      try (have hsz := hE.size')
      first | simp only [frL, List.length_cons, List.length_nil, List.take_succ_cons, List.take_zero, Nat.reduceAdd, Nat.zero_add, List.setIfInBounds_toArray, List.set_cons_zero, List.set_cons_succ, hd] | simp only [frL, List.length_cons, List.length_nil, List.take_succ_cons, List.take_zero, Nat.reduceAdd, Nat.zero_add, List.setIfInBounds_toArray, List.set_cons_zero, List.set_cons_succ]
      go_wp2_with (first | (at_make; refine wpList_make_z rfl _ _ _ rfl Tryz.underlying22 n rfl rfl (by omega) ?_; intro w2 hb1 hE1) | (at_make; refine wpList_make_sl rfl _ _ _ 83 rfl Tryz.underlying48 infoBs n rfl rfl (by omega) ?_; intro w2 ho2 hb2 hE2))
      all_goals first
        | ((with_reducible refine phK ?_ ?_); (focus rfl); (repeat (first | (with_reducible assumption) | (with_reducible exact Ext.refl _) | (with_reducible refine Ext.drew ?_) | (with_reducible refine Ext.drewN ?_ _) | (with_reducible refine Ext.alloc ?_ _) | (with_reducible refine Ext.trans ?_ (by with_reducible assumption)))))
        | (exact phN ⟨_, rfl, hsz, hb1⟩ hE hE1)
        | (exact phN ⟨_, rfl, hsz, hb2⟩ hE hE2)
        | (exact phN ⟨_, _, rfl, l1, l2, k1, k2⟩ hE (Ext.refl _))
        | (exact phN ⟨_, _, _, rfl, hsz, l1, l2, heap_alloc_new _ _, ((Ext.refl _).alloc _).heap k1, ((Ext.refl _).alloc _).heap k2⟩ hE ((Ext.refl _).alloc _))
        | ((with_reducible refine phT rfl hG ?_); (repeat (first | (with_reducible assumption) | (with_reducible exact Ext.refl _) | (with_reducible refine Ext.drew ?_) | (with_reducible refine Ext.drewN ?_ _) | (with_reducible refine Ext.alloc ?_ _) | (with_reducible refine Ext.trans ?_ (by with_reducible assumption)))))
        | ((with_reducible refine phU hG ?_); (repeat (first | (with_reducible assumption) | (with_reducible exact Ext.refl _) | (with_reducible refine Ext.drew ?_) | (with_reducible refine Ext.drewN ?_ _) | (with_reducible refine Ext.alloc ?_ _) | (with_reducible refine Ext.trans ?_ (by with_reducible assumption)))))
        | (with_reducible exact phBox hE)
        | (with_reducible exact phRow hE))
  case he =>
    intro x w2 hE hd
    simp [PhEnd, at_k, at_p, at_t] at hd
    obtain ⟨e0, e1, -, e3, -, -, u1, g1, g2, b, bd, bo, e6, lb, ld, lo, hb, hbd, hbo⟩ := hd
    replace hb := g2.heap hb
    replace hbd := g2.heap hbd
    replace hbo := g2.heap hbo
    have hz1 := HE1.out.size'
    have NI := hid (show NewI w w2 S0 b bm bd bo inp n 0 (.slice none 0 0) (fun _ => 0) (fun _ => .slice none 0 0) (fun _ => .slice none 0 0) (fun _ _ => .slice none 0 0) C O S from
      ⟨hb, HM.out.ext hE, World.ownsRow_nil _ _ _ _, hbd, hbo, fun _ h => absurd h (Nat.not_lt_zero _), fun _ h => absurd h (Nat.not_lt_zero _), fun _ _ h => absurd h (Nat.not_lt_zero _), fun _ h => absurd h (Nat.not_lt_zero _), fun _ h => absurd h (Nat.not_lt_zero _), fun q hq => Nat.le_trans HSZ.out (HS.out q hq), by omega, by omega, by omega, HE1.out.trans hE⟩)
    have HB2 := hid (hE.heap HB1.out)
    simp only [frL, List.length_cons, List.length_nil, List.take_succ_cons, List.take_zero, Nat.reduceAdd, Nat.zero_add, List.setIfInBounds_toArray, List.set_cons_zero, List.set_cons_succ, e0, e1, e3, e6]
    clear e0 e1 e3 e6 hb hbd hbo g1 g2 HM HS HB1
    go_wp2_with fail
    go_loopw [13, 14, 37] (fun _ _ iv wr => ∃ (k : Nat) (lv : Value) (bt : Nat → Nat) (vc vs : Nat → Value) (pv : Nat → Nat → Value), k ≤ n ∧ iv = .int .i64 k ∧ wr.heap[mb]? = some (.cells #[.slice a1 C.length k1, .slice a2 O.length k2] 34 (0, 0)) ∧ (∀ i, i < k → bt i < wr.heap.size) ∧ Hid (NewI w wr S0 b bm bd bo inp n k lv bt vc vs pv C O S)) (fun _ _ iv _ => n - (intOf iv).toNat)
    case atStart => exact ⟨0, _, _, _, _, _, Nat.zero_le _, rfl, HB2.out, fun _ h => absurd h (Nat.not_lt_zero _), NI⟩
    case round =>
      clear NI
      obtain ⟨wo, rfl⟩ : ∃ wo : World, wo = wr := ⟨_, rfl⟩
      obtain ⟨k, lv, bt, vc, vs, pv, hk, rfl, hmo, hbt, hI⟩ := hrel
      by_cases hkn : k < n
      · have hkn' : ((k : Int) < (n : Int)) := by omega
        have xm := blk2 hmo
        have PN1 := hid (PN.out wo hI.out.E)
        have HBT := hid hbt
        clear hbt
        go_wp2_with fail
        refine (PN1.out).mono ?_
        clear PN1
        rintro e w3 ⟨p, vc', vs', pv', rfl, hpl, hno, hP, E3⟩
        obtain ⟨al, cl, hlv⟩ := own_form hI.out.lrow
        have I3 := hI.out.ext E3
        have hb3 := I3.box
        have hl3 := I3.lrow
        rw [hlv] at hb3 hl3
        have k3 := blk4 hb3
        have HNS := hid (fun q => by have h1 := hno _ q; have h2 := (Array.getElem?_eq_some_iff.1 hI.out.drow).1; omega : vs'.ownBlock ≠ some bd)
        have HSL := hid (fun q hq => by have h1 := hno q hq; have h2 := hI.out.E.size'; omega : ∀ q, vs'.ownBlock = some q → w.heap.size ≤ q)
        have HPN := hid (fun i (hi : i < k) => (by have := HBT.out i hi; omega : bt i ≠ p))
        have hpl0 : w.heap.size ≤ p := by have := hI.out.E.size'; omega
        have HP3 := hid hP
        have HI3 := hid I3
        have HLV := hid hlv
        have hbw := E3.size'
        have EA := (Ext.refl w3).alloc (.cells #[.pointer (some ⟨p, 0, none⟩)] 105)
        have p1 : Seg (w3.alloc (.cells #[.pointer (some ⟨p, 0, none⟩)] 105)) (.slice (some ⟨w3.heap.size, 0, none⟩) 1 1) 1 1 [.pointer (some ⟨p, 0, none⟩)] := seg_one (heap_alloc_new w3 _)
        have p2 := own_ext hl3 EA
        have hbA := EA.heap hb3
        have nbx := own_ne p2 hbA (by decide)
        have p3 : w.heap.size ≤ (w3.alloc (.cells #[.pointer (some ⟨p, 0, none⟩)] 105)).heap.size := by have := I3.E.size'; simp; omega
        have hpw := hP.lt
        have hmA := EA.heap (E3.heap hmo)
        have nmx := own_ne p2 hmA (by decide)
        have nmb : mb ≠ b := fun e => by rw [e, hbA] at hmA; injection hmA with hmA; injection hmA with _ hmA; exact absurd hmA (by decide)
        have HMA := hid hmA
        clear hno hP I3 E3 hI hlv hmo hl3 xm hmA
        go_wp2_with (first | (at_builtin; refine (wpList_app rfl _ _ 47 rfl w.heap.size 105 (.pointer none) 1 8 Tryz.underlying47 infoPp rfl (by decide) _ k (rowV k fun i => .pointer (some ⟨bt i, 0, none⟩)) rfl p2 _ 1 [.pointer (some ⟨p, 0, none⟩)] rfl p1 (one_ptr _) (by omega) (by unfold maxLen; omega) p3 ?_); intro v' w4 ho' hg; have hb4 := grown_heap hg hbA nbx; have k4 := blk4 hb4; have f4 := (frz4 hb4).2.1; have hof := own_form ho'; rcases hof with ⟨a4, c4, rfl⟩))
        have HJ := hid (NewI.step (HI3.out.ext EA) (HP3.out.ext EA) HNS.out HSL.out hpl0 HPN.out ho' (by rw [HLV.out]; exact hg))
        have HM4 := hid (heap_set_far (p := ⟨b, 1, none⟩) (u := .slice a4 (k + 1) c4) (grown_heap hg HMA.out nmx) nmb)
        have HZ4 := hid (show ∀ i, i < k + 1 → (if i = k then p else bt i) < (w4.setCell ⟨b, 1, none⟩ (.slice a4 (k + 1) c4)).heap.size from fun i hi => by
          have h1 := hg.size
          have h2 := EA.size'
          have h3 := (grown_set w4 b 1 (.slice a4 (k + 1) c4)).size
          by_cases e : i = k
          · rw [if_pos e]; omega
          · rw [if_neg e]
            have := HBT.out i (by omega); omega)
        go_roundw
        case rel => exact ⟨k + 1, _, _, _, _, _, by omega, by go_num, HM4.out, HZ4.out, HJ⟩
        case measure => simp [intOf] <;> omega
      · obtain rfl : k = n := by omega
        obtain ⟨F, hC, hF⟩ := hI.out.all (by omega) n4
        have HR := hid (And.intro hC (And.intro hF hI.out.E))
        clear hC hF hI
        go_wp2
        go_ret2
        exact ⟨b, F, rT2 rfl rfl, HR.out⟩
theorem cnew_ok (inp n : Nat) (i1 : 1 ≤ inp) (i4 : inp ≤ 4) (n1 : 1 ≤ n) (n4 : n ≤ 4) (vm vl : Value) (C : List ByteArray) (O : List Int) (S : Prs) (w : World) (hm : IsMap w vm C O) (ok : MapOk C O) (hk : ∀ k ∈ C, k.size ≤ 9223372036854775807) (hv : Seg w vl 2 S.length (cP S)) (oS : StoreOk S) (hl : S.length ≤ 400000) :
    Calls Tryz.prog 9 #[.int .i64 inp, .int .i64 n, vm, vl] w fun e w' => ∃ b F, e = .returned (.tuple #[.pointer (some ⟨b, 0, none⟩), .int .i64 0]) ∧ CopSt w' F b (List.replicate inp []) (List.replicate inp []) (List.replicate n ⟨C, O, S, 0, []⟩) ∧ (∀ q, F q → w.heap.size ≤ q) ∧ Ext w w' :=
  (cnew_okN inp n i1 i4 n1 n4 vm vl C O S w hm ok hk hv oS hl).mono (by
    rintro e w' ⟨b, F, h1, h2, h3⟩
    exact ⟨b, F, h1, h2.st, h3⟩)
end Go.Proofs.YtddghaoejnbkaaaGreatDoor
