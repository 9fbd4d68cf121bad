/- Contracts and lemmas for the proof of MergeOrder; each theorem states its own conditions. -/
import Derived.Test.YtijcckhkofkenaaQMergeOrderbs
import Derived.Test.YtijcckhkofkenaaQMergeOrderbt
import Derived.Test.YtijcckhkofkenaaQMergeOrderca
set_option linter.unusedVariables false
set_option linter.unusedSimpArgs false
/- Contracts and lemmas for the proofs of this seat; each theorem states its own conditions. -/
namespace Go.Proofs.Ytijcckhkofkenaa
open Go.RowKit
theorem BatSt.kp {w w' : World} {Sa Sa' Sb : Nat → Prop} (ty : TyS w Sa mTy) (K : Kp Sa w w' Sa') (hd : ∀ k, Sb k → ¬ Sa k) {v : Value} {X : Bat} (h : BatSt w Sb v X) : BatSt w' Sb v X := by
  obtain ⟨es, a, b, c⟩ := h
  exact ⟨es, a.kp ty K, K.own b (fun k hk => hd k (c k hk)), c⟩
/-- a merge that lies beside what turns -/
theorem MergeSt.kp {w w' : World} {Sa Sa' Sb : Nat → Prop} (ty : TyS w Sa mTy) (K : Kp Sa w w' Sa') (hd : ∀ k, Sb k → ¬ Sa k) {bm : Nat} {cl : List (List Bat)} {op : List Bat} (h : MergeSt w Sb bm cl op) : MergeSt w' Sb bm cl op ∧ ∀ k, Sb k → ¬ Sa' k := by
  obtain ⟨bc, bo, vc, vo, h⟩ := h
  refine ⟨⟨bc, bo, vc, vo, h.n0, h.n4, h.ln, fun k hk => ?_, h.sm, h.sc, h.so, K.heap h.box (hd _ h.sm), K.heap h.crow (hd _ h.sc), K.heap h.orow (hd _ h.so), fun i hi => ?_, fun i hi => (h.opn i hi).kp ty K hd, h.clz, h.cbo, h.opz⟩, fun k hk => K.out (h.ty.lt hk) (hd k hk)⟩
  · obtain ⟨cs, e, a, b⟩ := h.ty k hk
    exact ⟨cs, e, K.heap a (hd k hk), b⟩
  · obtain ⟨us, a, b, c, d⟩ := h.cls i hi
    exact ⟨us, a, K.own b (fun k hk => hd k (c k hk)), c, fun j u x p q => ⟨(d j u x p q).1.kp ty K hd, (d j u x p q).2⟩⟩
theorem Kp.symmOff {w w' : World} {Sa Sa' Sb : Nat → Prop} {T : List Nat} (ty : TyS w Sb T) (K : Kp Sa w w' Sa') (hd : ∀ k, Sa k → ¬ Sb k) : ∀ k, Sa' k → ¬ Sb k := fun k hk hb => by
  rcases K.2.2 k hk with a | a
  · exact hd k a hb
  · have := ty.lt hb; omega
theorem EntsO.re {w w0 : World} {S S2 : Nat → Prop} {v : Value} {X : List Ent} (h : EntsO w S v X) (h' : EntsO w0 S2 v X) : EntsO w S2 v X := by
  obtain ⟨es, a, b, _⟩ := h
  obtain ⟨_, _, _, c⟩ := h'
  exact ⟨es, a, b, c⟩
/-- two merges, and entries, beside each other -/
structure Two (w wr : World) (ba bb : Nat) (n : Nat) (A B : MSt) (vx : Value) (X : List Ent) (Sa Sb : Nat → Prop) : Prop where
  a : MergeSt wr Sa ba A.1 A.2
  b : MergeSt wr Sb bb B.1 B.2
  ab : ∀ k, Sa k → ¬ Sb k
  E : Ext w wr
  sa : ∀ k, Sa k → w.heap.size ≤ k
  sb : ∀ k, Sb k → w.heap.size ≤ k
  xa : EntsO wr Sa vx X
  xb : EntsO wr Sb vx X
theorem Two.ext {w wr w' : World} {ba bb n : Nat} {A B : MSt} {vx : Value} {X : List Ent} {Sa Sb : Nat → Prop} (h : Two w wr ba bb n A B vx X Sa Sb) (E : Ext wr w') : Two w w' ba bb n A B vx X Sa Sb :=
  ⟨h.a.ext E, h.b.ext E, h.ab, h.E.trans E, h.sa, h.sb, h.xa.ext E, h.xb.ext E⟩
theorem Two.turnB {w wr w' : World} {ba bb n : Nat} {A B B' : MSt} {vx : Value} {X : List Ent} {Sa Sb Sb' : Nat → Prop} (h : Two w wr ba bb n A B vx X Sa Sb) (hb : MergeSt w' Sb' bb B'.1 B'.2) (K : Kp Sb wr w' Sb') : Two w w' ba bb n A B' vx X Sa Sb' := by
  obtain ⟨a1, a2⟩ := h.a.kp h.b.ty K h.ab
  obtain ⟨e1, e2⟩ := K.low h.E h.sb
  have x1 := h.xb.kp h.b.ty K
  exact ⟨a1, hb, a2, e1, h.sa, e2, x1.re h.xa, x1⟩
theorem Two.turnA {w wr w' : World} {ba bb n : Nat} {A B A' : MSt} {vx : Value} {X : List Ent} {Sa Sb Sa' : Nat → Prop} (h : Two w wr ba bb n A B vx X Sa Sb) (ha : MergeSt w' Sa' ba A'.1 A'.2) (K : Kp Sa wr w' Sa') : Two w w' ba bb n A' B vx X Sa' Sb := by
  obtain ⟨b1, b2⟩ := h.b.kp h.a.ty K (fun k hk hk' => h.ab k hk' hk)
  obtain ⟨e1, e2⟩ := K.low h.E h.sa
  have x1 := h.xa.kp h.a.ty K
  exact ⟨ha, b1, fun k hk hk' => b2 k hk' hk, e1, e2, h.sb, x1, x1.re h.xb⟩
def TwoS (w : World) (ba bb : Nat) (n : Nat) (A B : MSt) (vx : Value) (X : List Ent) (wr : World) : Prop := ∃ Sa Sb, Two w wr ba bb n A B vx X Sa Sb
theorem TwoS.ext {w wr w' : World} {ba bb n : Nat} {A B : MSt} {vx : Value} {X : List Ent} (h : TwoS w ba bb n A B vx X wr) (E : Ext wr w') : TwoS w ba bb n A B vx X w' := by
  obtain ⟨Sa, Sb, h⟩ := h
  exact ⟨Sa, Sb, h.ext E⟩
/-- a step of the other merge, one call -/
theorem two_close {w wr : World} {ba bb n a k : Nat} {A B : MSt} {vx : Value} {X : List Ent} (h : TwoS w ba bb n A B vx X wr) (hB : BdM n a k B.1 B.2) (hk : k < 60) {i : Nat} (hi : i < n) :
    Calls Try.prog 39 #[.pointer (some ⟨bb, 0, none⟩), .int .i64 i] wr fun e w' => ∃ z, e = .returned (.tuple #[.int .i64 z, .int .i64 0]) ∧ TwoS w ba bb n A (clsM B.1 i (B.2.getD i []), B.2.set i []) vx X w' := by
  obtain ⟨Sa, Sb, h⟩ := h
  refine (mclose_ok h.b i (by rw [hB.lc]; exact hi) (by have := hB.len i hi; omega)).mono ?_
  rintro e w' ⟨rfl, S', hM, K⟩
  exact ⟨_, rfl, Sa, S', h.turnB hM K⟩
theorem two_closeA {w wr : World} {ba bb n a k : Nat} {A B : MSt} {vx : Value} {X : List Ent} (h : TwoS w ba bb n A B vx X wr) (hA : BdM n a k A.1 A.2) (hk : k < 60) {i : Nat} (hi : i < n) :
    Calls Try.prog 39 #[.pointer (some ⟨ba, 0, none⟩), .int .i64 i] wr fun e w' => ∃ z, e = .returned (.tuple #[.int .i64 z, .int .i64 0]) ∧ TwoS w ba bb n (clsM A.1 i (A.2.getD i []), A.2.set i []) B vx X w' ∧ ∀ (v : Value) (n : Nat) (xs : List Value), wr.ownsRow 0 3 1 v n xs → w'.ownsRow 0 3 1 v n xs := by
  obtain ⟨Sa, Sb, h⟩ := h
  refine (mclose_ok h.a i (by rw [hA.lc]; exact hi) (by have := hA.len i hi; omega)).mono ?_
  rintro e w' ⟨rfl, S', hM, K⟩
  exact ⟨_, rfl, ⟨S', Sb, h.turnA hM K⟩, fun v n xs ho => K.own ho (h.a.ty.off ho op_mTy.2.2)⟩
theorem two_roundsA {w wr : World} {ba bb n : Nat} {A B : MSt} {vx : Value} {X : List Ent} (h : TwoS w ba bb n A B vx X wr) :
    Calls Try.prog 34 #[.pointer (some ⟨ba, 0, none⟩)] wr fun e w' => e = .returned (.int .i64 (rdM A.1)) ∧ Ext wr w' := by
  obtain ⟨_, _, q⟩ := h
  exact mrounds_ok q.a
theorem two_add {w wr : World} {ba bb n a k : Nat} {A B : MSt} {vx : Value} {X : List Ent} (h : TwoS w ba bb n A B vx X wr) (hB : BdM n a k B.1 B.2) (ha : a < 60) (hk : k ≤ 60) {i : Nat} (hi : i < n) {e : EV} {x : Ent} (he : EntSt wr e x) (hx : EntOk x) :
    Calls Try.prog 38 #[.pointer (some ⟨bb, 0, none⟩), .int .i64 i, evV e] wr fun r w' => r = .returned (.int .i64 0) ∧ TwoS w ba bb n A (B.1, addM B.2 i (plainE x)) vx X w' := by
  obtain ⟨Sa, Sb, h⟩ := h
  have hm := hB.many
  have hi' : i < B.1.length := by rw [hB.lc]; exact hi
  refine (madd_ok h.b i hi' e x he.seg hx.sm hx.sz hx.ok (by omega) (fun m hm => by have := hB.len m (by rw [← hB.lc]; exact hm); omega) (by have := op_many (op := B.2) hi'; omega)).mono ?_
  rintro r w' ⟨rfl, S', hM, K⟩
  exact ⟨rfl, Sa, S', h.turnB hM K⟩
theorem fed1_nx {n : Nat} {X : List Ent} {s : MSt × Nat} {c : List Int} : (fed1 n X s c).2 = if c.length < 2 then s.2 else if wi (c.getD 0 0) 3 < 2 then (if s.2 < X.length then s.2 + 1 else s.2) else s.2 := by
  unfold fed1
  split
  · rfl
  · split
    · split <;> rfl
    · rfl
/-- what stands before input k - 1 -/
def stB (n : Nat) (X : List Ent) (ls : List (List Int)) (k : Nat) : MSt := if k = 0 then (atM n X ls ls.length).1 else mixM n X ls (k - 1) 0
theorem stB_step (n : Nat) (X : List Ent) (ls : List (List Int)) (i : Nat) : stB n X ls i = mixM n X ls i ls.length := by
  unfold stB
  rcases i with _ | i
  · rw [if_pos rfl, mix_end]
  · rw [if_neg (by omega), mix_next]; rfl
set_option maxRecDepth 100000 in
set_option maxHeartbeats 8000000 in
theorem morder_walk (a0 : Int) (v v2 : Value) (ls ds : List (List Int)) (w : World) (hv : SegLL w v ls) (hv2 : SegLL w v2 ds) :
    Calls Try.prog 6 #[.int .i64 a0, v, v2] w fun e w' => e = .returned (.bool true) ∧ Ext w w' := by
  obtain ⟨m, hm1, hm2, hm4⟩ : ∃ m : Nat, wi a0 4 = (m : Int) ∧ (wi a0 4).toNat = m ∧ m < 4 := wi_nat (z := a0) (n := 4) (by omega)
  have WI := fun w => within_any a0 4 w (by omega) (by omega)
  rw [hm1] at WI
  have WI0 := hid WI
  clear WI
  obtain ⟨aL, cL, us, rfl, l1, l2, l3, l4, l5⟩ := hv.in
  unfold maxLen at l2
  have HV := hid hv
  have L4 := hid l4
  have L5 := hid l5
  have L3 := hid l3
  obtain ⟨N, hN, hN1, hN2⟩ : ∃ N : Nat, min (ls.length : Int) 40 = (N : Int) ∧ N = min ls.length 40 ∧ N ≤ ls.length := ⟨min ls.length 40, by omega, rfl, by omega⟩
  have hNt : ((N : Int)).toNat = N := by omega
  have hNm : max (N : Int) 0 = (N : Int) := by omega
  have hN40 : N ≤ 40 := by omega
  have HTK := hid (show (ls.take 40).length = N by rw [List.length_take, hN1]; omega)
  have q1 : (1 : Int) + (m : Int) = ((m + 1 : Nat) : Int) := by omega
  have HMIN := hid hN1
  clear l3 l4 l5 hv hm1 hm2 hN1
  go_enter Try.func6, Try.ntmps6
  go_wp2_with fail
  refine (mergeBegun_any _).mono ?_
  rintro e w1 ⟨rfl, E1⟩
  go_wp2_with fail
  refine (WI0.out _).mono ?_
  rintro e w' ⟨rfl, rfl⟩
  go_wp2_with fail
  refine (mnew_ok (m + 1) (by omega) (by omega) _).mono ?_
  rintro e w2 ⟨ba, Sa, rfl, hA, hSa, E2⟩
  have hSa1 : ∀ k, Sa k → w.heap.size ≤ k := fun k hk => by have := hSa k hk; have := E1.size'; omega
  replace E2 := E1.trans E2
  clear hSa E1
  go_wp2_with fail
  refine (mnew_ok (m + 1) (by omega) (by omega) _).mono ?_
  rintro e w3 ⟨bb, Sb, rfl, hB, hSb, E3⟩
  have hAB : ∀ k, Sa k → ¬ Sb k := fun k hk hk' => by have := hA.ty.lt hk; have := hSb k hk'; omega
  have hSb1 : ∀ k, Sb k → w.heap.size ≤ k := fun k hk => by have := hSb k hk; have := E2.size'; omega
  replace hA := hA.ext E3
  replace E3 := E2.trans E3
  clear q1 hSb E2
  go_wp2_with fail
  refine (entries_any v2 (.slice none 0 0) ds [] _ (hv2.ext E3) (segll_nil _) (by simp)).mono ?_
  rintro e w4 ⟨vx, D, rfl, hdg, hdl, hlog⟩
  have hX := entsTo_ok hdg [] (Nat.le_refl _)
  have hXl := entsTo_len D [] D.length
  generalize entsTo D [] D.length = X at hlog hX hXl
  have hTwo : Two w w4 ba bb (m + 1) (initM (m + 1)) (initM (m + 1)) vx X Sa Sb := ⟨hA.ext hlog.E, hB.ext hlog.E, hAB, E3.trans hlog.E, hSa1, hSb1, hlog.off hA.ty, hlog.off hB.ty⟩
  obtain ⟨ax, cx, rfl⟩ := hlog.form
  have HX := hid hX
  have hX24 : X.length ≤ 24 := by omega
  clear hX hlog hA hB hdg hdl E3 hv2 hAB hSa1 hSb1 hXl
  have FD := hid (fed_ok hTwo.a (BdM.nil (by omega)) (by omega) hTwo.E hTwo.sa (.slice aL ls.length cL) ls HV.out (by omega) (.slice ax X.length cx) X hTwo.xa HX.out (by omega))
  go_wp2_with fail
  refine (FD.out).mono ?_
  rintro e w5 ⟨rfl, S5, hM5, K5⟩
  have hTS := hid (show TwoS w ba bb (m + 1) (atM (m + 1) X (ls.take 40) (ls.take 40).length).1 (stB (m + 1) X (ls.take 40) (m + 1)) (.slice ax X.length cx) X w5 from by
    have h1 : (atM (m + 1) X (ls.take 40) (ls.take 40).length).1 = (fedM (m + 1) X (initM (m + 1), 0) (ls.take 40)).1 := by
      unfold atM; rw [List.take_of_length_le (Nat.le_refl _)]
    have h2 : stB (m + 1) X (ls.take 40) (m + 1) = initM (m + 1) := by
      unfold stB; rw [if_neg (by omega)]; exact mix_start X (ls.take 40)
    rw [h1, h2]
    exact ⟨S5, Sb, hTwo.turnA hM5 K5⟩)
  have HMB := hid (fun i j (hj : j ≤ (ls.take 40).length) => mix_bd (fun x hx => (HX.out x hx).sm) (ls.take 40) (show 0 < m + 1 by omega) (i := i) hj)
  have HAB := hid (fed_bd (s := initM (m + 1)) (fun x hx => (HX.out x hx).sm) (BdM.nil (show 0 < m + 1 by omega)) (ls.take 40))
  clear FD hM5 K5 hTwo
  obtain ⟨A, hAe⟩ : ∃ A, (atM (m + 1) X (ls.take 40) (ls.take 40).length).1 = A := ⟨_, rfl⟩
  rw [hAe] at hTS
  have HAE := hid hAe
  clear hAe
  go_wp2_with fail
  go_loopw [12, 13, 15, 16, 17, 18, 66] (fun iv _ _ _ _ _ _ wr => ∃ (k : Nat) (z : Int), k ≤ m + 1 ∧ iv = .int .i64 z ∧ z = (k : Int) - 1 ∧ TwoS w ba bb (m + 1) A (stB (m + 1) X (ls.take 40) k) (.slice ax X.length cx) X wr) (fun iv _ _ _ _ _ _ _ => (intOf iv + 1).toNat)
  case atStart => exact ⟨m + 1, _, Nat.le_refl _, rfl, by omega, hTS.out⟩
  case round =>
    clear hTS
    obtain ⟨wq, rfl⟩ : ∃ wq : World, wq = wr := ⟨_, rfl⟩
    obtain ⟨k, z, hk, rfl, hz, hT⟩ := hrel
    have HT := hid hT
    clear hT
    rcases Nat.eq_zero_or_pos k with hk0 | hk0
    · subst hk0
      obtain rfl : z = -1 := by omega
      clear hk hz
      have hst : stB (m + 1) X (ls.take 40) 0 = A := by unfold stB; rw [if_pos rfl]; exact HAE.out
      rw [hst] at HT
      have hbd : BdM (m + 1) 24 40 A.1 A.2 := by
        obtain ⟨b1, b2⟩ := HAB.out (ls.take 40).length (Nat.le_refl _)
        rw [← HAE.out]
        unfold atM
        exact b1.mono (by omega) (by rw [HTK.out]; omega)
      obtain ⟨Sa', Sb', hT⟩ := HT.out
      have MRa := hid (fun w' (E : Ext wq w') => mrounds_ok (hT.a.ext E))
      have MRb := hid (fun w' (E : Ext wq w') => mrounds_ok (hT.b.ext E))
      have hlm := log_many A.1 A.2
      have hma := hbd.many
      have hcl : ∀ i, i < A.1.length → (A.1.getD i []).length ≤ 1000000 := fun i hi => by have := hbd.len i (by rw [← hbd.lc]; exact hi); omega
      have MLa := hid (fun w' (E : Ext wq w') => mlog_ok (hT.a.ext E) hbd.sm.log (by omega) hcl)
      have MLb := hid (fun w' (E : Ext wq w') => mlog_ok (hT.b.ext E) hbd.sm.log (by omega) hcl)
      have MWa := hid (fun w' (E : Ext wq w') => mwaits_ok (hT.a.ext E))
      have MWb := hid (fun w' (E : Ext wq w') => mwaits_ok (hT.b.ext E))
      have HRD := hid (fun j (hj : j ≤ (wtM A.1).length) => clsW_rd hbd hj)
      have HCB := hid (fun j (hj : j ≤ (wtM A.1).length) => (clsW_bd hbd (W := wtM A.1) (fun i hi => by have := (wt_mem.1 hi).1; rw [hbd.lc] at this; exact this) (wt_nodup _ _ _) j hj).1)
      have HWM := hid (fun (j : Nat) (hj : j < (wtM A.1).length) => (by have := (wt_mem.1 (List.getElem_mem hj)).1; rw [hbd.lc] at this; exact this : (wtM A.1)[j] < m + 1))
      have hW0 : 0 < (wtM A.1).length := List.length_pos_iff.2 (wt_some (by rw [hbd.lc]; omega))
      have hWl : (wtM A.1).length ≤ 4 := by
        have := wt_len A.1 (rdM A.1) A.1.length
        rw [hbd.lc] at this
        unfold wtM; rw [hbd.lc]; omega
      have hRb : rdM A.1 ≤ 40 := by
        have h1 := rdM_le (cl := A.1) (i := 0) (by rw [hbd.lc]; omega)
        have h2 := hbd.len 0 (by omega)
        omega
      clear hT hst hlm hma hcl hbd HAE HAB HMB
      obtain ⟨R, hR⟩ : ∃ R, rdM A.1 = R := ⟨_, rfl⟩
      rw [hR] at MRa MRb HRD hRb
      clear hR
      generalize wtM A.1 = W at MWa MWb HRD HCB HWM hW0 hWl
      generalize logM A.1 = L at MLa MLb
      have qR : ((R : Int) != (R : Int)) = false := by simp
      go_wp2_with fail
      refine (MRa.out _ (Ext.refl _)).mono ?_
      rintro e x1 ⟨rfl, F1⟩
      go_wp2_with fail
      refine (MRb.out _ F1).mono ?_
      rintro e x2 ⟨rfl, F2⟩
      replace F2 := F1.trans F2
      go_wp2_with fail
      refine (MLa.out _ F2).mono ?_
      rintro e x3 ⟨va, rfl, la⟩
      have F3 := F2.trans la.E
      go_wp2_with fail
      refine (MLb.out _ F3).mono ?_
      rintro e x4 ⟨vb, rfl, lb⟩
      have F4 := F3.trans lb.E
      have EQ := equalE_any va vb L L x4 (la.seg.ext lb.E) lb.seg
      rw [eqEs_refl] at EQ
      have EQ := hid EQ
      clear la lb F1 F2 F3
      go_wp2_with fail
      refine (EQ.out).mono ?_
      rintro e x5 ⟨rfl, F5⟩
      replace F5 := F4.trans F5
      clear EQ F4
      go_wp2_with fail
      refine (MWa.out _ F5).mono ?_
      rintro e x6 ⟨va, rfl, oa, F6⟩
      replace F6 := F5.trans F6
      go_wp2_with fail
      refine (MWb.out _ F6).mono ?_
      rintro e x7 ⟨vb, rfl, ob, F7⟩
      have oa7 := own_ext oa F7
      replace F7 := F6.trans F7
      rw [cN_cI] at oa7 ob
      have hWm : (W.map fun (n : Nat) => (n : Int)).length = W.length := by simp
      have Q := equal_Int va vb (W.map fun (n : Nat) => (n : Int)) (W.map fun (n : Nat) => (n : Int)) x7 (by rw [hWm]; exact own_seg oa7) (by rw [hWm]; exact own_seg ob)
      rw [show decide ((W.map fun (n : Nat) => (n : Int)) = (W.map fun (n : Nat) => (n : Int))) = true by simp] at Q
      have Q := hid Q
      clear oa oa7 ob F5 F6 hWm
      go_wp2_with fail
      refine (Q.out).mono ?_
      rintro e x8 ⟨rfl, d8, rfl⟩
      have F8 := F7.drewN d8
      clear Q F7
      go_wp2_with fail
      refine (MRa.out _ F8).mono ?_
      rintro e x9 ⟨rfl, F9⟩
      replace F9 := F8.trans F9
      go_wp2_with fail
      refine (MWa.out _ F9).mono ?_
      rintro e y1 ⟨vw, rfl, ow, G1⟩
      replace G1 := F9.trans G1
      obtain ⟨gw, cw, rfl, _, _⟩ := own_form_g ow hW0
      have HTW := hid (HT.out.ext G1)
      have HOW := hid (own_base ow (Nat.zero_le _))
      have q0 : ((W.length : Int) == 0) = false := by simpa using (show W ≠ [] from List.length_pos_iff.1 hW0)
      have q0' : ¬ (W = []) := List.length_pos_iff.1 hW0
      clear ow HT F8 F9 G1 MRa MRb MLa MLb MWa MWb
      go_wp2_with fail
      go_loopw [21, 22, 23, 24, 144] (fun _ _ _ _ jv wr => ∃ j : Nat, j ≤ W.length ∧ jv = .int .i64 j ∧ TwoS w ba bb (m + 1) (clsW A (W.take j)) A (.slice ax X.length cx) X wr ∧ wr.ownsRow 0 3 1 (.slice (some ⟨gw, 0, none⟩) W.length cw) W.length (cN W)) (fun _ _ _ _ jv _ => W.length - (intOf jv).toNat)
      case atStart => exact ⟨0, Nat.zero_le _, rfl, by rw [List.take_zero]; exact HTW.out, HOW.out⟩
      case round =>
        clear HTW HOW
        obtain ⟨j, hj, rfl, hT, ho⟩ := hrel
        by_cases hjl : j < W.length
        · have cj := own_nat ho hjl
          have hrd := HRD.out j hj
          rw [if_neg (by omega), Nat.add_zero] at hrd
          have hrd2 := HRD.out (j + 1) hjl
          have hcs : clsW A (W.take (j + 1)) = (clsM (clsW A (W.take j)).1 W[j] ((clsW A (W.take j)).2.getD W[j] []), (clsW A (W.take j)).2.set W[j] []) := by
            rw [List.take_succ_eq_append_getElem hjl, clsW_snoc]
          have HO := hid ho
          have hcb := HCB.out j hj
          have hwm := HWM.out j hjl
          rw [hcs] at hrd2
          have HCS := hid hcs
          generalize clsW A (W.take j) = C at hT hrd hrd2 hcb HCS
          generalize W[j] = i at cj hrd2 hwm HCS
          have MR := two_roundsA hT
          rw [hrd] at MR
          have MR := hid MR
          have MC := hid (fun w' (E : Ext wr w') => two_closeA (hT.ext E) hcb (by omega) hwm)
          clear hT hcb hrd hcs ho
          go_wp2_with fail
          refine (MR.out).mono ?_
          rintro e z1 ⟨rfl, H1⟩
          go_wp2_with fail
          refine (MC.out _ H1).mono ?_
          rintro e z2 ⟨zz, rfl, hT2, hk2⟩
          have HO2 := hid (hk2 _ _ _ (own_ext HO.out H1))
          have HT2 := hid hT2
          have MR2 := two_roundsA hT2
          rw [hrd2] at MR2
          have MR2 := hid MR2
          clear hT2 hk2 hrd2 MC MR HO
          by_cases hlast : j + 1 = W.length
          · have qj : ((j : Int) == (W.length : Int) - 1) = true := by simp; omega
            rw [if_pos hlast] at MR2
            have qr : (((R + 1 : Nat) : Int) != (R : Int) + 1) = false := by simp
            clear hlast
            go_wp2_with fail
            refine (MR2.out).mono ?_
            rintro e z3 ⟨rfl, H3⟩
            have HT3 := hid (HT2.out.ext H3)
            have HO3 := hid (own_ext HO2.out H3)
            go_wp2
            go_roundw
            case rel => exact ⟨j + 1, by omega, by go_num, by rw [HCS.out]; exact HT3.out, HO3.out⟩
            case measure => simp [intOf] <;> omega
          · have qj : ((j : Int) == (W.length : Int) - 1) = false := by simp; omega
            clear hlast
            go_wp2
            go_roundw
            case rel => exact ⟨j + 1, by omega, by go_num, by rw [HCS.out]; exact HT2.out, HO2.out⟩
            case measure => simp [intOf] <;> omega
        · obtain rfl : j = W.length := by omega
          have EE : Ext w wr := by
            obtain ⟨_, _, q⟩ := hT
            exact q.E
          clear hT ho
          go_wp2
          go_ret
          exact ⟨rfl, EE⟩
    · obtain ⟨i, rfl⟩ : ∃ i, k = i + 1 := ⟨k - 1, by omega⟩
      obtain rfl : z = (i : Int) := by omega
      clear hz
      have HT0 := hid (show TwoS w ba bb (m + 1) A (mixM (m + 1) X (ls.take 40) i 0) (.slice ax X.length cx) X wq from HT.out)
      clear HT
      go_wp2
      clear hN hNt hNm
      go_loopw [13, 15, 16, 17, 18, 66] (fun nv _ _ _ _ jv wr => ∃ j : Nat, j ≤ N ∧ jv = .int .i64 j ∧ nv = .int .i64 (atM (m + 1) X (ls.take 40) j).2 ∧ TwoS w ba bb (m + 1) A (mixM (m + 1) X (ls.take 40) i j) (.slice ax X.length cx) X wr) (fun _ _ _ _ _ jv _ => N - (intOf jv).toNat)
      case atStart => exact ⟨0, Nat.zero_le _, rfl, by rw [atM_zero]; rfl, HT0.out⟩
      case round =>
        clear HT0
        obtain ⟨wz, rfl⟩ : ∃ wz : World, wz = wr := ⟨_, rfl⟩
        obtain ⟨j, hj, rfl, rfl, hT⟩ := hrel
        by_cases hjN : j < N
        · have hjl : j < (ls.take 40).length := by rw [HTK.out]; exact hjN
          have hin : i < m + 1 := by omega
          have HST := hid (mix_step X (n := m + 1) hin hjl)
          have HNX := hid (atM_succ (m + 1) X hjl)
          have HBD := hid (HMB.out i j (by omega))
          have hnx := (HAB.out j (by omega)).2
          have hget : (ls.take 40)[j] = ls[j] := List.getElem_take
          rw [hget] at HST HNX
          have HT := hid hT
          have E' : Ext w wz := by obtain ⟨_, _, q⟩ := hT; exact q.E
          have hnx : (atM (m + 1) X (ls.take 40) j).2 ≤ X.length := hnx
          generalize mixM (m + 1) X (ls.take 40) i j = B at HST HBD HT
          generalize atM (m + 1) X (ls.take 40) j = sA at HST HNX hnx ⊢
          have HN2 : Hid ((atM (m + 1) X (ls.take 40) (j + 1)).2 = if ls[j].length < 2 then sA.2 else if wi (ls[j].getD 0 0) 3 < 2 then (if sA.2 < X.length then sA.2 + 1 else sA.2) else sA.2) := hid (by rw [HNX.out]; exact fed1_nx)
          obtain ⟨nx, hnxe⟩ : ∃ nx, sA.2 = nx := ⟨_, rfl⟩
          rw [hnxe] at hnx HN2 HST ⊢
          clear HNX hnxe hT
          obtain ⟨bL, oL, rfl, hcL⟩ := L4.out (by omega)
          have hul : j < us.length := by have := L3.out; omega
          have cj := E'.cell (hcL j us[j] (List.getElem?_eq_getElem hul))
          have sg := (L5.out j us[j] ls[j] (List.getElem?_eq_getElem hul) (List.getElem?_eq_getElem (by omega))).ext E'
          generalize ls[j] = c at sg HST HN2
          obtain ⟨ac, kc, ec⟩ := seg_form sg
          rw [ec] at cj sg
          clear hcL hget hjl ec E'
          by_cases h2 : c.length < 2
          · have HS1 := hid (show mixM (m + 1) X (ls.take 40) i (j + 1) = B by rw [HST.out]; unfold step1; rw [if_pos h2])
            have HN3 := hid (show (atM (m + 1) X (ls.take 40) (j + 1)).2 = nx by rw [HN2.out, if_pos h2])
            go_wp2
            go_roundw
            case rel => exact ⟨j + 1, by omega, by go_num, by rw [HN3.out], by rw [HS1.out]; exact HT.out⟩
            case measure => simp [intOf] <;> omega
          · obtain ⟨bc, oc, rfl, _, p1, p2, hcc⟩ := seg_cells sg (by omega)
            unfold maxLen at p2
            have x0 := hcc 0 _ (cI_at0 c 0 (by omega))
            rw [Nat.add_zero] at x0
            have x1 := hcc 1 _ (cI_at0 c 1 (by omega))
            obtain ⟨k, hk1, hk2, hkn⟩ := wi_nat (z := c[1]) (n := m + 1) (by omega)
            have hk1' : wi c[1] ((m : Int) + 1) = (k : Int) := hk1
            have WJ0 := fun w => within_any c[1] ((m : Int) + 1) w (by omega) (by omega)
            have W30 := fun w => within_any c[0] 3 w (by omega) (by omega)
            have g1 := wi_lo (k := c[0]) (n := 3) (by omega)
            have hstep : step1 (m + 1) X i B nx c = if k = i then (if wi c[0] 3 < 2 then (if nx < X.length then (B.1, addM B.2 i (plainE (X.getD nx entZ))) else B) else (clsM B.1 i (B.2.getD i []), B.2.set i [])) else B := by
              unfold step1
              rw [if_neg h2, getD_lt (show 0 < c.length by omega), getD_lt (show 1 < c.length by omega), hk2]
            rw [hstep] at HST
            rw [if_neg h2, getD_lt (show 0 < c.length by omega)] at HN2
            rw [hk1'] at WJ0
            generalize wi c[0] 3 = z at W30 g1 HST HN2
            clear hcc hk1 hk1' hk2 hstep
            generalize c[0]'(by omega) = c0 at x0 W30
            generalize c[1]'(by omega) = c1 at x1 WJ0
            have WJ := hid WJ0
            have W3 := hid W30
            clear WJ0 W30
            by_cases hz : z < 2
            · by_cases hnl : nx < X.length
              · rw [if_pos hz, if_pos hnl] at HN2
                by_cases hki : k = i
                · subst hki
                  have qk : ((k : Int) == (k : Int)) = true := by simp
                  obtain ⟨es, o1, o2, o3⟩ : ∃ es, EntsSt wz es X ∧ Seg wz (.slice ax X.length cx) 4 X.length (cEn es) ∧ True := by
                    obtain ⟨_, _, q⟩ := HT.out
                    obtain ⟨es, a, b, _⟩ := q.xb
                    exact ⟨es, a, b, trivial⟩
                  obtain ⟨bX, oX, rfl, _, y1, y2, hcX⟩ := seg_cells o2 (by omega)
                  unfold maxLen at y2
                  have hel : nx < es.length := by have := o1.1; omega
                  obtain ⟨z0, z1, z2, z3⟩ := cEn_at es hel
                  replace z0 := hcX _ _ z0
                  replace z1 : wz.cell? ⟨bX, oX + nx * 4 + 1, none⟩ = _ := hcX _ _ z1
                  replace z2 : wz.cell? ⟨bX, oX + nx * 4 + 2, none⟩ = _ := hcX _ _ z2
                  replace z3 : wz.cell? ⟨bX, oX + nx * 4 + 3, none⟩ = _ := hcX _ _ z3
                  have hE := o1.2 nx es[nx] X[nx] (List.getElem?_eq_getElem hel) (List.getElem?_eq_getElem hnl)
                  have hxo := HX.out X[nx] (List.getElem_mem hnl)
                  rw [if_pos rfl, if_pos hz, if_pos hnl, getD_lt hnl] at HST
                  have MA := two_add HT.out HBD.out (by omega) (by rw [HTK.out]; omega) hin hE hxo
                  generalize X[nx] = x at hE MA HST
                  generalize es[nx] = e at z0 z1 z2 z3 hE MA
                  obtain ⟨v1, b1, v2', v3⟩ := e
                  dsimp only at z0 z1 z2 z3
                  obtain ⟨f1, l1', e1⟩ := own_form hE.ops
                  obtain ⟨f2, l2', e2⟩ := own_form hE.cuts
                  obtain ⟨f3, l3', e3⟩ := own_form hE.own
                  dsimp only at e1 e2 e3
                  subst e1; subst e2; subst e3
                  have MA := hid MA
                  clear hcX o1 o2 o3 hE hxo HT
                  go_wp2_with fail
                  refine (WJ.out _).mono ?_
                  rintro e w' ⟨rfl, rfl⟩
                  go_wp2_with fail
                  refine (W3.out _).mono ?_
                  rintro e w' ⟨rfl, rfl⟩
                  go_wp2_with fail
                  refine (MA.out).mono ?_
                  rintro e w4 ⟨rfl, hT4⟩
                  have R4 := hid hT4
                  clear hT4 z0 z1 z2 z3
                  go_wp2
                  go_roundw
                  case rel => exact ⟨j + 1, by omega, by go_num, by rw [HN2.out]; exact vI (by omega), by rw [HST.out]; exact R4.out⟩
                  case measure => simp [intOf] <;> omega
                · have qk : ((k : Int) == (i : Int)) = false := by simp; omega
                  rw [if_neg hki] at HST
                  go_wp2_with fail
                  refine (WJ.out _).mono ?_
                  rintro e w' ⟨rfl, rfl⟩
                  go_wp2_with fail
                  refine (W3.out _).mono ?_
                  rintro e w' ⟨rfl, rfl⟩
                  go_wp2
                  go_roundw
                  case rel => exact ⟨j + 1, by omega, by go_num, by rw [HN2.out]; exact vI (by omega), by rw [HST.out]; exact HT.out⟩
                  case measure => simp [intOf] <;> omega
              · rw [if_pos hz, if_neg hnl] at HN2
                have HS1 := hid (show mixM (m + 1) X (ls.take 40) i (j + 1) = B by
                  by_cases hh : k = i
                  · rw [HST.out, if_pos hh, if_pos hz, if_neg hnl]
                  · rw [HST.out, if_neg hh])
                go_wp2_with fail
                refine (WJ.out _).mono ?_
                rintro e w' ⟨rfl, rfl⟩
                go_wp2_with fail
                refine (W3.out _).mono ?_
                rintro e w' ⟨rfl, rfl⟩
                go_wp2
                go_roundw
                case rel => exact ⟨j + 1, by omega, by go_num, by rw [HN2.out], by rw [HS1.out]; exact HT.out⟩
                case measure => simp [intOf] <;> omega
            · rw [if_neg hz] at HN2
              by_cases hki : k = i
              · subst hki
                have qk : ((k : Int) == (k : Int)) = true := by simp
                rw [if_pos rfl, if_neg hz] at HST
                have MC := hid (two_close HT.out HBD.out (by rw [HTK.out]; omega) hin)
                clear HT
                go_wp2_with fail
                refine (WJ.out _).mono ?_
                rintro e w' ⟨rfl, rfl⟩
                go_wp2_with fail
                refine (W3.out _).mono ?_
                rintro e w' ⟨rfl, rfl⟩
                go_wp2_with fail
                refine (MC.out).mono ?_
                rintro e w4 ⟨z4, rfl, hT4⟩
                have R4 := hid hT4
                clear hT4
                go_wp2
                go_roundw
                case rel => exact ⟨j + 1, by omega, by go_num, by rw [HN2.out], by rw [HST.out]; exact R4.out⟩
                case measure => simp [intOf] <;> omega
              · have qk : ((k : Int) == (i : Int)) = false := by simp; omega
                rw [if_neg hki] at HST
                go_wp2_with fail
                refine (WJ.out _).mono ?_
                rintro e w' ⟨rfl, rfl⟩
                go_wp2_with fail
                refine (W3.out _).mono ?_
                rintro e w' ⟨rfl, rfl⟩
                go_wp2
                go_roundw
                case rel => exact ⟨j + 1, by omega, by go_num, by rw [HN2.out], by rw [HST.out]; exact HT.out⟩
                case measure => simp [intOf] <;> omega
        · obtain rfl : j = N := by omega
          have HTT := hid (show TwoS w ba bb (m + 1) A (stB (m + 1) X (ls.take 40) i) (.slice ax X.length cx) X wz by rw [stB_step, HTK.out]; exact hT)
          clear hT
          go_wp2
          go_roundw
          case rel => exact ⟨i, (i : Int) - 1, by omega, by go_num, rfl, HTT.out⟩
          case measure => simp [intOf] <;> omega
end Go.Proofs.Ytijcckhkofkenaa
