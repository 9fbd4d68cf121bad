/- Contracts and lemmas for the proof of MergePlays; each theorem states its own conditions. -/
import Derived.Test.YtddghaoejnbkaaaDoorQMergePlaysbp
set_option linter.unusedVariables false
set_option linter.unusedSimpArgs false
/- Contracts and lemmas for the proofs of this seat; each theorem states its own conditions. -/
namespace Go.Proofs.YtddghaoejnbkaaaDoor
open Go.RowKit
/-! roref.Merge: Add -/
theorem len_cntB {X : Bat} : ∀ {l : List Bat}, X ∈ l → X.length ≤ cntB l
  | [], h => by simp at h
  | Y :: l, h => by
    rcases List.mem_cons.1 h with rfl | h
    · simp [cntB]
    · have := len_cntB h
      simp [cntB] at this ⊢
      omega
set_option maxRecDepth 100000 in
set_option maxHeartbeats 8000000 in
theorem rmadd_ok {w : World} {S P : Nat → Prop} {bm : Nat} {bs : List (List Bat)} (h : RMS w S P bm bs) (i : Nat) (hi : i < bs.length) (e : EV) (x : Ent) (hx : EntP w P e x) (sz : EntSz x) (hok : entE x = 0) (hcnt : cntTo bs bs.length ≤ 100000) :
    Calls Tryd.prog 11 #[.pointer (some ⟨bm, 0, none⟩), .int .i64 i, evV e] w fun r w' => AddR w S P bm bs i (cntTo bs bs.length) x r w' := by
  have EN := fun w' (q : Ext w w') => rentry_any e x w' (hx.seg.ext q) sz
  rw [hok] at EN
  have EN := hid EN
  have IS := fun w' (q : Ext w w') => rmis_any (h.ext q) i
  rw [show (decide ((0 : Int) ≤ (i : Int)) && decide ((i : Int) ≤ (bs.length : Int) - 1)) = true by
    rw [Bool.and_eq_true]; exact ⟨by simp, by simp; omega⟩] at IS
  have IS := hid IS
  have BE := hid (fun w' (q : Ext w w') => bareE_any e x w' (hx.seg.ext q))
  have HBP := hid (bareV_P hx)
  obtain ⟨vB, us, h⟩ := h
  have H := hid h
  have hb := blk1 h.box
  have h4 := h.n4
  have hl := h.ln
  have hiu : i < us.length := by omega
  obtain ⟨a, c, e0⟩ := own_form h.outer
  subst e0
  obtain ⟨bo, rfl, _, _, p1, p2⟩ := own_pos h.outer (by omega)
  obtain ⟨_, _, e1, _, _, _, hcs⟩ := seg_cells (own_seg h.outer) (by omega)
  injection e1 with e1; injection e1 with e1 e2
  subst e1; subst e2
  unfold maxLen at p2
  have HC := hid hcs
  have cb := hb.1
  -- the entry's box
  obtain ⟨v1, b, v2, v3⟩ := e
  have hsg := hx.seg
  obtain ⟨f1, g1, e1⟩ := seg_form hsg.ops
  obtain ⟨f2, g2, e2⟩ := seg_form hsg.cuts
  obtain ⟨f3, g3, e3⟩ := seg_form hsg.own
  dsimp only at e1 e2 e3
  subst e1; subst e2; subst e3
  obtain ⟨y, hy⟩ : ∃ y : EV, bareV (.slice f1 x.ops.length g1, b, .slice f2 x.cuts.length g2, .slice f3 x.own.length g3) = y := ⟨_, rfl⟩
  have hbp := HBP.out
  have be : ∀ w', Ext w w' → Calls Tryd.prog 28 #[.agg #[.slice f1 x.ops.length g1, .bool b, .slice f2 x.cuts.length g2, .slice f3 x.own.length g3]] w' fun r w'' => r = .returned (evV (bareV (.slice f1 x.ops.length g1, b, .slice f2 x.cuts.length g2, .slice f3 x.own.length g3))) ∧ Ext w' w'' := BE.out
  rw [hy] at hbp be
  clear hy HBP BE
  obtain ⟨y1, yb, y2, y3⟩ := y
  obtain ⟨ya1, yk1, e1⟩ := seg_form hbp.seg.ops
  obtain ⟨ya2, yk2, e2⟩ := seg_form hbp.seg.cuts
  obtain ⟨ya3, yk3, e3⟩ := seg_form hbp.seg.own
  dsimp only at e1 e2 e3
  subst e1; subst e2; subst e3
  have HBP := hid hbp
  have BE := hid (show ∀ w', Ext w w' → Calls Tryd.prog 28 #[.agg #[.slice f1 x.ops.length g1, .bool b, .slice f2 x.cuts.length g2, .slice f3 x.own.length g3]] w' fun r w'' => r = .returned (.agg #[.slice ya1 (halfE x).ops.length yk1, .bool yb, .slice ya2 (halfE x).cuts.length yk2, .slice ya3 (halfE x).own.length yk3]) ∧ Ext w' w'' from be)
  clear be hbp
  have EA := (Ext.refl w).alloc (.cells #[.slice f1 x.ops.length g1, .bool b, .slice f2 x.cuts.length g2, .slice f3 x.own.length g3] 41)
  have bx := heap_alloc_new w (.cells #[.slice f1 x.ops.length g1, .bool b, .slice f2 x.cuts.length g2, .slice f3 x.own.length g3] 41)
  obtain ⟨wA, hwA⟩ : ∃ wA, w.alloc (.cells #[.slice f1 x.ops.length g1, .bool b, .slice f2 x.cuts.length g2, .slice f3 x.own.length g3] 41) = wA := ⟨_, rfl⟩
  obtain ⟨bxx, hbxx⟩ : ∃ bxx, w.heap.size = bxx := ⟨_, rfl⟩
  rw [hwA] at EA bx
  rw [hbxx] at bx
  have k0 := blk4 bx
  have HBX := hid bx
  have HEA := hid EA
  have HSZ := hid hbxx
  have IS1 := hid (IS.out wA EA)
  have EN1 := hid (EN.out wA EA)
  -- the row
  have hu : us[i]? = some us[i] := List.getElem?_eq_getElem hiu
  have hbl : bs[i]? = some bs[i] := List.getElem?_eq_getElem hi
  obtain ⟨ts, t1, t2, t3, t4, t5⟩ := h.rows i us[i] bs[i] hu hbl
  have c1 := hcs i us[i] hu
  rw [Nat.zero_add] at c1
  have hg : bs.getD i [] = bs[i] := by simp [hi]
  have HU := hid (And.intro hu hbl)
  have HG := hid hg
  generalize us[i] = u at c1 t1 HU
  generalize bs[i] = l at t1 t2 t3 t4 HU HG
  obtain ⟨m, hm⟩ : ∃ m, l.length = m + 1 := ⟨l.length - 1, by omega⟩
  obtain ⟨a2, cu, e0⟩ := own_form t1
  subst e0
  obtain ⟨bu, rfl, _, _, r1, r2⟩ := own_pos t1 (by omega)
  obtain ⟨_, _, e1, _, _, _, hcr⟩ := seg_cells (own_seg t1) (by omega)
  injection e1 with e1; injection e1 with e1 e2
  subst e1; subst e2
  unfold maxLen at r2
  have htl : m < ts.length := by have := t1.1; omega
  have hml : m < l.length := by omega
  have c2 := hcr m ts[m] (List.getElem?_eq_getElem htl)
  rw [Nat.zero_add] at c2
  obtain ⟨es, s1, s2, s3, s4⟩ := t2 m ts[m] l[m] (List.getElem?_eq_getElem htl) (List.getElem?_eq_getElem hml)
  have HLM := hid (show l.getD m [] = l[m] by simp [hml])
  generalize ts[m] = t at c2 s2 s3
  generalize l[m] = X at s1 s2 s4 HLM
  obtain ⟨a3, c3, e0⟩ := seg_form s2
  subst e0
  have HES := hid (And.intro s1 (And.intro s3 s4))
  have hone := ents_one s1 (fun j e x a b => (s4 j e x a b).seg)
  have hXc : X.length ≤ 100000 := by
    have h1 := cntTo_le bs (j := i + 1) (k := bs.length) (by omega)
    rw [cntTo, HG.out] at h1
    have h2 : X.length ≤ cntB l := by
      exact len_cntB (show X ∈ l by rw [← HLM.out]; simp [hml])
    omega
  have HT1 := hid t1
  have HS2 := hid s2
  have HML := hid hm
  rw [hm] at c1
  obtain ⟨N, hN⟩ : ∃ N, us.length = N := ⟨_, rfl⟩
  have HN := hid hN
  rw [hN] at cb p1 hiu
  have hNb : N = bs.length := by omega
  have HNB := hid hNb
  have hN4 : N ≤ 4 := by omega
  have qk : ((m + 1 : Nat) : Int) - 1 = (m : Int) := by omega
  have hm60 : m ≤ 60 := by omega
  clear h hl hcs hb hg hu hbl t1 t2 t5 hcr s1 s2 s3 s4 hsg EA bx IS EN hx hm hN hNb t3 t4
  show Calls _ _ #[.pointer (some ⟨bm, 0, none⟩), .int .i64 i, .agg #[.slice f1 x.ops.length g1, .bool b, .slice f2 x.cuts.length g2, .slice f3 x.own.length g3]] _ _
  go_enter Tryd.func11, Tryd.ntmps11
  go_wp2_with fail
  refine (IS1.out).mono ?_
  clear IS1
  rintro r w1 ⟨rfl, rfl⟩
  obtain ⟨wA, rfl⟩ : ∃ wz : World, wz = w1 := ⟨_, rfl⟩
  go_wp2_with fail
  refine (EN1.out).mono ?_
  clear EN1
  rintro r w2 ⟨rfl, E2⟩
  have HE2 := hid (HEA.out.trans E2)
  have HEb := hid E2
  have cb2 := HE2.out.cell cb
  clear E2 k0
  go_wp2_with fail
  go_loopw [8, 10, 26] (fun nv _ iv wr => ∃ k : Nat, k ≤ N ∧ iv = .int .i64 k ∧ nv = .int .i64 (cntTo bs k) ∧ Ext w2 wr) (fun _ _ iv _ => N - (intOf iv).toNat)
  case atStart => exact ⟨0, Nat.zero_le _, rfl, rfl, Ext.refl _⟩
  case round =>
    clear cb2
    obtain ⟨wq, rfl⟩ : ∃ wq : World, wq = wr := ⟨_, rfl⟩
    obtain ⟨k, hk, rfl, rfl, E⟩ := hrel
    have hle := cntTo_le bs (j := k) (k := bs.length) (by rw [← HNB.out]; exact hk)
    by_cases hkl : k < N
    · have hku : k < us.length := by rw [HN.out]; exact hkl
      have hkb : k < bs.length := by rw [← HNB.out]; exact hkl
      have E0q := HE2.out.trans E
      have d1 := E0q.cell (HC.out k us[k] (List.getElem?_eq_getElem hku))
      rw [Nat.zero_add] at d1
      obtain ⟨ts', t1, t2, t3, t4, _⟩ := H.out.rows k us[k] bs[k] (List.getElem?_eq_getElem hku) (List.getElem?_eq_getElem hkb)
      have htl' : ts'.length = bs[k].length := by have := t1.1; omega
      obtain ⟨L, l1, l2, l3, l5⟩ := ents_lists ts' bs[k] htl' t2
      have HST := hid (show cntTo bs (k + 1) = cntTo bs k + cntB bs[k] by rw [cntTo]; simp [hkb])
      have hle2 := cntTo_le bs (j := k + 1) (k := bs.length) (by omega)
      rw [HST.out] at hle2
      generalize us[k] = u' at d1 t1
      generalize cntB bs[k] = q at l5 HST hle2
      generalize bs[k].length = n' at t1 htl' t4
      obtain ⟨a9, k9, rfl⟩ := own_form t1
      have CC := concat_Ent (.slice a9 n' k9) ts' L wq (by rw [htl']; exact (own_seg t1).ext E0q) (by omega) (by omega) (fun j u p a b => (l2 j u p a b).ext E0q) l3 (by rw [l5]; omega)
      rw [l5] at CC
      have CC := hid CC
      have HE := hid E
      have z1 : ¬ 9223372036854775807 < cntTo bs k + q := by omega
      generalize cntTo bs k = s at *
      clear t1 t2 l1 l2 l3 l5 E0q E
      go_wp2_with fail
      refine (CC.out).mono ?_
      clear CC
      rintro r w3 ⟨v', rfl, o3, E3⟩
      obtain ⟨a4, k4, rfl⟩ := own_form o3
      clear o3
      go_wp2
      go_roundw
      case rel => exact ⟨k + 1, by omega, by go_num, by rw [HST.out]; go_num, HE.out.trans E3⟩
      case measure => simp [intOf] <;> omega
    · obtain rfl : k = N := by omega
      have HEq := hid (HE2.out.trans E)
      have HEq2 := hid (HEb.out.trans E)
      have e1 : cntTo bs k = cntTo bs bs.length := by rw [HNB.out]
      rw [e1]
      obtain ⟨M, hM⟩ : ∃ M, cntTo bs bs.length = M := ⟨_, rfl⟩
      rw [hM] at hcnt hle ⊢
      have HM := hid hM
      by_cases hfull : 59 < M
      · have q : (59 : Int) < (M : Int) := by omega
        have HF := hid hfull
        clear E hM e1 hle
        go_wp2
        go_ret
        exact .inl ⟨by rw [HM.out]; exact HF.out, rfl, HEq.out⟩
      · have q : ¬ (59 : Int) < (M : Int) := by omega
        have q1 : decide ((59 : Int) < (M : Int)) = false := decide_eq_false q
        have HF := hid hfull
        have x8 := blk4 (HEq2.out.heap HBX.out)
        have cb := HEq.out.cell cb
        have c1 := HEq.out.cell c1
        have c2 := HEq.out.cell c2
        clear E hM e1 hle hfull
        go_wp2_with fail
        refine wp_region_pm (by kernel_rfl) (by kernel_rfl) (fun ii => match ii with | 0 => some (.pointer (some ⟨bm, 0, none⟩)) | 1 => some (.pointer (some ⟨bm, 0, none⟩)) | 2 => some (.pointer (some ⟨bm, 0, none⟩)) | 3 => some (.slice (some ⟨bo, 0, none⟩) k c) | 4 => some (.int .i64 i) | 5 => some (.pointer (some ⟨bo, i, none⟩)) | 6 => some (.slice (some ⟨bu, 0, none⟩) (m + 1) cu) | 7 => some (.int .i64 m) | 8 => some (.pointer (some ⟨bm, 0, none⟩)) | 9 => some (.pointer (some ⟨bm, 0, none⟩)) | 10 => some (.pointer (some ⟨bm, 0, none⟩)) | 11 => some (.slice (some ⟨bo, 0, none⟩) k c) | 12 => some (.int .i64 i) | 13 => some (.pointer (some ⟨bo, i, none⟩)) | 14 => some (.slice (some ⟨bu, 0, none⟩) (m + 1) cu) | 15 => some (.int .i64 m) | 16 => some (.pointer (some ⟨bu, m, none⟩)) | 17 => some (.slice a3 X.length c3) | 19 => some (.agg #[.slice f1 x.ops.length g1, .bool b, .slice f2 x.cuts.length g2, .slice f3 x.own.length g3]) | 20 => some (.agg #[.slice ya1 (halfE x).ops.length yk1, .bool yb, .slice ya2 (halfE x).cuts.length yk2, .slice ya3 (halfE x).own.length yk3]) | 23 => some (.pointer (some ⟨bu, m, none⟩)) | _ => none) 18 21 22 24 (by decide) (by kernel_rfl) (by kernel_rfl) (by kernel_rfl) (by kernel_rfl) (fun w' => Ext wq w') (fun w' => Ext wq w') (fun v w' => NewR wq X.length es v w') (fun v w' => NewC #[.slice ya1 (halfE x).ops.length yk1, .bool yb, .slice ya2 (halfE x).cuts.length yk2, .slice ya3 (halfE x).own.length yk3] 41 1 v w') (fun v w' => AddM wq X.length es (.slice ya1 (halfE x).ops.length yk1, yb, .slice ya2 (halfE x).cuts.length yk2, .slice ya3 (halfE x).own.length yk3) v w') (fun w' => StoA wq X.length es (.slice ya1 (halfE x).ops.length yk1, yb, .slice ya2 (halfE x).cuts.length yk2, .slice ya3 (halfE x).own.length yk3) bu m w') ?st0 ?stp ?stq ?st1 ?k0 ?k1 ?h0 ?hs ?he
        case hs =>
          refine ⟨?s0, ?s1, ?s2, ?s3, ?s4, ?s5, ?s6, ?s7, ?s8, ?s9, ?s10, ?s11, ?s12, ?s13, ?s14, ?s15, ?s16, ?s17, ?sp, ?s19, ?s20, ?sq, ?sm, ?s23, ?sz, trivial⟩
          case s0 =>
            intro x w' hd
            try simp [Region.binds] at hd
            refine ⟨fun _ _ _ _ hK => ?_, fun h => absurd h (by decide), fun h => absurd h (by decide), fun h => absurd h (by decide), fun h => absurd h (by decide)⟩
            have hE : Ext wq w' := hK
            have d1 := hE.cell cb
            have d2 := hE.cell c1
            have d3 := hE.cell c2
            have d4 := hE.cell x8.1
            have d5 := hE.cell x8.2.1
            have d6 := hE.cell x8.2.2.1
            have d7 := hE.cell x8.2.2.2
            unfold TPost
            first | simp only [frL, List.length_cons, List.length_nil, List.take_succ_cons, List.take_zero, Nat.reduceAdd, Nat.zero_add, List.setIfInBounds_toArray, List.set_cons_zero, List.set_cons_succ, hd] | simp only [frL, List.length_cons, List.length_nil, List.take_succ_cons, List.take_zero, Nat.reduceAdd, Nat.zero_add, List.setIfInBounds_toArray, List.set_cons_zero, List.set_cons_succ]
            go_wp2_with (first | ((with_reducible refine (BE.out _ (HEq.out.trans hE)).mono ?_); rintro r w9 ⟨rfl, E9⟩))
            all_goals first | (with_reducible exact Ext.refl _) | exact ⟨rfl, _, rfl, (fun u hu => by simpa using hu), (by (repeat (first | (with_reducible assumption) | (with_reducible exact Ext.refl _) | (with_reducible refine Ext.drew ?_) | (with_reducible refine Ext.drewN ?_ _) | (with_reducible refine Ext.alloc ?_ _) | (with_reducible refine Ext.trans ?_ (by with_reducible assumption)))))⟩ | (with_reducible exact (by (repeat (first | (with_reducible assumption) | (with_reducible exact Ext.refl _) | (with_reducible refine Ext.drew ?_) | (with_reducible refine Ext.drewN ?_ _) | (with_reducible refine Ext.alloc ?_ _) | (with_reducible refine Ext.trans ?_ (by with_reducible assumption))))))
          case s1 =>
            intro x w' hd
            try simp [Region.binds] at hd
            refine ⟨fun _ _ _ _ hK => ?_, fun h => absurd h (by decide), fun h => absurd h (by decide), fun h => absurd h (by decide), fun h => absurd h (by decide)⟩
            have hE : Ext wq w' := hK
            have d1 := hE.cell cb
            have d2 := hE.cell c1
            have d3 := hE.cell c2
            have d4 := hE.cell x8.1
            have d5 := hE.cell x8.2.1
            have d6 := hE.cell x8.2.2.1
            have d7 := hE.cell x8.2.2.2
            unfold TPost
            first | simp only [frL, List.length_cons, List.length_nil, List.take_succ_cons, List.take_zero, Nat.reduceAdd, Nat.zero_add, List.setIfInBounds_toArray, List.set_cons_zero, List.set_cons_succ, hd] | simp only [frL, List.length_cons, List.length_nil, List.take_succ_cons, List.take_zero, Nat.reduceAdd, Nat.zero_add, List.setIfInBounds_toArray, List.set_cons_zero, List.set_cons_succ]
            go_wp2_with (first | ((with_reducible refine (BE.out _ (HEq.out.trans hE)).mono ?_); rintro r w9 ⟨rfl, E9⟩))
            all_goals first | (with_reducible exact Ext.refl _) | exact ⟨rfl, _, rfl, (fun u hu => by simpa using hu), (by (repeat (first | (with_reducible assumption) | (with_reducible exact Ext.refl _) | (with_reducible refine Ext.drew ?_) | (with_reducible refine Ext.drewN ?_ _) | (with_reducible refine Ext.alloc ?_ _) | (with_reducible refine Ext.trans ?_ (by with_reducible assumption)))))⟩ | (with_reducible exact (by (repeat (first | (with_reducible assumption) | (with_reducible exact Ext.refl _) | (with_reducible refine Ext.drew ?_) | (with_reducible refine Ext.drewN ?_ _) | (with_reducible refine Ext.alloc ?_ _) | (with_reducible refine Ext.trans ?_ (by with_reducible assumption))))))
          case s2 =>
            intro x w' hd
            try simp [Region.binds] at hd
            refine ⟨fun _ _ _ _ hK => ?_, fun h => absurd h (by decide), fun h => absurd h (by decide), fun h => absurd h (by decide), fun h => absurd h (by decide)⟩
            have hE : Ext wq w' := hK
            have d1 := hE.cell cb
            have d2 := hE.cell c1
            have d3 := hE.cell c2
            have d4 := hE.cell x8.1
            have d5 := hE.cell x8.2.1
            have d6 := hE.cell x8.2.2.1
            have d7 := hE.cell x8.2.2.2
            unfold TPost
            first | simp only [frL, List.length_cons, List.length_nil, List.take_succ_cons, List.take_zero, Nat.reduceAdd, Nat.zero_add, List.setIfInBounds_toArray, List.set_cons_zero, List.set_cons_succ, hd] | simp only [frL, List.length_cons, List.length_nil, List.take_succ_cons, List.take_zero, Nat.reduceAdd, Nat.zero_add, List.setIfInBounds_toArray, List.set_cons_zero, List.set_cons_succ]
            go_wp2_with (first | ((with_reducible refine (BE.out _ (HEq.out.trans hE)).mono ?_); rintro r w9 ⟨rfl, E9⟩))
            all_goals first | (with_reducible exact Ext.refl _) | exact ⟨rfl, _, rfl, (fun u hu => by simpa using hu), (by (repeat (first | (with_reducible assumption) | (with_reducible exact Ext.refl _) | (with_reducible refine Ext.drew ?_) | (with_reducible refine Ext.drewN ?_ _) | (with_reducible refine Ext.alloc ?_ _) | (with_reducible refine Ext.trans ?_ (by with_reducible assumption)))))⟩ | (with_reducible exact (by (repeat (first | (with_reducible assumption) | (with_reducible exact Ext.refl _) | (with_reducible refine Ext.drew ?_) | (with_reducible refine Ext.drewN ?_ _) | (with_reducible refine Ext.alloc ?_ _) | (with_reducible refine Ext.trans ?_ (by with_reducible assumption))))))
          case s3 =>
            intro x w' hd
            try simp [Region.binds] at hd
            refine ⟨fun _ _ _ _ hK => ?_, fun h => absurd h (by decide), fun h => absurd h (by decide), fun h => absurd h (by decide), fun h => absurd h (by decide)⟩
            have hE : Ext wq w' := hK
            have d1 := hE.cell cb
            have d2 := hE.cell c1
            have d3 := hE.cell c2
            have d4 := hE.cell x8.1
            have d5 := hE.cell x8.2.1
            have d6 := hE.cell x8.2.2.1
            have d7 := hE.cell x8.2.2.2
            unfold TPost
            first | simp only [frL, List.length_cons, List.length_nil, List.take_succ_cons, List.take_zero, Nat.reduceAdd, Nat.zero_add, List.setIfInBounds_toArray, List.set_cons_zero, List.set_cons_succ, hd] | simp only [frL, List.length_cons, List.length_nil, List.take_succ_cons, List.take_zero, Nat.reduceAdd, Nat.zero_add, List.setIfInBounds_toArray, List.set_cons_zero, List.set_cons_succ]
            go_wp2_with (first | ((with_reducible refine (BE.out _ (HEq.out.trans hE)).mono ?_); rintro r w9 ⟨rfl, E9⟩))
            all_goals first | (with_reducible exact Ext.refl _) | exact ⟨rfl, _, rfl, (fun u hu => by simpa using hu), (by (repeat (first | (with_reducible assumption) | (with_reducible exact Ext.refl _) | (with_reducible refine Ext.drew ?_) | (with_reducible refine Ext.drewN ?_ _) | (with_reducible refine Ext.alloc ?_ _) | (with_reducible refine Ext.trans ?_ (by with_reducible assumption)))))⟩ | (with_reducible exact (by (repeat (first | (with_reducible assumption) | (with_reducible exact Ext.refl _) | (with_reducible refine Ext.drew ?_) | (with_reducible refine Ext.drewN ?_ _) | (with_reducible refine Ext.alloc ?_ _) | (with_reducible refine Ext.trans ?_ (by with_reducible assumption))))))
          case s4 =>
            intro x w' hd
            try simp [Region.binds] at hd
            refine ⟨fun _ _ _ _ hK => ?_, fun h => absurd h (by decide), fun h => absurd h (by decide), fun h => absurd h (by decide), fun h => absurd h (by decide)⟩
            have hE : Ext wq w' := hK
            have d1 := hE.cell cb
            have d2 := hE.cell c1
            have d3 := hE.cell c2
            have d4 := hE.cell x8.1
            have d5 := hE.cell x8.2.1
            have d6 := hE.cell x8.2.2.1
            have d7 := hE.cell x8.2.2.2
            unfold TPost
            first | simp only [frL, List.length_cons, List.length_nil, List.take_succ_cons, List.take_zero, Nat.reduceAdd, Nat.zero_add, List.setIfInBounds_toArray, List.set_cons_zero, List.set_cons_succ, hd] | simp only [frL, List.length_cons, List.length_nil, List.take_succ_cons, List.take_zero, Nat.reduceAdd, Nat.zero_add, List.setIfInBounds_toArray, List.set_cons_zero, List.set_cons_succ]
            go_wp2_with (first | ((with_reducible refine (BE.out _ (HEq.out.trans hE)).mono ?_); rintro r w9 ⟨rfl, E9⟩))
            all_goals first | (with_reducible exact Ext.refl _) | exact ⟨rfl, _, rfl, (fun u hu => by simpa using hu), (by (repeat (first | (with_reducible assumption) | (with_reducible exact Ext.refl _) | (with_reducible refine Ext.drew ?_) | (with_reducible refine Ext.drewN ?_ _) | (with_reducible refine Ext.alloc ?_ _) | (with_reducible refine Ext.trans ?_ (by with_reducible assumption)))))⟩ | (with_reducible exact (by (repeat (first | (with_reducible assumption) | (with_reducible exact Ext.refl _) | (with_reducible refine Ext.drew ?_) | (with_reducible refine Ext.drewN ?_ _) | (with_reducible refine Ext.alloc ?_ _) | (with_reducible refine Ext.trans ?_ (by with_reducible assumption))))))
          case s5 =>
            intro x w' hd
            try simp [Region.binds] at hd
            refine ⟨fun _ _ _ _ hK => ?_, fun h => absurd h (by decide), fun h => absurd h (by decide), fun h => absurd h (by decide), fun h => absurd h (by decide)⟩
            have hE : Ext wq w' := hK
            have d1 := hE.cell cb
            have d2 := hE.cell c1
            have d3 := hE.cell c2
            have d4 := hE.cell x8.1
            have d5 := hE.cell x8.2.1
            have d6 := hE.cell x8.2.2.1
            have d7 := hE.cell x8.2.2.2
            unfold TPost
            first | simp only [frL, List.length_cons, List.length_nil, List.take_succ_cons, List.take_zero, Nat.reduceAdd, Nat.zero_add, List.setIfInBounds_toArray, List.set_cons_zero, List.set_cons_succ, hd] | simp only [frL, List.length_cons, List.length_nil, List.take_succ_cons, List.take_zero, Nat.reduceAdd, Nat.zero_add, List.setIfInBounds_toArray, List.set_cons_zero, List.set_cons_succ]
            go_wp2_with (first | ((with_reducible refine (BE.out _ (HEq.out.trans hE)).mono ?_); rintro r w9 ⟨rfl, E9⟩))
            all_goals first | (with_reducible exact Ext.refl _) | exact ⟨rfl, _, rfl, (fun u hu => by simpa using hu), (by (repeat (first | (with_reducible assumption) | (with_reducible exact Ext.refl _) | (with_reducible refine Ext.drew ?_) | (with_reducible refine Ext.drewN ?_ _) | (with_reducible refine Ext.alloc ?_ _) | (with_reducible refine Ext.trans ?_ (by with_reducible assumption)))))⟩ | (with_reducible exact (by (repeat (first | (with_reducible assumption) | (with_reducible exact Ext.refl _) | (with_reducible refine Ext.drew ?_) | (with_reducible refine Ext.drewN ?_ _) | (with_reducible refine Ext.alloc ?_ _) | (with_reducible refine Ext.trans ?_ (by with_reducible assumption))))))
          case s6 =>
            intro x w' hd
            try simp [Region.binds] at hd
            refine ⟨fun _ _ _ _ hK => ?_, fun h => absurd h (by decide), fun h => absurd h (by decide), fun h => absurd h (by decide), fun h => absurd h (by decide)⟩
            have hE : Ext wq w' := hK
            have d1 := hE.cell cb
            have d2 := hE.cell c1
            have d3 := hE.cell c2
            have d4 := hE.cell x8.1
            have d5 := hE.cell x8.2.1
            have d6 := hE.cell x8.2.2.1
            have d7 := hE.cell x8.2.2.2
            unfold TPost
            first | simp only [frL, List.length_cons, List.length_nil, List.take_succ_cons, List.take_zero, Nat.reduceAdd, Nat.zero_add, List.setIfInBounds_toArray, List.set_cons_zero, List.set_cons_succ, hd] | simp only [frL, List.length_cons, List.length_nil, List.take_succ_cons, List.take_zero, Nat.reduceAdd, Nat.zero_add, List.setIfInBounds_toArray, List.set_cons_zero, List.set_cons_succ]
            go_wp2_with (first | ((with_reducible refine (BE.out _ (HEq.out.trans hE)).mono ?_); rintro r w9 ⟨rfl, E9⟩))
            all_goals first | (with_reducible exact Ext.refl _) | exact ⟨rfl, _, rfl, (fun u hu => by simpa using hu), (by (repeat (first | (with_reducible assumption) | (with_reducible exact Ext.refl _) | (with_reducible refine Ext.drew ?_) | (with_reducible refine Ext.drewN ?_ _) | (with_reducible refine Ext.alloc ?_ _) | (with_reducible refine Ext.trans ?_ (by with_reducible assumption)))))⟩ | (with_reducible exact (by (repeat (first | (with_reducible assumption) | (with_reducible exact Ext.refl _) | (with_reducible refine Ext.drew ?_) | (with_reducible refine Ext.drewN ?_ _) | (with_reducible refine Ext.alloc ?_ _) | (with_reducible refine Ext.trans ?_ (by with_reducible assumption))))))
          case s7 =>
            intro x w' hd
            try simp [Region.binds] at hd
            refine ⟨fun _ _ _ _ hK => ?_, fun h => absurd h (by decide), fun h => absurd h (by decide), fun h => absurd h (by decide), fun h => absurd h (by decide)⟩
            have hE : Ext wq w' := hK
            have d1 := hE.cell cb
            have d2 := hE.cell c1
            have d3 := hE.cell c2
            have d4 := hE.cell x8.1
            have d5 := hE.cell x8.2.1
            have d6 := hE.cell x8.2.2.1
            have d7 := hE.cell x8.2.2.2
            unfold TPost
            first | simp only [frL, List.length_cons, List.length_nil, List.take_succ_cons, List.take_zero, Nat.reduceAdd, Nat.zero_add, List.setIfInBounds_toArray, List.set_cons_zero, List.set_cons_succ, hd] | simp only [frL, List.length_cons, List.length_nil, List.take_succ_cons, List.take_zero, Nat.reduceAdd, Nat.zero_add, List.setIfInBounds_toArray, List.set_cons_zero, List.set_cons_succ]
            go_wp2_with (first | ((with_reducible refine (BE.out _ (HEq.out.trans hE)).mono ?_); rintro r w9 ⟨rfl, E9⟩))
            all_goals first | (with_reducible exact Ext.refl _) | exact ⟨rfl, _, rfl, (fun u hu => by simpa using hu), (by (repeat (first | (with_reducible assumption) | (with_reducible exact Ext.refl _) | (with_reducible refine Ext.drew ?_) | (with_reducible refine Ext.drewN ?_ _) | (with_reducible refine Ext.alloc ?_ _) | (with_reducible refine Ext.trans ?_ (by with_reducible assumption)))))⟩ | (with_reducible exact (by (repeat (first | (with_reducible assumption) | (with_reducible exact Ext.refl _) | (with_reducible refine Ext.drew ?_) | (with_reducible refine Ext.drewN ?_ _) | (with_reducible refine Ext.alloc ?_ _) | (with_reducible refine Ext.trans ?_ (by with_reducible assumption))))))
          case s8 =>
            intro x w' hd
            try simp [Region.binds] at hd
            refine ⟨fun _ _ _ _ hK => ?_, fun h => absurd h (by decide), fun h => absurd h (by decide), fun h => absurd h (by decide), fun h => absurd h (by decide)⟩
            have hE : Ext wq w' := hK
            have d1 := hE.cell cb
            have d2 := hE.cell c1
            have d3 := hE.cell c2
            have d4 := hE.cell x8.1
            have d5 := hE.cell x8.2.1
            have d6 := hE.cell x8.2.2.1
            have d7 := hE.cell x8.2.2.2
            unfold TPost
            first | simp only [frL, List.length_cons, List.length_nil, List.take_succ_cons, List.take_zero, Nat.reduceAdd, Nat.zero_add, List.setIfInBounds_toArray, List.set_cons_zero, List.set_cons_succ, hd] | simp only [frL, List.length_cons, List.length_nil, List.take_succ_cons, List.take_zero, Nat.reduceAdd, Nat.zero_add, List.setIfInBounds_toArray, List.set_cons_zero, List.set_cons_succ]
            go_wp2_with (first | ((with_reducible refine (BE.out _ (HEq.out.trans hE)).mono ?_); rintro r w9 ⟨rfl, E9⟩))
            all_goals first | (with_reducible exact Ext.refl _) | exact ⟨rfl, _, rfl, (fun u hu => by simpa using hu), (by (repeat (first | (with_reducible assumption) | (with_reducible exact Ext.refl _) | (with_reducible refine Ext.drew ?_) | (with_reducible refine Ext.drewN ?_ _) | (with_reducible refine Ext.alloc ?_ _) | (with_reducible refine Ext.trans ?_ (by with_reducible assumption)))))⟩ | (with_reducible exact (by (repeat (first | (with_reducible assumption) | (with_reducible exact Ext.refl _) | (with_reducible refine Ext.drew ?_) | (with_reducible refine Ext.drewN ?_ _) | (with_reducible refine Ext.alloc ?_ _) | (with_reducible refine Ext.trans ?_ (by with_reducible assumption))))))
          case s9 =>
            intro x w' hd
            try simp [Region.binds] at hd
            refine ⟨fun _ _ _ _ hK => ?_, fun h => absurd h (by decide), fun h => absurd h (by decide), fun h => absurd h (by decide), fun h => absurd h (by decide)⟩
            have hE : Ext wq w' := hK
            have d1 := hE.cell cb
            have d2 := hE.cell c1
            have d3 := hE.cell c2
            have d4 := hE.cell x8.1
            have d5 := hE.cell x8.2.1
            have d6 := hE.cell x8.2.2.1
            have d7 := hE.cell x8.2.2.2
            unfold TPost
            first | simp only [frL, List.length_cons, List.length_nil, List.take_succ_cons, List.take_zero, Nat.reduceAdd, Nat.zero_add, List.setIfInBounds_toArray, List.set_cons_zero, List.set_cons_succ, hd] | simp only [frL, List.length_cons, List.length_nil, List.take_succ_cons, List.take_zero, Nat.reduceAdd, Nat.zero_add, List.setIfInBounds_toArray, List.set_cons_zero, List.set_cons_succ]
            go_wp2_with (first | ((with_reducible refine (BE.out _ (HEq.out.trans hE)).mono ?_); rintro r w9 ⟨rfl, E9⟩))
            all_goals first | (with_reducible exact Ext.refl _) | exact ⟨rfl, _, rfl, (fun u hu => by simpa using hu), (by (repeat (first | (with_reducible assumption) | (with_reducible exact Ext.refl _) | (with_reducible refine Ext.drew ?_) | (with_reducible refine Ext.drewN ?_ _) | (with_reducible refine Ext.alloc ?_ _) | (with_reducible refine Ext.trans ?_ (by with_reducible assumption)))))⟩ | (with_reducible exact (by (repeat (first | (with_reducible assumption) | (with_reducible exact Ext.refl _) | (with_reducible refine Ext.drew ?_) | (with_reducible refine Ext.drewN ?_ _) | (with_reducible refine Ext.alloc ?_ _) | (with_reducible refine Ext.trans ?_ (by with_reducible assumption))))))
          case s10 =>
            intro x w' hd
            try simp [Region.binds] at hd
            refine ⟨fun _ _ _ _ hK => ?_, fun h => absurd h (by decide), fun h => absurd h (by decide), fun h => absurd h (by decide), fun h => absurd h (by decide)⟩
            have hE : Ext wq w' := hK
            have d1 := hE.cell cb
            have d2 := hE.cell c1
            have d3 := hE.cell c2
            have d4 := hE.cell x8.1
            have d5 := hE.cell x8.2.1
            have d6 := hE.cell x8.2.2.1
            have d7 := hE.cell x8.2.2.2
            unfold TPost
            first | simp only [frL, List.length_cons, List.length_nil, List.take_succ_cons, List.take_zero, Nat.reduceAdd, Nat.zero_add, List.setIfInBounds_toArray, List.set_cons_zero, List.set_cons_succ, hd] | simp only [frL, List.length_cons, List.length_nil, List.take_succ_cons, List.take_zero, Nat.reduceAdd, Nat.zero_add, List.setIfInBounds_toArray, List.set_cons_zero, List.set_cons_succ]
            go_wp2_with (first | ((with_reducible refine (BE.out _ (HEq.out.trans hE)).mono ?_); rintro r w9 ⟨rfl, E9⟩))
            all_goals first | (with_reducible exact Ext.refl _) | exact ⟨rfl, _, rfl, (fun u hu => by simpa using hu), (by (repeat (first | (with_reducible assumption) | (with_reducible exact Ext.refl _) | (with_reducible refine Ext.drew ?_) | (with_reducible refine Ext.drewN ?_ _) | (with_reducible refine Ext.alloc ?_ _) | (with_reducible refine Ext.trans ?_ (by with_reducible assumption)))))⟩ | (with_reducible exact (by (repeat (first | (with_reducible assumption) | (with_reducible exact Ext.refl _) | (with_reducible refine Ext.drew ?_) | (with_reducible refine Ext.drewN ?_ _) | (with_reducible refine Ext.alloc ?_ _) | (with_reducible refine Ext.trans ?_ (by with_reducible assumption))))))
          case s11 =>
            intro x w' hd
            try simp [Region.binds] at hd
            refine ⟨fun _ _ _ _ hK => ?_, fun h => absurd h (by decide), fun h => absurd h (by decide), fun h => absurd h (by decide), fun h => absurd h (by decide)⟩
            have hE : Ext wq w' := hK
            have d1 := hE.cell cb
            have d2 := hE.cell c1
            have d3 := hE.cell c2
            have d4 := hE.cell x8.1
            have d5 := hE.cell x8.2.1
            have d6 := hE.cell x8.2.2.1
            have d7 := hE.cell x8.2.2.2
            unfold TPost
            first | simp only [frL, List.length_cons, List.length_nil, List.take_succ_cons, List.take_zero, Nat.reduceAdd, Nat.zero_add, List.setIfInBounds_toArray, List.set_cons_zero, List.set_cons_succ, hd] | simp only [frL, List.length_cons, List.length_nil, List.take_succ_cons, List.take_zero, Nat.reduceAdd, Nat.zero_add, List.setIfInBounds_toArray, List.set_cons_zero, List.set_cons_succ]
            go_wp2_with (first | ((with_reducible refine (BE.out _ (HEq.out.trans hE)).mono ?_); rintro r w9 ⟨rfl, E9⟩))
            all_goals first | (with_reducible exact Ext.refl _) | exact ⟨rfl, _, rfl, (fun u hu => by simpa using hu), (by (repeat (first | (with_reducible assumption) | (with_reducible exact Ext.refl _) | (with_reducible refine Ext.drew ?_) | (with_reducible refine Ext.drewN ?_ _) | (with_reducible refine Ext.alloc ?_ _) | (with_reducible refine Ext.trans ?_ (by with_reducible assumption)))))⟩ | (with_reducible exact (by (repeat (first | (with_reducible assumption) | (with_reducible exact Ext.refl _) | (with_reducible refine Ext.drew ?_) | (with_reducible refine Ext.drewN ?_ _) | (with_reducible refine Ext.alloc ?_ _) | (with_reducible refine Ext.trans ?_ (by with_reducible assumption))))))
          case s12 =>
            intro x w' hd
            try simp [Region.binds] at hd
            refine ⟨fun _ _ _ _ hK => ?_, fun h => absurd h (by decide), fun h => absurd h (by decide), fun h => absurd h (by decide), fun h => absurd h (by decide)⟩
            have hE : Ext wq w' := hK
            have d1 := hE.cell cb
            have d2 := hE.cell c1
            have d3 := hE.cell c2
            have d4 := hE.cell x8.1
            have d5 := hE.cell x8.2.1
            have d6 := hE.cell x8.2.2.1
            have d7 := hE.cell x8.2.2.2
            unfold TPost
            first | simp only [frL, List.length_cons, List.length_nil, List.take_succ_cons, List.take_zero, Nat.reduceAdd, Nat.zero_add, List.setIfInBounds_toArray, List.set_cons_zero, List.set_cons_succ, hd] | simp only [frL, List.length_cons, List.length_nil, List.take_succ_cons, List.take_zero, Nat.reduceAdd, Nat.zero_add, List.setIfInBounds_toArray, List.set_cons_zero, List.set_cons_succ]
            go_wp2_with (first | ((with_reducible refine (BE.out _ (HEq.out.trans hE)).mono ?_); rintro r w9 ⟨rfl, E9⟩))
            all_goals first | (with_reducible exact Ext.refl _) | exact ⟨rfl, _, rfl, (fun u hu => by simpa using hu), (by (repeat (first | (with_reducible assumption) | (with_reducible exact Ext.refl _) | (with_reducible refine Ext.drew ?_) | (with_reducible refine Ext.drewN ?_ _) | (with_reducible refine Ext.alloc ?_ _) | (with_reducible refine Ext.trans ?_ (by with_reducible assumption)))))⟩ | (with_reducible exact (by (repeat (first | (with_reducible assumption) | (with_reducible exact Ext.refl _) | (with_reducible refine Ext.drew ?_) | (with_reducible refine Ext.drewN ?_ _) | (with_reducible refine Ext.alloc ?_ _) | (with_reducible refine Ext.trans ?_ (by with_reducible assumption))))))
          case s13 =>
            intro x w' hd
            try simp [Region.binds] at hd
            refine ⟨fun _ _ _ _ hK => ?_, fun h => absurd h (by decide), fun h => absurd h (by decide), fun h => absurd h (by decide), fun h => absurd h (by decide)⟩
            have hE : Ext wq w' := hK
            have d1 := hE.cell cb
            have d2 := hE.cell c1
            have d3 := hE.cell c2
            have d4 := hE.cell x8.1
            have d5 := hE.cell x8.2.1
            have d6 := hE.cell x8.2.2.1
            have d7 := hE.cell x8.2.2.2
            unfold TPost
            first | simp only [frL, List.length_cons, List.length_nil, List.take_succ_cons, List.take_zero, Nat.reduceAdd, Nat.zero_add, List.setIfInBounds_toArray, List.set_cons_zero, List.set_cons_succ, hd] | simp only [frL, List.length_cons, List.length_nil, List.take_succ_cons, List.take_zero, Nat.reduceAdd, Nat.zero_add, List.setIfInBounds_toArray, List.set_cons_zero, List.set_cons_succ]
            go_wp2_with (first | ((with_reducible refine (BE.out _ (HEq.out.trans hE)).mono ?_); rintro r w9 ⟨rfl, E9⟩))
            all_goals first | (with_reducible exact Ext.refl _) | exact ⟨rfl, _, rfl, (fun u hu => by simpa using hu), (by (repeat (first | (with_reducible assumption) | (with_reducible exact Ext.refl _) | (with_reducible refine Ext.drew ?_) | (with_reducible refine Ext.drewN ?_ _) | (with_reducible refine Ext.alloc ?_ _) | (with_reducible refine Ext.trans ?_ (by with_reducible assumption)))))⟩ | (with_reducible exact (by (repeat (first | (with_reducible assumption) | (with_reducible exact Ext.refl _) | (with_reducible refine Ext.drew ?_) | (with_reducible refine Ext.drewN ?_ _) | (with_reducible refine Ext.alloc ?_ _) | (with_reducible refine Ext.trans ?_ (by with_reducible assumption))))))
          case s14 =>
            intro x w' hd
            try simp [Region.binds] at hd
            refine ⟨fun _ _ _ _ hK => ?_, fun h => absurd h (by decide), fun h => absurd h (by decide), fun h => absurd h (by decide), fun h => absurd h (by decide)⟩
            have hE : Ext wq w' := hK
            have d1 := hE.cell cb
            have d2 := hE.cell c1
            have d3 := hE.cell c2
            have d4 := hE.cell x8.1
            have d5 := hE.cell x8.2.1
            have d6 := hE.cell x8.2.2.1
            have d7 := hE.cell x8.2.2.2
            unfold TPost
            first | simp only [frL, List.length_cons, List.length_nil, List.take_succ_cons, List.take_zero, Nat.reduceAdd, Nat.zero_add, List.setIfInBounds_toArray, List.set_cons_zero, List.set_cons_succ, hd] | simp only [frL, List.length_cons, List.length_nil, List.take_succ_cons, List.take_zero, Nat.reduceAdd, Nat.zero_add, List.setIfInBounds_toArray, List.set_cons_zero, List.set_cons_succ]
            go_wp2_with (first | ((with_reducible refine (BE.out _ (HEq.out.trans hE)).mono ?_); rintro r w9 ⟨rfl, E9⟩))
            all_goals first | (with_reducible exact Ext.refl _) | exact ⟨rfl, _, rfl, (fun u hu => by simpa using hu), (by (repeat (first | (with_reducible assumption) | (with_reducible exact Ext.refl _) | (with_reducible refine Ext.drew ?_) | (with_reducible refine Ext.drewN ?_ _) | (with_reducible refine Ext.alloc ?_ _) | (with_reducible refine Ext.trans ?_ (by with_reducible assumption)))))⟩ | (with_reducible exact (by (repeat (first | (with_reducible assumption) | (with_reducible exact Ext.refl _) | (with_reducible refine Ext.drew ?_) | (with_reducible refine Ext.drewN ?_ _) | (with_reducible refine Ext.alloc ?_ _) | (with_reducible refine Ext.trans ?_ (by with_reducible assumption))))))
          case s15 =>
            intro x w' hd
            try simp [Region.binds] at hd
            refine ⟨fun _ _ _ _ hK => ?_, fun h => absurd h (by decide), fun h => absurd h (by decide), fun h => absurd h (by decide), fun h => absurd h (by decide)⟩
            have hE : Ext wq w' := hK
            have d1 := hE.cell cb
            have d2 := hE.cell c1
            have d3 := hE.cell c2
            have d4 := hE.cell x8.1
            have d5 := hE.cell x8.2.1
            have d6 := hE.cell x8.2.2.1
            have d7 := hE.cell x8.2.2.2
            unfold TPost
            first | simp only [frL, List.length_cons, List.length_nil, List.take_succ_cons, List.take_zero, Nat.reduceAdd, Nat.zero_add, List.setIfInBounds_toArray, List.set_cons_zero, List.set_cons_succ, hd] | simp only [frL, List.length_cons, List.length_nil, List.take_succ_cons, List.take_zero, Nat.reduceAdd, Nat.zero_add, List.setIfInBounds_toArray, List.set_cons_zero, List.set_cons_succ]
            go_wp2_with (first | ((with_reducible refine (BE.out _ (HEq.out.trans hE)).mono ?_); rintro r w9 ⟨rfl, E9⟩))
            all_goals first | (with_reducible exact Ext.refl _) | exact ⟨rfl, _, rfl, (fun u hu => by simpa using hu), (by (repeat (first | (with_reducible assumption) | (with_reducible exact Ext.refl _) | (with_reducible refine Ext.drew ?_) | (with_reducible refine Ext.drewN ?_ _) | (with_reducible refine Ext.alloc ?_ _) | (with_reducible refine Ext.trans ?_ (by with_reducible assumption)))))⟩ | (with_reducible exact (by (repeat (first | (with_reducible assumption) | (with_reducible exact Ext.refl _) | (with_reducible refine Ext.drew ?_) | (with_reducible refine Ext.drewN ?_ _) | (with_reducible refine Ext.alloc ?_ _) | (with_reducible refine Ext.trans ?_ (by with_reducible assumption))))))
          case s16 =>
            intro x w' hd
            try simp [Region.binds] at hd
            refine ⟨fun _ _ _ _ hK => ?_, fun h => absurd h (by decide), fun h => absurd h (by decide), fun h => absurd h (by decide), fun h => absurd h (by decide)⟩
            have hE : Ext wq w' := hK
            have d1 := hE.cell cb
            have d2 := hE.cell c1
            have d3 := hE.cell c2
            have d4 := hE.cell x8.1
            have d5 := hE.cell x8.2.1
            have d6 := hE.cell x8.2.2.1
            have d7 := hE.cell x8.2.2.2
            unfold TPost
            first | simp only [frL, List.length_cons, List.length_nil, List.take_succ_cons, List.take_zero, Nat.reduceAdd, Nat.zero_add, List.setIfInBounds_toArray, List.set_cons_zero, List.set_cons_succ, hd] | simp only [frL, List.length_cons, List.length_nil, List.take_succ_cons, List.take_zero, Nat.reduceAdd, Nat.zero_add, List.setIfInBounds_toArray, List.set_cons_zero, List.set_cons_succ]
            go_wp2_with (first | ((with_reducible refine (BE.out _ (HEq.out.trans hE)).mono ?_); rintro r w9 ⟨rfl, E9⟩))
            all_goals first | (with_reducible exact Ext.refl _) | exact ⟨rfl, _, rfl, (fun u hu => by simpa using hu), (by (repeat (first | (with_reducible assumption) | (with_reducible exact Ext.refl _) | (with_reducible refine Ext.drew ?_) | (with_reducible refine Ext.drewN ?_ _) | (with_reducible refine Ext.alloc ?_ _) | (with_reducible refine Ext.trans ?_ (by with_reducible assumption)))))⟩ | (with_reducible exact (by (repeat (first | (with_reducible assumption) | (with_reducible exact Ext.refl _) | (with_reducible refine Ext.drew ?_) | (with_reducible refine Ext.drewN ?_ _) | (with_reducible refine Ext.alloc ?_ _) | (with_reducible refine Ext.trans ?_ (by with_reducible assumption))))))
          case s17 =>
            intro x w' hd
            try simp [Region.binds] at hd
            refine ⟨fun _ _ _ _ hK => ?_, fun h => absurd h (by decide), fun h => absurd h (by decide), fun h => absurd h (by decide), fun h => absurd h (by decide)⟩
            have hE : Ext wq w' := hK
            have d1 := hE.cell cb
            have d2 := hE.cell c1
            have d3 := hE.cell c2
            have d4 := hE.cell x8.1
            have d5 := hE.cell x8.2.1
            have d6 := hE.cell x8.2.2.1
            have d7 := hE.cell x8.2.2.2
            unfold TPost
            first | simp only [frL, List.length_cons, List.length_nil, List.take_succ_cons, List.take_zero, Nat.reduceAdd, Nat.zero_add, List.setIfInBounds_toArray, List.set_cons_zero, List.set_cons_succ, hd] | simp only [frL, List.length_cons, List.length_nil, List.take_succ_cons, List.take_zero, Nat.reduceAdd, Nat.zero_add, List.setIfInBounds_toArray, List.set_cons_zero, List.set_cons_succ]
            go_wp2_with (first | ((with_reducible refine (BE.out _ (HEq.out.trans hE)).mono ?_); rintro r w9 ⟨rfl, E9⟩))
            all_goals first | (with_reducible exact Ext.refl _) | exact ⟨rfl, _, rfl, (fun u hu => by simpa using hu), (by (repeat (first | (with_reducible assumption) | (with_reducible exact Ext.refl _) | (with_reducible refine Ext.drew ?_) | (with_reducible refine Ext.drewN ?_ _) | (with_reducible refine Ext.alloc ?_ _) | (with_reducible refine Ext.trans ?_ (by with_reducible assumption)))))⟩ | (with_reducible exact (by (repeat (first | (with_reducible assumption) | (with_reducible exact Ext.refl _) | (with_reducible refine Ext.drew ?_) | (with_reducible refine Ext.drewN ?_ _) | (with_reducible refine Ext.alloc ?_ _) | (with_reducible refine Ext.trans ?_ (by with_reducible assumption))))))
          case s19 =>
            intro x w' hd
            try simp [Region.binds] at hd
            refine ⟨fun _ _ _ _ hK => ?_, fun h => absurd h (by decide), fun h => absurd h (by decide), fun h => absurd h (by decide), fun h => absurd h (by decide)⟩
            have hE : Ext wq w' := hK
            have d1 := hE.cell cb
            have d2 := hE.cell c1
            have d3 := hE.cell c2
            have d4 := hE.cell x8.1
            have d5 := hE.cell x8.2.1
            have d6 := hE.cell x8.2.2.1
            have d7 := hE.cell x8.2.2.2
            unfold TPost
            first | simp only [frL, List.length_cons, List.length_nil, List.take_succ_cons, List.take_zero, Nat.reduceAdd, Nat.zero_add, List.setIfInBounds_toArray, List.set_cons_zero, List.set_cons_succ, hd] | simp only [frL, List.length_cons, List.length_nil, List.take_succ_cons, List.take_zero, Nat.reduceAdd, Nat.zero_add, List.setIfInBounds_toArray, List.set_cons_zero, List.set_cons_succ]
            go_wp2_with (first | ((with_reducible refine (BE.out _ (HEq.out.trans hE)).mono ?_); rintro r w9 ⟨rfl, E9⟩))
            all_goals first | (with_reducible exact Ext.refl _) | exact ⟨rfl, _, rfl, (fun u hu => by simpa using hu), (by (repeat (first | (with_reducible assumption) | (with_reducible exact Ext.refl _) | (with_reducible refine Ext.drew ?_) | (with_reducible refine Ext.drewN ?_ _) | (with_reducible refine Ext.alloc ?_ _) | (with_reducible refine Ext.trans ?_ (by with_reducible assumption)))))⟩ | (with_reducible exact (by (repeat (first | (with_reducible assumption) | (with_reducible exact Ext.refl _) | (with_reducible refine Ext.drew ?_) | (with_reducible refine Ext.drewN ?_ _) | (with_reducible refine Ext.alloc ?_ _) | (with_reducible refine Ext.trans ?_ (by with_reducible assumption))))))
          case s20 =>
            intro x w' hd
            try simp [Region.binds] at hd
            refine ⟨fun _ _ _ _ hK => ?_, fun h => absurd h (by decide), fun h => absurd h (by decide), fun h => absurd h (by decide), fun h => absurd h (by decide)⟩
            have hE : Ext wq w' := hK
            have d1 := hE.cell cb
            have d2 := hE.cell c1
            have d3 := hE.cell c2
            have d4 := hE.cell x8.1
            have d5 := hE.cell x8.2.1
            have d6 := hE.cell x8.2.2.1
            have d7 := hE.cell x8.2.2.2
            unfold TPost
            first | simp only [frL, List.length_cons, List.length_nil, List.take_succ_cons, List.take_zero, Nat.reduceAdd, Nat.zero_add, List.setIfInBounds_toArray, List.set_cons_zero, List.set_cons_succ, hd] | simp only [frL, List.length_cons, List.length_nil, List.take_succ_cons, List.take_zero, Nat.reduceAdd, Nat.zero_add, List.setIfInBounds_toArray, List.set_cons_zero, List.set_cons_succ]
            go_wp2_with (first | ((with_reducible refine (BE.out _ (HEq.out.trans hE)).mono ?_); rintro r w9 ⟨rfl, E9⟩))
            all_goals first | (with_reducible exact Ext.refl _) | exact ⟨rfl, _, rfl, (fun u hu => by simpa using hu), (by (repeat (first | (with_reducible assumption) | (with_reducible exact Ext.refl _) | (with_reducible refine Ext.drew ?_) | (with_reducible refine Ext.drewN ?_ _) | (with_reducible refine Ext.alloc ?_ _) | (with_reducible refine Ext.trans ?_ (by with_reducible assumption)))))⟩ | (with_reducible exact (by (repeat (first | (with_reducible assumption) | (with_reducible exact Ext.refl _) | (with_reducible refine Ext.drew ?_) | (with_reducible refine Ext.drewN ?_ _) | (with_reducible refine Ext.alloc ?_ _) | (with_reducible refine Ext.trans ?_ (by with_reducible assumption))))))
          case s23 =>
            intro x w' hd
            try simp [Region.binds] at hd
            refine ⟨fun _ _ _ _ hK => ?_, fun h => absurd h (by decide), fun h => absurd h (by decide), fun h => absurd h (by decide), fun h => absurd h (by decide)⟩
            have hE : Ext wq w' := hK
            have d1 := hE.cell cb
            have d2 := hE.cell c1
            have d3 := hE.cell c2
            have d4 := hE.cell x8.1
            have d5 := hE.cell x8.2.1
            have d6 := hE.cell x8.2.2.1
            have d7 := hE.cell x8.2.2.2
            unfold TPost
            first | simp only [frL, List.length_cons, List.length_nil, List.take_succ_cons, List.take_zero, Nat.reduceAdd, Nat.zero_add, List.setIfInBounds_toArray, List.set_cons_zero, List.set_cons_succ, hd] | simp only [frL, List.length_cons, List.length_nil, List.take_succ_cons, List.take_zero, Nat.reduceAdd, Nat.zero_add, List.setIfInBounds_toArray, List.set_cons_zero, List.set_cons_succ]
            go_wp2_with (first | ((with_reducible refine (BE.out _ (HEq.out.trans hE)).mono ?_); rintro r w9 ⟨rfl, E9⟩))
            all_goals first | (with_reducible exact Ext.refl _) | exact ⟨rfl, _, rfl, (fun u hu => by simpa using hu), (by (repeat (first | (with_reducible assumption) | (with_reducible exact Ext.refl _) | (with_reducible refine Ext.drew ?_) | (with_reducible refine Ext.drewN ?_ _) | (with_reducible refine Ext.alloc ?_ _) | (with_reducible refine Ext.trans ?_ (by with_reducible assumption)))))⟩ | (with_reducible exact (by (repeat (first | (with_reducible assumption) | (with_reducible exact Ext.refl _) | (with_reducible refine Ext.drew ?_) | (with_reducible refine Ext.drewN ?_ _) | (with_reducible refine Ext.alloc ?_ _) | (with_reducible refine Ext.trans ?_ (by with_reducible assumption))))))
          case sp =>
            intro x' w' hd
            try simp [Region.binds] at hd
            refine ⟨fun h => absurd rfl h, fun _ hS => ?_, fun h => absurd h (by decide), fun h => absurd h (by decide), fun h => absurd h (by decide)⟩
            have hE : Ext wq w' := hS
            have CL := clone_Ent (.slice a3 X.length c3) X.length (cEn es) w' ((HS2.out.ext HEq.out).ext hE) hone (by omega)
            unfold TPost
            first | simp only [frL, List.length_cons, List.length_nil, List.take_succ_cons, List.take_zero, Nat.reduceAdd, Nat.zero_add, List.setIfInBounds_toArray, List.set_cons_zero, List.set_cons_succ, hd] | simp only [frL, List.length_cons, List.length_nil, List.take_succ_cons, List.take_zero, Nat.reduceAdd, Nat.zero_add, List.setIfInBounds_toArray, List.set_cons_zero, List.set_cons_succ]
            go_wp2_with fail
            refine CL.mono ?_
            rintro r w9 ⟨a9, k9, rfl, o9, E9⟩
            go_wp2
            first | exact ⟨E9, a9, k9, rfl, own_base o9 hE.size'⟩ | exact ⟨a9, k9, rfl, own_base o9 hE.size'⟩
          case sq =>
            intro x' w' hd
            try simp [Region.binds] at hd
            refine ⟨fun _ h => absurd rfl h, fun h => absurd h (by decide), fun _ hS => ?_, fun h => absurd h (by decide), fun h => absurd h (by decide)⟩
            unfold TPost
            first | simp only [frL, List.length_cons, List.length_nil, List.take_succ_cons, List.take_zero, Nat.reduceAdd, Nat.zero_add, List.setIfInBounds_toArray, List.set_cons_zero, List.set_cons_succ, hd] | simp only [frL, List.length_cons, List.length_nil, List.take_succ_cons, List.take_zero, Nat.reduceAdd, Nat.zero_add, List.setIfInBounds_toArray, List.set_cons_zero, List.set_cons_succ]
            go_wp2
            exact ⟨(Ext.refl _).alloc _, newC_alloc _ _ _ _⟩
          case sm =>
            intro x' w' hd
            try simp [Region.binds] at hd
            refine ⟨fun _ _ h => absurd rfl h, fun h => absurd h (by decide), fun h => absurd h (by decide), fun _ hS hP hQ => ?_, fun h => absurd h (by decide)⟩
            have hE : Ext wq w' := hS
            obtain ⟨a9, k9, hp9, o9⟩ := hP
            obtain ⟨b9, hq9, hbk⟩ := hQ
            have ho1 := entSeg_one HBP.out.seg
            have hsg : Seg w' (.slice (some ⟨b9, 0, none⟩) 1 1) 4 1 (evC (.slice ya1 (halfE x).ops.length yk1, yb, .slice ya2 (halfE x).cuts.length yk2, .slice ya3 (halfE x).own.length yk3)) := seg_blk hbk rfl (Nat.le_refl _) (by simp [maxLen])
            unfold TPost
            first | simp only [frL, List.length_cons, List.length_nil, List.take_succ_cons, List.take_zero, Nat.reduceAdd, Nat.zero_add, List.setIfInBounds_toArray, List.set_cons_zero, List.set_cons_succ, hd, hp9, hq9] | simp only [frL, List.length_cons, List.length_nil, List.take_succ_cons, List.take_zero, Nat.reduceAdd, Nat.zero_add, List.setIfInBounds_toArray, List.set_cons_zero, List.set_cons_succ, hp9, hq9]
            go_wp2_with (first | (at_builtin; refine (wpList_app rfl _ _ 23 rfl wq.heap.size 41 (.agg #[.slice none 0 0, .bool false, .slice none 0 0, .slice none 0 0]) 4 80 Tryd.underlying23 infoEn rfl (by decide) _ X.length (cEn es) rfl o9 _ 1 _ rfl hsg ho1 (by omega) (by unfold maxLen; omega) hE.size' ?_); intro v' w9 ho' hg))
            exact ⟨ho', hE.grown hg (fun q hq => own_ge o9 q hq)⟩
          case sz =>
            intro x' w' hd
            try simp [Region.binds] at hd
            refine ⟨fun _ _ _ h => absurd rfl h, fun h => absurd h (by decide), fun h => absurd h (by decide), fun h => absurd h (by decide), fun _ hS => ?_⟩
            have hA := hid hS
            obtain ⟨ho', hE⟩ := hS
            have c9 := hE.cell c2
            have f9 : w'.frozen? ⟨bu, m, none⟩ = false := own_free (own_ext (own_ext HT1.out HEq.out) hE) m
            obtain ⟨a9, k9, e9⟩ := own_form ho'
            rw [e9] at hA
            clear ho' hE
            unfold TPost
            first | simp only [frL, List.length_cons, List.length_nil, List.take_succ_cons, List.take_zero, Nat.reduceAdd, Nat.zero_add, List.setIfInBounds_toArray, List.set_cons_zero, List.set_cons_succ, hd, e9] | simp only [frL, List.length_cons, List.length_nil, List.take_succ_cons, List.take_zero, Nat.reduceAdd, Nat.zero_add, List.setIfInBounds_toArray, List.set_cons_zero, List.set_cons_succ, e9]
            go_wp2
            exact ⟨_, _, hA.out, Ext.refl _⟩
        case st0 => intro a b E h; exact Ext.trans h E
        case stp => intro v a b E h; exact NewR.ext h E
        case stq => intro v a b E h; exact NewC.ext h E
        case st1 => intro v a b E h; exact AddM.ext h E
        case k0 => intro a hE; exact hE
        case k1 => intro v a hA; exact hA.2
        case h0 => exact (Ext.refl _).drew
        case he =>
          intro x' w6 hd hS
          obtain ⟨v, w1, ⟨hown, hEw⟩, E6⟩ := hS
          simp only [frL, List.length_cons, List.length_nil, List.take_succ_cons, List.take_zero, Nat.reduceAdd, Nat.zero_add, List.setIfInBounds_toArray, List.set_cons_zero, List.set_cons_succ]
          clear hd
          obtain ⟨a9, k9, rfl⟩ := own_form hown
          obtain ⟨z1, z2, z3⟩ := HES.out
          have E01 := HEq.out.trans hEw
          have hEnt : EntsP w1 (fun q => P q ∨ (Value.slice a9 (X.length + 1) k9).ownBlock = some q) (.slice a9 (X.length + 1) k9) (X ++ [halfE x]) := by
            refine ⟨es ++ [(.slice ya1 (halfE x).ops.length yk1, yb, .slice ya2 (halfE x).cuts.length yk2, .slice ya3 (halfE x).own.length yk3)], by simp [z1], ?_, fun a n c e _ => ?_, fun j e x' p q => ?_⟩
            · rw [cEn_app, List.length_append]
              have := own_seg hown
              rw [show cEn [(.slice ya1 (halfE x).ops.length yk1, yb, .slice ya2 (halfE x).cuts.length yk2, .slice ya3 (halfE x).own.length yk3)] = evC (.slice ya1 (halfE x).ops.length yk1, yb, .slice ya2 (halfE x).cuts.length yk2, .slice ya3 (halfE x).own.length yk3) by simp [cEn]]
              exact this
            · injection e with e _ _
              subst e
              rcases hown.2 with ⟨e, _⟩ | ⟨g, c', cur, e, _⟩
              · cases e
              · injection e with e _ _
                injection e with e
                subst e
                exact .inr rfl
            · by_cases hj : j < es.length
              · rw [List.getElem?_append_left hj] at p
                rw [List.getElem?_append_left (by omega)] at q
                exact ((z3 j e x' p q).same (SameP.of_ext E01)).mono fun _ h => .inl h
              · rw [List.getElem?_append_right (by omega)] at p q
                have h0 : j - es.length = 0 := by
                  rcases Nat.eq_zero_or_pos (j - es.length) with z | z
                  · exact z
                  · rw [List.getElem?_eq_none (by simp; omega)] at p; cases p
                rw [← z1, h0] at q
                rw [h0] at p
                simp at p q
                subst p; subst q
                exact (HBP.out.same (SameP.of_ext E01)).mono fun _ h => .inl h
          obtain ⟨G, K⟩ := RMG.put (H.out.ext HEq.out) hEw HU.out.1 HU.out.2 (k := m) (by have := HML.out; omega) hEnt (fun _ h => .inl h) (fun q hq => by
            rcases hq with a | a
            · exact .inl a
            · exact .inr (own_ge hown q a)) (fun q hq => by
            rcases hq with a | a
            · have := H.out.pl q a
              have := E01.size'
              omega
            · exact (hown.lt q a).2)
          have R6 := hid (show AddR w S P bm bs i M x (.returned (.int .i64 0)) w6 by
            refine .inr ⟨HF.out, rfl, (fun q => P q ∨ (Value.slice a9 (X.length + 1) k9).ownBlock = some q), ?_, Kp.after HEq.out (K.ext E6), fun _ h => .inl h, fun q hq => ?_⟩
            · rw [HG.out, HML.out, Nat.add_sub_cancel, HLM.out]
              exact ⟨_, _, G.ext E6⟩
            · rcases hq with a | a
              · exact .inl a
              · have := own_ge hown q a
                have := HEq.out.size'
                exact .inr (by omega))
          clear G K hEnt E01 z1 z2 z3 hown hEw E6
          go_wp2
          go_ret
          rw [HM.out]
          exact R6.out
end Go.Proofs.YtddghaoejnbkaaaDoor
