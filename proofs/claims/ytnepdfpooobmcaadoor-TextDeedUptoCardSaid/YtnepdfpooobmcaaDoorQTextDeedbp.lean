/- Contracts and lemmas for the proof of TextDeed; each theorem states its own conditions. -/
import Derived.Test.YtnepdfpooobmcaaDoorQTextDeedbn
import Derived.Test.YtnepdfpooobmcaaDoorQTextDeedbo
import Derived.Test.YtnepdfpooobmcaaDoorQTextDeedaf
set_option linter.unusedVariables false
set_option linter.unusedSimpArgs false
/- Contracts and lemmas for the proofs of this seat; each theorem states its own conditions. -/
namespace Go.Proofs.YtnepdfpooobmcaaDoor
open Go.RowKit
def dLit : Ops := [⟨5, ⟨#[97]⟩, ⟨#[98]⟩, 3⟩, ⟨4, ⟨#[97]⟩, ⟨#[]⟩, -1⟩]
theorem td_lit : deedE dLit = 0 ∧ dS dLit = ⟨#[97, 60, 98, 42, 51, 59, 97, 63, 45, 49]⟩ := by decide +kernel
theorem numL_bd {l : List UInt8} {v : Int} (h : numL l = some v) : -9223372036854775808 ≤ v ∧ v ≤ 9223372036854775807 := Lib.atoiAll_bounds (numL_some h).2.2
theorem rdOp_n {s : ByteArray} {o : GOp} (h : rdOp s = some o) : -9223372036854775808 ≤ o.n ∧ o.n ≤ 9223372036854775807 := by
  unfold rdOp at h
  split at h
  · cases h
  · have fin : ∀ {l : List UInt8} {kd : Int} {ky fr : ByteArray}, ((numL l).map fun n => (⟨kd, ky, fr, n⟩ : GOp)) = some o → -9223372036854775808 ≤ o.n ∧ o.n ≤ 9223372036854775807 := by
      intro l kd ky fr hq
      cases hn : numL l with
      | none => simp [hn] at hq
      | some v => simp [hn] at hq; subst hq; exact numL_bd hn
    unfold rdAt at h
    split at h
    · exact fin h
    · split at h
      · exact fin h
      · split at h
        · exact fin h
        · split at h
          · exact fin h
          · simp at h; subst h; exact ⟨show (-9223372036854775808 : Int) ≤ 0 by decide, show (0 : Int) ≤ 9223372036854775807 by decide⟩
theorem rdOps_all {Q : GOp → Prop} : ∀ {L : List ByteArray} {d : Ops}, (∀ w ∈ L, ∀ o, rdOp w = some o → Q o) → rdOps L = some d → ∀ o ∈ d, Q o
  | [], d, _, h, o, ho => by simp [rdOps] at h; subst h; simp at ho
  | w :: L, d, hQ, h, o, ho => by
    simp only [rdOps] at h
    cases hw : rdOp w with
    | none => simp [hw] at h
    | some p =>
      cases hr : rdOps L with
      | none => simp [hw, hr] at h
      | some d' =>
        simp [hw, hr] at h
        subst h
        rcases List.mem_cons.1 ho with rfl | ho
        · exact hQ w (by simp) o hw
        · exact rdOps_all (fun v hv => hQ v (by simp [hv])) hr o ho
theorem deedRd_ops {s : ByteArray} {d : Ops} (h : deedRd s = (0, d)) : rdOps (pcs s 59) = some d := by
  simp only [deedRd] at h
  split at h
  · simp at h
  · rename_i d' hr
    split at h
    · simp only [Prod.mk.injEq, true_and] at h; subst h; exact hr
    · rename_i he
      simp only [Prod.mk.injEq] at h; exact absurd h.1 he
theorem deedRd_n {s : ByteArray} {d : Ops} (h : deedRd s = (0, d)) : ∀ o ∈ d, -9223372036854775808 ≤ o.n ∧ o.n ≤ 9223372036854775807 := rdOps_all (fun _ _ o ho => rdOp_n ho) (deedRd_ops h)
theorem deedRd_from {s : ByteArray} {d : Ops} (h : deedRd s = (0, d)) (hs : s.size ≤ 4000000000) : ∀ o ∈ d, o.from_.size ≤ 9223372036854775807 := fun o ho => by
  have := rdOps_all (Q := fun o => o.from_.size ≤ s.size) (fun w hw o ho => by have := (rdOp_size ho).2; have := (pcs_mem hw).1; omega) (deedRd_ops h) o ho
  omega
/-- a deed that is bare -/
def BarP (D : Ops) (v : Value) (w : World) : Prop := ∃ u, v = .agg #[u] ∧ Seg w u 4 D.length (cO D)
theorem barP_now {w0 w' : World} {D : Ops} {v : Value} (h : Up w0 w' (BarP D v)) : BarP D v w' := by
  obtain ⟨w1, _, g, u, h1, h2⟩ := h
  exact ⟨u, h1, h2.ext g⟩
theorem barP_elim {G : Prop} {w0 w' : World} {D : Ops} {v : Value} (h : Up w0 w' (BarP D v)) (k : ∀ u, v = .agg #[u] → Hid (Seg w' u 4 D.length (cO D)) → G) : G := by
  obtain ⟨u, h1, h2⟩ := barP_now h
  exact k u h1 (hid h2)
set_option maxRecDepth 100000 in
set_option maxHeartbeats 4000000 in
theorem textdeed_walk (va vb : Value) (A B : Ops) (s : ByteArray) (w : World) (L : LaidT w) (ha : Seg w va 4 A.length (cO A)) (hb : Seg w vb 4 B.length (cO B)) (sA : opsSm A) (sB : opsSm B)
    (nA : ∀ o ∈ A, -9223372036854775808 ≤ o.n ∧ o.n ≤ 9223372036854775807) (nB : ∀ o ∈ B, -9223372036854775808 ≤ o.n ∧ o.n ≤ 9223372036854775807) (lA : A.length ≤ 1000000000) (lB : B.length ≤ 1000000000) (hs : s.size ≤ 2000000) :
    Calls Tryd.prog 4 #[.agg #[va], .agg #[vb], .string s] w fun e w' => e = .returned (.bool true) ∧ Ext w w' := by
  have HL := hid L
  have RD := hid (fun w' (q : Ext w w') => treaddeed_any s w' (L.ext q) (by omega))
  have TA := hid (fun w' (q : Ext w w') => tdeed_any va A w' (L.ext q) (ha.ext q) sA nA)
  have TB := hid (fun w' (q : Ext w w') => tdeed_any vb B w' (L.ext q) (hb.ext q) sB nB)
  obtain ⟨A2, hA2⟩ : ∃ M, A.map bareO = M := ⟨_, rfl⟩
  have HA2 := hid hA2
  have BA := hid (fun w' (q : Ext w w') => show Calls Tryd.prog 15 #[.agg #[va]] w' fun e w2 => ∃ v', e = .returned (.agg #[v']) ∧ Seg w2 v' 4 A2.length (cO A2) ∧ Ext w' w2 from (tbare_any va A w' (ha.ext q) lA).mono fun e w2 ⟨v', h1, h2, h3⟩ => ⟨v', h1, by rw [← hA2, List.length_map]; exact own_seg h2, h3⟩)
  clear hA2
  obtain ⟨B2, hB2⟩ : ∃ M, B.map bareO = M := ⟨_, rfl⟩
  have HB2 := hid hB2
  have BB := hid (fun w' (q : Ext w w') => show Calls Tryd.prog 15 #[.agg #[vb]] w' fun e w2 => ∃ v', e = .returned (.agg #[v']) ∧ Seg w2 v' 4 B2.length (cO B2) ∧ Ext w' w2 from (tbare_any vb B w' (hb.ext q) lB).mono fun e w2 ⟨v', h1, h2, h3⟩ => ⟨v', h1, by rw [← hB2, List.length_map]; exact own_seg h2, h3⟩)
  clear hB2
  have LT := hid (fun w' (q : Ext w w') vv (hv : Seg w' vv 4 2 (cO dLit)) => tdeed_any vv dLit w' (L.ext q) hv (by unfold opsSm dLit; decide) (by unfold dLit; decide))
  rw [td_lit.1, td_lit.2] at LT
  have e0 := heap_1 w (.cells #[va] 35) (.cells #[vb] 35)
  have e1 := heap_2 w (.cells #[va] 35) (.cells #[vb] 35)
  have HB := hid (And.intro e0 e1)
  have HN := hid (And.intro nA nB)
  clear L ha hb sA sB nA nB lA lB e0 e1
  go_enter Tryd.func4, Tryd.ntmps4
  go_wp2_with fail
  have E3 : Ext w (((w.alloc (.cells #[va] 35)).alloc (.cells #[vb] 35)).alloc (.cells #[.int .i64 5, .string ⟨#[97]⟩, .string ⟨#[98]⟩, .int .i64 3, .int .i64 4, .string ⟨#[97]⟩, .string ⟨#[]⟩, .int .i64 (-1)] 38)) := (((Ext.refl w).alloc _).alloc _).alloc _
  have hx := heap_alloc_new ((w.alloc (.cells #[va] 35)).alloc (.cells #[vb] 35)) (.cells #[.int .i64 5, .string ⟨#[97]⟩, .string ⟨#[98]⟩, .int .i64 3, .int .i64 4, .string ⟨#[97]⟩, .string ⟨#[]⟩, .int .i64 (-1)] 38)
  simp only [World.size_alloc] at hx
  refine (LT.out _ E3 _ (seg_blk (xs := cO dLit) (n := 2) (sz := 4) (c := 2) hx rfl (Nat.le_refl _) (by decide))).mono ?_
  rintro e w3 ⟨rfl, EX3⟩
  have E13 := ((Ext.refl ((w.alloc (.cells #[va] 35)).alloc (.cells #[vb] 35))).alloc (.cells #[.int .i64 5, .string ⟨#[97]⟩, .string ⟨#[98]⟩, .int .i64 3, .int .i64 4, .string ⟨#[97]⟩, .string ⟨#[]⟩, .int .i64 (-1)] 38)).trans EX3
  have HB3 := hid (And.intro (E13.heap HB.out.1) (E13.heap HB.out.2))
  have HE3 := hid (E3.trans EX3)
  have TA1 := hid (TA.out w3 (E3.trans EX3))
  have ca := (blk1 HB3.out.1).1
  clear E3 EX3 E13 LT HB TA hx
  go_wp2_with fail
  refine (TA1.out).mono ?_
  clear TA1
  rintro e w4 ⟨rfl, E4⟩
  have HB4 := hid (And.intro (E4.heap HB3.out.1) (E4.heap HB3.out.2))
  have cb := (blk1 HB4.out.2).1
  have TB1 := hid (TB.out w4 (HE3.out.trans E4))
  have HE4 := hid (HE3.out.trans E4)
  clear ca E4 TB HB3 HE3
  go_wp2_with fail
  refine (TB1.out).mono ?_
  clear TB1
  rintro e w5 ⟨rfl, E5⟩
  have HB5 := hid (And.intro (E5.heap HB4.out.1) (E5.heap HB4.out.2))
  have HE5 := hid (HE4.out.trans E5)
  clear cb E5 HB4 HE4
  by_cases he : deedE A = 0
  · have okA := deed_ok he
    have hrt := deedRd_rt okA
    have hSA : dS A = bA (dT A) := by unfold dS; rw [if_pos he]
    rw [← hSA, HA2.out] at hrt
    have hlA := dT_len okA HN.out.1
    have RA := treaddeed_any (dS A) w5 (HL.out.ext HE5.out) (by rw [hSA, bA_size]; omega)
    rw [hrt] at RA
    dsimp only at RA
    have RA := hid RA
    rw [he]
    have HOA := hid (And.intro okA hSA)
    clear he okA hrt hSA hlA
    generalize hsA : dS A = tA at RA ⊢
    have HSA := hid hsA
    clear hsA
    go_wp2_with fail
    refine (RA.out).mono ?_
    clear RA
    rintro e w6 ⟨xv, rfl, ox, E6⟩
    obtain ⟨xa, xk, rfl⟩ := own_form ox
    have EA := (Ext.refl w6).alloc (.cells #[.slice xa A2.length xk] 35)
    have bx2 := (blk1 (heap_alloc_new w6 (.cells #[.slice xa A2.length xk] 35))).1
    obtain ⟨wA, hwA⟩ : ∃ wA, w6.alloc (.cells #[.slice xa A2.length xk] 35) = wA := ⟨_, rfl⟩
    obtain ⟨b6, hb6⟩ : ∃ b6, w6.heap.size = b6 := ⟨_, rfl⟩
    rw [hwA] at EA bx2
    rw [hb6] at bx2
    have ca := (E6.trans EA).cell (blk1 HB5.out.1).1
    have cb := (E6.trans EA).cell (blk1 HB5.out.2).1
    have HEA := hid (HE5.out.trans (E6.trans EA))
    have BA1 := hid (fun w' (q : Ext wA w') => BA.out w' (HEA.out.trans q))
    have BB1 := hid (fun w' (q : Ext wA w') => BB.out w' (HEA.out.trans q))
    have IP6 := hid (fun w' (q : Ext wA w') => (own_seg ox).ext (EA.trans q))
    clear ox E6 EA HB5 BA BB
    go_wp2_with fail
    refine wp_region_ph [.k (.int .i64 0), .k (.bool false), .k (.bool false), .k (.agg #[.slice xa A2.length xk]), .k (.agg #[va]), .p (BarP A2), .k (.bool true)] [] (by kernel_rfl) (by kernel_rfl) (by kernel_rfl) rfl rfl ?hs ?hC ?he
    case hC =>
      intro i hi
      simp at hi
    case hs =>
      refine ⟨?_, ?_, ?_, ?_, ?_, ?_, ?_, trivial⟩
      all_goals (
        intro x w' hE hd
        try simp [PhDeps, at_k, at_p, at_t, at_any, Region.binds] at hd
        try ((with_reducible refine Exists.elim hd ?_); clear hd; intro y hd; obtain ⟨hd, hG⟩ := hd)
        have f0 := hE.cell bx2
        have f1 := hE.cell ca
        try ((with_reducible refine barP_elim (w0 := wA) (D := A2) hd.2.1 ?_); intro u5 hx5 hm5; simp only [hx5])
        first | simp only [frL, List.length_cons, List.length_nil, List.take_succ_cons, List.take_zero, Nat.reduceAdd, Nat.zero_add, List.setIfInBounds_toArray, List.set_cons_zero, List.set_cons_succ, hd] | simp only [frL, List.length_cons, List.length_nil, List.take_succ_cons, List.take_zero, Nat.reduceAdd, Nat.zero_add, List.setIfInBounds_toArray, List.set_cons_zero, List.set_cons_succ]
        go_wp2_with (first | (go_at_call 15; refine (BA1.out _ hE).mono ?_; rintro e wa ⟨v9, rfl, hm9, hea⟩) | (go_at_call 14; have QS := sameDeedT_any _ _ A2 A2 w' (IP6.out _ hE) hm5.out; rw [decide_eq_true rfl] at QS; refine QS.mono ?_; rintro e wa ⟨rfl, hea⟩))
        all_goals first
          | ((with_reducible refine phK ?_ ?_); (focus rfl); (repeat (first | (with_reducible assumption) | (with_reducible exact Ext.refl _) | (with_reducible refine Ext.drew ?_) | (with_reducible refine Ext.drewN ?_ _) | (with_reducible refine Ext.alloc ?_ _) | (with_reducible refine Ext.trans ?_ (by with_reducible assumption)))))
          | (exact phN (show BarP _ _ _ from ⟨_, rfl, hm9⟩) hE hea)
          | ((with_reducible refine phT rfl hG ?_); (repeat (first | (with_reducible assumption) | (with_reducible exact Ext.refl _) | (with_reducible refine Ext.drew ?_) | (with_reducible refine Ext.drewN ?_ _) | (with_reducible refine Ext.alloc ?_ _) | (with_reducible refine Ext.trans ?_ (by with_reducible assumption)))))
          | ((with_reducible refine phU hG ?_); (repeat (first | (with_reducible assumption) | (with_reducible exact Ext.refl _) | (with_reducible refine Ext.drew ?_) | (with_reducible refine Ext.drewN ?_ _) | (with_reducible refine Ext.alloc ?_ _) | (with_reducible refine Ext.trans ?_ (by with_reducible assumption)))))
          | (with_reducible exact phBox hE)
          | (with_reducible exact phRow hE))
    case he =>
      intro x wq Eq hd
      simp [PhEnd, at_k, at_p, at_t, at_any] at hd
      simp only [frL, List.length_cons, List.length_nil, List.take_succ_cons, List.take_zero, Nat.reduceAdd, Nat.zero_add, List.setIfInBounds_toArray, List.set_cons_zero, List.set_cons_succ, hd, List.length_cons, List.length_nil, List.drop_succ_cons, List.drop_zero]
      clear hd
      have HEq := hid (HEA.out.trans Eq)
      have ca := Eq.cell ca
      have cb := Eq.cell cb
      have BA2 := hid (fun w' (q : Ext wq w') => BA1.out w' (Eq.trans q))
      have BB2 := hid (fun w' (q : Ext wq w') => BB1.out w' (Eq.trans q))
      clear Eq BA1 BB1 IP6 bx2 HEA
      by_cases hf : deedE B = 0
      · have okB := deed_ok hf
        have hSB : dS B = bA (dT B) := by unfold dS; rw [if_pos hf]
        rw [hf]
        generalize hsB : dS B = tB
        obtain ⟨sm, hsm⟩ : ∃ sm : Bool, decide (A2 = B2) = sm := ⟨_, rfl⟩
        have hxy : (tA.toList == tB.toList) = sm := by
          have hi := dT_inj HOA.out.1 okB
          rw [← HOA.out.2, ← hSB, HSA.out, hsB, HA2.out, HB2.out] at hi
          rw [← hsm]
          by_cases h : A2 = B2
          · rw [decide_eq_true h, hi.2 h]; simp
          · rw [decide_eq_false h]
            simp only [beq_eq_false_iff_ne]
            exact fun e => h (hi.1 (toList_inj e))
        have HSM := hid hsm
        clear hf okB hSB hsB hsm
        go_wp2_with fail
        refine wp_region_ph [.k (.int .i64 0), .k (.bool true), .k (.bool true), .k (.string tA), .k (.string tB), .k (.bool sm), .k (.agg #[va]), .p (BarP A2), .k (.agg #[vb]), .p (BarP B2), .k (.bool sm)] [] (by kernel_rfl) (by kernel_rfl) (by kernel_rfl) rfl rfl ?hs ?hC ?he
        case hC =>
          intro i hi
          simp at hi
        case hs =>
          refine ⟨?_, ?_, ?_, ?_, ?_, ?_, ?_, ?_, ?_, ?_, ?_, trivial⟩
          all_goals (
            intro x w' hE hd
            try simp [PhDeps, at_k, at_p, at_t, at_any, Region.binds] at hd
            try ((with_reducible refine Exists.elim hd ?_); clear hd; intro y hd; obtain ⟨hd, hG⟩ := hd)
            have f0 := hE.cell ca
            have f1 := hE.cell cb
            try ((with_reducible refine barP_elim (w0 := wq) (D := A2) hd.1 ?_); intro u5 hx5 hm5; (with_reducible refine barP_elim (w0 := wq) (D := B2) hd.2.1 ?_); intro u7 hx7 hm7; simp only [hx5, hx7])
            first | simp only [frL, List.length_cons, List.length_nil, List.take_succ_cons, List.take_zero, Nat.reduceAdd, Nat.zero_add, List.setIfInBounds_toArray, List.set_cons_zero, List.set_cons_succ, hd] | simp only [frL, List.length_cons, List.length_nil, List.take_succ_cons, List.take_zero, Nat.reduceAdd, Nat.zero_add, List.setIfInBounds_toArray, List.set_cons_zero, List.set_cons_succ]
            go_wp2_with (first | (go_at_call 15; with_reducible refine (BA2.out _ hE).mono ?_; rintro e wa ⟨v9, rfl, hm9, hea⟩) | (go_at_call 15; with_reducible refine (BB2.out _ hE).mono ?_; rintro e wa ⟨v9, rfl, hm9, hea⟩) | (go_at_call 14; have QS := sameDeedT_any _ _ A2 B2 w' hm5.out hm7.out; rw [HSM.out] at QS; refine QS.mono ?_; rintro e wa ⟨rfl, hea⟩))
            all_goals first
              | ((with_reducible refine phK ?_ ?_); (focus rfl); (repeat (first | (with_reducible assumption) | (with_reducible exact Ext.refl _) | (with_reducible refine Ext.drew ?_) | (with_reducible refine Ext.drewN ?_ _) | (with_reducible refine Ext.alloc ?_ _) | (with_reducible refine Ext.trans ?_ (by with_reducible assumption)))))
              | (exact phN (show BarP _ _ _ from ⟨_, rfl, hm9⟩) hE hea)
              | ((with_reducible refine phT rfl hG ?_); (repeat (first | (with_reducible assumption) | (with_reducible exact Ext.refl _) | (with_reducible refine Ext.drew ?_) | (with_reducible refine Ext.drewN ?_ _) | (with_reducible refine Ext.alloc ?_ _) | (with_reducible refine Ext.trans ?_ (by with_reducible assumption)))))
              | ((with_reducible refine phU hG ?_); (repeat (first | (with_reducible assumption) | (with_reducible exact Ext.refl _) | (with_reducible refine Ext.drew ?_) | (with_reducible refine Ext.drewN ?_ _) | (with_reducible refine Ext.alloc ?_ _) | (with_reducible refine Ext.trans ?_ (by with_reducible assumption)))))
              | (with_reducible exact phBox hE)
              | (with_reducible exact phRow hE))
        case he =>
          intro x wr Er hd
          simp [PhEnd, at_k, at_p, at_t, at_any] at hd
          simp only [frL, List.length_cons, List.length_nil, List.take_succ_cons, List.take_zero, Nat.reduceAdd, Nat.zero_add, List.setIfInBounds_toArray, List.set_cons_zero, List.set_cons_succ, hd, List.length_cons, List.length_nil, List.drop_succ_cons, List.drop_zero]
          clear hd
          have HEr := hid (HEq.out.trans Er)
          clear Er ca cb BA2 BB2 HEq
          have RD1 := hid (RD.out wr HEr.out)
          clear RD
          go_wp2_with fail
          refine (RD1.out).mono ?_
          clear RD1
          rintro e x1 ⟨xv, rfl, ox, EX⟩
          have HEX := hid (HEr.out.trans EX)
          by_cases hz : (deedRd s).1 = 0
          · obtain ⟨D, hpr⟩ : ∃ D, deedRd s = (0, D) := ⟨(deedRd s).2, Prod.ext hz rfl⟩
            obtain ⟨r1, r2⟩ := deedRd_back hpr
            have hnD := deedRd_n hpr
            rw [hpr] at ox
            rw [hpr]
            dsimp only at ox ⊢
            obtain ⟨xa, xk, rfl⟩ := own_form ox
            have he0 := deedE_ok r1
            have HS2 := hid (show dS D = s by unfold dS; rw [if_pos he0]; exact r2)
            have hsm : opsSm D := opsSm_ok r1 (fun o ho => deedRd_from hpr (by omega) o ho)
            have TM := hid (fun w' (q : Ext x1 w') => tdeed_any (.slice xa D.length xk) D w' (HL.out.ext (HEX.out.trans q)) ((own_seg ox).ext q) hsm hnD)
            have DC := hid (fun w' (q : Ext x1 w') => dcheck_any (.slice xa D.length xk) D w' ((own_seg ox).ext q) hsm)
            rw [HS2.out, he0] at TM
            rw [he0] at DC
            have bx := heap_alloc_new x1 (.cells #[.slice xa D.length xk] 35)
            have EA := (Ext.refl x1).alloc (.cells #[.slice xa D.length xk] 35)
            have bx2 := (blk1 bx).1
            have TM1 := hid (TM.out _ EA)
            have HEA := hid EA
            clear hz hpr r1 r2 ox TM bx EX hnD he0 hsm EA
            go_wp2_with fail
            refine (TM1.out).mono ?_
            clear TM1
            rintro e x2 ⟨rfl, EX2⟩
            have bx3 := EX2.cell bx2
            have DC1 := hid (DC.out _ (HEA.out.trans EX2))
            have HR := hid (HEX.out.trans (HEA.out.trans EX2))
            clear EX2 bx2 DC
            go_wp2_with fail
            refine (DC1.out).mono ?_
            clear DC1
            rintro e x3 ⟨rfl, EX3⟩
            have HR3 := hid (HR.out.trans EX3)
            clear EX3
            go_wp2
            go_ret
            exact ⟨rfl, HR3.out⟩
          · have hnl := deedRd_err hz
            obtain ⟨er, hpr⟩ : ∃ er, deedRd s = (er, []) := ⟨(deedRd s).1, Prod.ext rfl hnl⟩
            rw [hpr] at ox hz
            rw [hpr]
            dsimp only at ox hz ⊢
            obtain ⟨xa, xk, rfl⟩ := own_form ox
            have q : (er != 0) = true := by simp [hz]
            have bx := heap_alloc_new x1 (.cells #[.slice xa (List.length ([] : Ops)) xk] 35)
            have bx2 := (blk1 bx).1
            have HR := hid (HEX.out.alloc (.cells #[.slice xa (List.length ([] : Ops)) xk] 35))
            clear hz hpr ox bx EX hnl
            go_wp2
            go_ret
            exact ⟨rfl, HR.out⟩
      · have q : (deedE B == 0) = false := by simp [hf]
        clear hf
        go_wp2_with fail
        refine wp_region_ph [.k (.int .i64 (deedE B)), .k (.bool false), .k (.bool false), .k (undef), .k (undef), .k (undef), .k (undef), .k (undef), .k (undef), .k (undef), .k (undef), .k (undef)] [] (by kernel_rfl) (by kernel_rfl) (by kernel_rfl) rfl rfl ?hs ?hC ?he
        case hC =>
          intro i hi
          simp at hi
        case hs =>
          refine ⟨?_, ?_, ?_, ?_, ?_, ?_, ?_, ?_, ?_, ?_, ?_, ?_, trivial⟩
          all_goals (
            intro x w' hE hd
            try simp [PhDeps, at_k, at_p, at_t, at_any, Region.binds] at hd
            try ((with_reducible refine Exists.elim hd ?_); clear hd; intro y hd; obtain ⟨hd, hG⟩ := hd)
            skip
            first | simp only [frL, List.length_cons, List.length_nil, List.take_succ_cons, List.take_zero, Nat.reduceAdd, Nat.zero_add, List.setIfInBounds_toArray, List.set_cons_zero, List.set_cons_succ, hd] | simp only [frL, List.length_cons, List.length_nil, List.take_succ_cons, List.take_zero, Nat.reduceAdd, Nat.zero_add, List.setIfInBounds_toArray, List.set_cons_zero, List.set_cons_succ]
            go_wp2
            all_goals first
              | ((with_reducible refine phK ?_ ?_); (focus rfl); (repeat (first | (with_reducible assumption) | (with_reducible exact Ext.refl _) | (with_reducible refine Ext.drew ?_) | (with_reducible refine Ext.drewN ?_ _) | (with_reducible refine Ext.alloc ?_ _) | (with_reducible refine Ext.trans ?_ (by with_reducible assumption)))))
              | ((with_reducible refine phT rfl hG ?_); (repeat (first | (with_reducible assumption) | (with_reducible exact Ext.refl _) | (with_reducible refine Ext.drew ?_) | (with_reducible refine Ext.drewN ?_ _) | (with_reducible refine Ext.alloc ?_ _) | (with_reducible refine Ext.trans ?_ (by with_reducible assumption)))))
              | ((with_reducible refine phU hG ?_); (repeat (first | (with_reducible assumption) | (with_reducible exact Ext.refl _) | (with_reducible refine Ext.drew ?_) | (with_reducible refine Ext.drewN ?_ _) | (with_reducible refine Ext.alloc ?_ _) | (with_reducible refine Ext.trans ?_ (by with_reducible assumption)))))
              | (with_reducible exact phBox hE)
              | (with_reducible exact phRow hE))
        case he =>
          intro x wr Er hd
          simp [PhEnd, at_k, at_p, at_t, at_any] at hd
          simp only [frL, List.length_cons, List.length_nil, List.take_succ_cons, List.take_zero, Nat.reduceAdd, Nat.zero_add, List.setIfInBounds_toArray, List.set_cons_zero, List.set_cons_succ, hd, List.length_cons, List.length_nil, List.drop_succ_cons, List.drop_zero]
          clear hd
          have HEr := hid (HEq.out.trans Er)
          clear Er ca cb BA2 BB2 HEq
          have RD1 := hid (RD.out wr HEr.out)
          clear RD
          go_wp2_with fail
          refine (RD1.out).mono ?_
          clear RD1
          rintro e x1 ⟨xv, rfl, ox, EX⟩
          have HEX := hid (HEr.out.trans EX)
          by_cases hz : (deedRd s).1 = 0
          · obtain ⟨D, hpr⟩ : ∃ D, deedRd s = (0, D) := ⟨(deedRd s).2, Prod.ext hz rfl⟩
            obtain ⟨r1, r2⟩ := deedRd_back hpr
            have hnD := deedRd_n hpr
            rw [hpr] at ox
            rw [hpr]
            dsimp only at ox ⊢
            obtain ⟨xa, xk, rfl⟩ := own_form ox
            have he0 := deedE_ok r1
            have HS2 := hid (show dS D = s by unfold dS; rw [if_pos he0]; exact r2)
            have hsm : opsSm D := opsSm_ok r1 (fun o ho => deedRd_from hpr (by omega) o ho)
            have TM := hid (fun w' (q : Ext x1 w') => tdeed_any (.slice xa D.length xk) D w' (HL.out.ext (HEX.out.trans q)) ((own_seg ox).ext q) hsm hnD)
            have DC := hid (fun w' (q : Ext x1 w') => dcheck_any (.slice xa D.length xk) D w' ((own_seg ox).ext q) hsm)
            rw [HS2.out, he0] at TM
            rw [he0] at DC
            have bx := heap_alloc_new x1 (.cells #[.slice xa D.length xk] 35)
            have EA := (Ext.refl x1).alloc (.cells #[.slice xa D.length xk] 35)
            have bx2 := (blk1 bx).1
            have TM1 := hid (TM.out _ EA)
            have HEA := hid EA
            clear hz hpr r1 r2 ox TM bx EX hnD he0 hsm EA
            go_wp2_with fail
            refine (TM1.out).mono ?_
            clear TM1
            rintro e x2 ⟨rfl, EX2⟩
            have bx3 := EX2.cell bx2
            have DC1 := hid (DC.out _ (HEA.out.trans EX2))
            have HR := hid (HEX.out.trans (HEA.out.trans EX2))
            clear EX2 bx2 DC
            go_wp2_with fail
            refine (DC1.out).mono ?_
            clear DC1
            rintro e x3 ⟨rfl, EX3⟩
            have HR3 := hid (HR.out.trans EX3)
            clear EX3
            go_wp2
            go_ret
            exact ⟨rfl, HR3.out⟩
          · have hnl := deedRd_err hz
            obtain ⟨er, hpr⟩ : ∃ er, deedRd s = (er, []) := ⟨(deedRd s).1, Prod.ext rfl hnl⟩
            rw [hpr] at ox hz
            rw [hpr]
            dsimp only at ox hz ⊢
            obtain ⟨xa, xk, rfl⟩ := own_form ox
            have q : (er != 0) = true := by simp [hz]
            have bx := heap_alloc_new x1 (.cells #[.slice xa (List.length ([] : Ops)) xk] 35)
            have bx2 := (blk1 bx).1
            have HR := hid (HEX.out.alloc (.cells #[.slice xa (List.length ([] : Ops)) xk] 35))
            clear hz hpr ox bx EX hnl
            go_wp2
            go_ret
            exact ⟨rfl, HR.out⟩
  · have q : (deedE A == 0) = false := by simp [he]
    clear he
    have RD1 := hid (RD.out w5 HE5.out)
    clear RD
    go_wp2_with fail
    refine (RD1.out).mono ?_
    clear RD1
    rintro e x1 ⟨xv, rfl, ox, EX⟩
    have HEX := hid (HE5.out.trans EX)
    by_cases hz : (deedRd s).1 = 0
    · obtain ⟨D, hpr⟩ : ∃ D, deedRd s = (0, D) := ⟨(deedRd s).2, Prod.ext hz rfl⟩
      obtain ⟨r1, r2⟩ := deedRd_back hpr
      have hnD := deedRd_n hpr
      rw [hpr] at ox
      rw [hpr]
      dsimp only at ox ⊢
      obtain ⟨xa, xk, rfl⟩ := own_form ox
      have he0 := deedE_ok r1
      have HS2 := hid (show dS D = s by unfold dS; rw [if_pos he0]; exact r2)
      have hsm : opsSm D := opsSm_ok r1 (fun o ho => deedRd_from hpr (by omega) o ho)
      have TM := hid (fun w' (q : Ext x1 w') => tdeed_any (.slice xa D.length xk) D w' (HL.out.ext (HEX.out.trans q)) ((own_seg ox).ext q) hsm hnD)
      have DC := hid (fun w' (q : Ext x1 w') => dcheck_any (.slice xa D.length xk) D w' ((own_seg ox).ext q) hsm)
      rw [HS2.out, he0] at TM
      rw [he0] at DC
      have bx := heap_alloc_new x1 (.cells #[.slice xa D.length xk] 35)
      have EA := (Ext.refl x1).alloc (.cells #[.slice xa D.length xk] 35)
      have bx2 := (blk1 bx).1
      have TM1 := hid (TM.out _ EA)
      have HEA := hid EA
      clear hz hpr r1 r2 ox TM bx EX hnD he0 hsm EA
      go_wp2_with fail
      refine (TM1.out).mono ?_
      clear TM1
      rintro e x2 ⟨rfl, EX2⟩
      have bx3 := EX2.cell bx2
      have DC1 := hid (DC.out _ (HEA.out.trans EX2))
      have HR := hid (HEX.out.trans (HEA.out.trans EX2))
      clear EX2 bx2 DC
      go_wp2_with fail
      refine (DC1.out).mono ?_
      clear DC1
      rintro e x3 ⟨rfl, EX3⟩
      have HR3 := hid (HR.out.trans EX3)
      clear EX3
      go_wp2
      go_ret
      exact ⟨rfl, HR3.out⟩
    · have hnl := deedRd_err hz
      obtain ⟨er, hpr⟩ : ∃ er, deedRd s = (er, []) := ⟨(deedRd s).1, Prod.ext rfl hnl⟩
      rw [hpr] at ox hz
      rw [hpr]
      dsimp only at ox hz ⊢
      obtain ⟨xa, xk, rfl⟩ := own_form ox
      have q : (er != 0) = true := by simp [hz]
      have bx := heap_alloc_new x1 (.cells #[.slice xa (List.length ([] : Ops)) xk] 35)
      have bx2 := (blk1 bx).1
      have HR := hid (HEX.out.alloc (.cells #[.slice xa (List.length ([] : Ops)) xk] 35))
      clear hz hpr ox bx EX hnl
      go_wp2
      go_ret
      exact ⟨rfl, HR.out⟩
end Go.Proofs.YtnepdfpooobmcaaDoor
