/- Contracts and lemmas for the proof of MergePlays; each theorem states its own conditions. -/
import Derived.Test.YtddghaoejnbkaaaDoorQMergePlaysbn
import Derived.Test.YtddghaoejnbkaaaDoorQMergePlaysal
set_option linter.unusedVariables false
set_option linter.unusedSimpArgs false
/- Contracts and lemmas for the proofs of this seat; each theorem states its own conditions. -/
namespace Go.Proofs.YtddghaoejnbkaaaDoor
open Go.RowKit
/-! the document's Deed -/
set_option maxRecDepth 10000 in
set_option maxHeartbeats 4000000 in
theorem rdeed_any (v : Value) (d : Ops) (w : World) (hv : Seg w v 4 d.length (cO d)) (hd : opsSm d) :
    Calls Tryd.prog 36 #[.agg #[v]] w fun e w' => e = .returned (.int .i64 (deedE d)) ∧ Ext w w' := by
  obtain ⟨a, c, rfl⟩ := seg_form hv
  have HV := hid hv
  have hll : d.length ≤ 9223372036854775807 := by obtain ⟨_, _, _, e, h1, h2, _⟩ := hv; injection e with _ _ e3; subst e3; unfold maxLen at h2; omega
  clear hv
  have xa := heap_alloc_new w (.cells #[.slice a d.length c] 36)
  have EA0 := (Ext.refl w).alloc (.cells #[.slice a d.length c] 36)
  have ya := cell_of_one xa
  by_cases hz : d.length = 0 ∨ 8 < d.length
  · have hr : (decide ((1 : Int) ≤ (d.length : Int)) && decide ((d.length : Int) ≤ 8)) = false := by
      rw [Bool.and_eq_false_iff]; rcases hz with h | h
      · left; simp; omega
      · right; simp; omega
    have WL := hid (fun w' => by have := rwithin_any (d.length : Int) 1 8 w'; rw [hr] at this; exact this)
    have HO := hid (show deedE d = 2 by unfold deedE; rw [if_pos hz])
    clear hz hr
    go_enter Tryd.func36, Tryd.ntmps36
    go_wp2_with fail
    refine (WL.out _).mono ?_
    rintro e w1 ⟨rfl, rfl⟩
    go_wp2
    go_ret
    exact ⟨rI HO.out.symm, EA0⟩
  · have hr : (decide ((1 : Int) ≤ (d.length : Int)) && decide ((d.length : Int) ≤ 8)) = true := by
      simp; omega
    have WL := hid (fun w' => by have := rwithin_any (d.length : Int) 1 8 w'; rw [hr] at this; exact this)
    have HO := hid (show deedE d = firstE (fun i => opE (d.getD i ⟨0, ⟨#[]⟩, ⟨#[]⟩, 0⟩)) d.length by unfold deedE; rw [if_neg hz])
    have HZ := hid hz
    clear hz hr
    go_enter Tryd.func36, Tryd.ntmps36
    go_wp2_with fail
    refine (WL.out _).mono ?_
    rintro e w1 ⟨rfl, rfl⟩
    go_wp2
    clear xa ya WL
    go_loopw [4, 5, 14, 26, 49] (fun _ _ iv _ _ wr => ∃ k : Nat, k ≤ d.length ∧ iv = .int .i64 k ∧ zeroTo (fun i => opE (d.getD i ⟨0, ⟨#[]⟩, ⟨#[]⟩, 0⟩)) k ∧ Ext w wr) (fun _ _ iv _ _ _ => d.length - (intOf iv).toNat)
    case atStart => exact ⟨0, Nat.zero_le _, rfl, fun j h => absurd h (by omega), EA0⟩
    case round =>
      clear EA0
      obtain ⟨wo, rfl⟩ : ∃ wo : World, wo = wr := ⟨_, rfl⟩
      obtain ⟨k, hkl, rfl, hall, E⟩ := hrel
      by_cases hlt : k < d.length
      · obtain ⟨b, off, rfl, _, m1, m2, hc⟩ := seg_cells HV.out (by omega)
        unfold maxLen at m2
        obtain ⟨q0, q1, q2, q3⟩ := seg_op hc hlt
        have c0 := E.cell q0
        have c1 := E.cell q1
        have c2 := E.cell q2
        have c3 := E.cell q3
        have hsz := hd d[k] (List.getElem_mem hlt)
        have hE := opsE_at hlt
        have FE := hid (fun (h : opE d[k] ≠ 0) => (firstE_at hall (fun h0 => h (hE.symm.trans h0)) hlt).trans hE)
        have ZS := hid (fun (h : opE d[k] = 0) => zeroTo_succ hall (hE.trans h))
        clear hc hall hE q0 q1 q2 q3
        generalize d[k] = o at c0 c1 c2 c3 hsz FE ZS
        obtain ⟨kd, key, fr, n⟩ := o
        dsimp only at c0 c1 c2 c3 hsz FE ZS
        have RK := hid (fun w' => rkey_any key w' hsz.1)
        have RF := hid (fun w' => rkey_any fr w' hsz.2)
        have RV := hid (fun w' => rvalue_any n w')
        have EA := (Ext.refl wo).alloc (.cells #[.int .i64 kd, .string key, .string fr, .int .i64 n] 71)
        have xb := heap_alloc_new wo (.cells #[.int .i64 kd, .string key, .string fr, .int .i64 n] 71)
        have y0 := blk4 xb
        clear hsz
        cases hr : (decide (1 ≤ kd) && decide (kd ≤ 5)) with
        | false =>
          have WI := hid (fun w' => by have := rwithin_any kd 1 5 w'; rw [hr] at this; exact this)
          have hq : kd < 1 ∨ 5 < kd := by simp only [Bool.and_eq_false_iff, decide_eq_false_iff_not] at hr; omega
          have h3 : (kd == 3) = false := by simp; omega
          have h5 : (kd == 5) = false := by simp; omega
          have hv := hid (show opE ⟨kd, key, fr, n⟩ = 3 by unfold opE; rw [if_pos hq])
          clear hr hq
          go_wp2_with fail
          refine (WI.out _).mono ?_
          rintro e w1 ⟨rfl, rfl⟩
          go_wp2
          go_ret
          exact ⟨rI (by rw [HO.out, FE.out (by rw [hv.out]; omega), hv.out]), E.trans EA⟩
        | true =>
          have WI := hid (fun w' => by have := rwithin_any kd 1 5 w'; rw [hr] at this; exact this)
          have hq : 1 ≤ kd ∧ kd ≤ 5 := by simpa using hr
          clear hr
          have hq1 : ¬ kd < 1 := by omega
          have hq2 : ¬ 5 < kd := by omega
          have HQ1 := hid hq1
          have HQ2 := hid hq2
          clear hq1 hq2
          rcases (show (kd ≠ 3 ∧ kd ≠ 5) ∨ kd = 3 ∨ kd = 5 by omega) with hk | rfl | rfl
          · clear hq
            have h3 : (kd == 3) = false := by simp; omega
            have h5 : (kd == 5) = false := by simp; omega
            have n3 : (kd != 3) = true := by simp; omega
            have HK3 := hid hk.1
            have HK5 := hid hk.2
            clear hk
            cases hkey : keyB key with
            | false =>
              have hv := hid (show opE ⟨kd, key, fr, n⟩ = 3 by simp [opE, twoB, HQ1.out, HQ2.out, HK3.out, HK5.out, hkey])
              go_wp2_with fail
              refine (WI.out _).mono ?_
              rintro e w1 ⟨rfl, rfl⟩
              go_wp2_with fail
              refine (RK.out _).mono ?_
              rw [hkey]
              rintro e wRK ⟨rfl, ERK⟩
              replace xb := ERK.heap xb
              have yRK := blk4 xb
              replace EA := EA.trans ERK
              go_wp2
              go_ret
              exact ⟨rI (by rw [HO.out, FE.out (by rw [hv.out]; omega), hv.out]), E.trans EA⟩
            | true =>
              cases hvb : valB n with
              | false =>
                have hv := hid (show opE ⟨kd, key, fr, n⟩ = 1 by simp [opE, twoB, HQ1.out, HQ2.out, HK3.out, HK5.out, hkey, hvb])
                go_wp2_with fail
                refine (WI.out _).mono ?_
                rintro e w1 ⟨rfl, rfl⟩
                go_wp2_with fail
                refine (RK.out _).mono ?_
                rw [hkey]
                rintro e wRK ⟨rfl, ERK⟩
                replace xb := ERK.heap xb
                have yRK := blk4 xb
                replace EA := EA.trans ERK
                go_wp2_with fail
                refine (RV.out _).mono ?_
                rw [hvb]
                rintro e w1 ⟨rfl, rfl⟩
                go_wp2
                go_ret
                exact ⟨rI (by rw [HO.out, FE.out (by rw [hv.out]; omega), hv.out]), E.trans EA⟩
              | true =>
                have hv := hid (show opE ⟨kd, key, fr, n⟩ = 0 by simp [opE, twoB, HQ1.out, HQ2.out, HK3.out, HK5.out, hkey, hvb])
                go_wp2_with fail
                refine (WI.out _).mono ?_
                rintro e w1 ⟨rfl, rfl⟩
                go_wp2_with fail
                refine (RK.out _).mono ?_
                rw [hkey]
                rintro e wRK ⟨rfl, ERK⟩
                replace xb := ERK.heap xb
                have yRK := blk4 xb
                replace EA := EA.trans ERK
                go_wp2_with fail
                refine (RV.out _).mono ?_
                rw [hvb]
                rintro e w1 ⟨rfl, rfl⟩
                go_wp2
                go_roundw
                case rel => exact ⟨k + 1, by omega, by go_num, ZS.out hv.out, E.trans EA⟩
                case measure => simp [intOf] <;> omega
          · clear hq
            cases hkey : keyB key with
            | false =>
              have hv := hid (show opE ⟨3, key, fr, n⟩ = 3 by simp [opE, twoB, hkey])
              go_wp2_with fail
              refine (WI.out _).mono ?_
              rintro e w1 ⟨rfl, rfl⟩
              go_wp2_with fail
              refine (RK.out _).mono ?_
              rw [hkey]
              rintro e wRK ⟨rfl, ERK⟩
              replace xb := ERK.heap xb
              have yRK := blk4 xb
              replace EA := EA.trans ERK
              go_wp2
              go_ret
              exact ⟨rI (by rw [HO.out, FE.out (by rw [hv.out]; omega), hv.out]), E.trans EA⟩
            | true =>
              cases hfr : keyB fr with
              | false =>
                have hv := hid (show opE ⟨3, key, fr, n⟩ = 3 by simp [opE, twoB, hkey, hfr])
                go_wp2_with fail
                refine (WI.out _).mono ?_
                rintro e w1 ⟨rfl, rfl⟩
                go_wp2_with fail
                refine (RK.out _).mono ?_
                rw [hkey]
                rintro e wRK ⟨rfl, ERK⟩
                replace xb := ERK.heap xb
                have yRK := blk4 xb
                replace EA := EA.trans ERK
                go_wp2_with fail
                refine (RF.out _).mono ?_
                rw [hfr]
                rintro e wRF ⟨rfl, ERF⟩
                replace xb := ERF.heap xb
                have yRF := blk4 xb
                replace EA := EA.trans ERF
                go_wp2
                go_ret
                exact ⟨rI (by rw [HO.out, FE.out (by rw [hv.out]; omega), hv.out]), E.trans EA⟩
              | true =>
                by_cases he : fr = key
                · subst he
                  have q1 : (fr.toList == fr.toList) = true := by simp
                  have hv := hid (show opE ⟨3, fr, fr, n⟩ = 3 by simp [opE, twoB, hkey])
                  go_wp2_with fail
                  refine (WI.out _).mono ?_
                  rintro e w1 ⟨rfl, rfl⟩
                  go_wp2_with fail
                  refine (RK.out _).mono ?_
                  rw [hkey]
                  rintro e wRK ⟨rfl, ERK⟩
                  replace xb := ERK.heap xb
                  have yRK := blk4 xb
                  replace EA := EA.trans ERK
                  go_wp2_with fail
                  refine (RF.out _).mono ?_
                  rw [hkey]
                  rintro e wRF ⟨rfl, ERF⟩
                  replace xb := ERF.heap xb
                  have yRF := blk4 xb
                  replace EA := EA.trans ERF
                  go_wp2
                  go_ret
                  exact ⟨rI (by rw [HO.out, FE.out (by rw [hv.out]; omega), hv.out]), E.trans EA⟩
                · have q1 : (fr.toList == key.toList) = false := by simpa using fun h => he (toList_inj h)
                  have q2 : ¬ fr.toList = key.toList := by simpa using q1
                  have HE := hid he
                  clear he
                  have hv := hid (show opE ⟨3, key, fr, n⟩ = 0 by simp [opE, twoB, hkey, hfr, HE.out])
                  go_wp2_with fail
                  refine (WI.out _).mono ?_
                  rintro e w1 ⟨rfl, rfl⟩
                  go_wp2_with fail
                  refine (RK.out _).mono ?_
                  rw [hkey]
                  rintro e wRK ⟨rfl, ERK⟩
                  replace xb := ERK.heap xb
                  have yRK := blk4 xb
                  replace EA := EA.trans ERK
                  go_wp2_with fail
                  refine (RF.out _).mono ?_
                  rw [hfr]
                  rintro e wRF ⟨rfl, ERF⟩
                  replace xb := ERF.heap xb
                  have yRF := blk4 xb
                  replace EA := EA.trans ERF
                  go_wp2
                  go_roundw
                  case rel => exact ⟨k + 1, by omega, by go_num, ZS.out hv.out, E.trans EA⟩
                  case measure => simp [intOf] <;> omega
          · clear hq
            cases hkey : keyB key with
            | false =>
              have hv := hid (show opE ⟨5, key, fr, n⟩ = 3 by simp [opE, twoB, hkey])
              go_wp2_with fail
              refine (WI.out _).mono ?_
              rintro e w1 ⟨rfl, rfl⟩
              go_wp2_with fail
              refine (RK.out _).mono ?_
              rw [hkey]
              rintro e wRK ⟨rfl, ERK⟩
              replace xb := ERK.heap xb
              have yRK := blk4 xb
              replace EA := EA.trans ERK
              go_wp2
              go_ret
              exact ⟨rI (by rw [HO.out, FE.out (by rw [hv.out]; omega), hv.out]), E.trans EA⟩
            | true =>
              cases hfr : keyB fr with
              | false =>
                have hv := hid (show opE ⟨5, key, fr, n⟩ = 3 by simp [opE, twoB, hkey, hfr])
                go_wp2_with fail
                refine (WI.out _).mono ?_
                rintro e w1 ⟨rfl, rfl⟩
                go_wp2_with fail
                refine (RK.out _).mono ?_
                rw [hkey]
                rintro e wRK ⟨rfl, ERK⟩
                replace xb := ERK.heap xb
                have yRK := blk4 xb
                replace EA := EA.trans ERK
                go_wp2_with fail
                refine (RF.out _).mono ?_
                rw [hfr]
                rintro e wRF ⟨rfl, ERF⟩
                replace xb := ERF.heap xb
                have yRF := blk4 xb
                replace EA := EA.trans ERF
                go_wp2
                go_ret
                exact ⟨rI (by rw [HO.out, FE.out (by rw [hv.out]; omega), hv.out]), E.trans EA⟩
              | true =>
                by_cases he : fr = key
                · subst he
                  have q1 : (fr.toList == fr.toList) = true := by simp
                  have hv := hid (show opE ⟨5, fr, fr, n⟩ = 3 by simp [opE, twoB, hkey])
                  go_wp2_with fail
                  refine (WI.out _).mono ?_
                  rintro e w1 ⟨rfl, rfl⟩
                  go_wp2_with fail
                  refine (RK.out _).mono ?_
                  rw [hkey]
                  rintro e wRK ⟨rfl, ERK⟩
                  replace xb := ERK.heap xb
                  have yRK := blk4 xb
                  replace EA := EA.trans ERK
                  go_wp2_with fail
                  refine (RF.out _).mono ?_
                  rw [hkey]
                  rintro e wRF ⟨rfl, ERF⟩
                  replace xb := ERF.heap xb
                  have yRF := blk4 xb
                  replace EA := EA.trans ERF
                  go_wp2
                  go_ret
                  exact ⟨rI (by rw [HO.out, FE.out (by rw [hv.out]; omega), hv.out]), E.trans EA⟩
                · have q1 : (fr.toList == key.toList) = false := by simpa using fun h => he (toList_inj h)
                  have q2 : ¬ fr.toList = key.toList := by simpa using q1
                  have HE := hid he
                  clear he
                  cases hvb : valB n with
                  | false =>
                    have hv := hid (show opE ⟨5, key, fr, n⟩ = 1 by simp [opE, twoB, hkey, hfr, hvb, HE.out])
                    go_wp2_with fail
                    refine (WI.out _).mono ?_
                    rintro e w1 ⟨rfl, rfl⟩
                    go_wp2_with fail
                    refine (RK.out _).mono ?_
                    rw [hkey]
                    rintro e wRK ⟨rfl, ERK⟩
                    replace xb := ERK.heap xb
                    have yRK := blk4 xb
                    replace EA := EA.trans ERK
                    go_wp2_with fail
                    refine (RF.out _).mono ?_
                    rw [hfr]
                    rintro e wRF ⟨rfl, ERF⟩
                    replace xb := ERF.heap xb
                    have yRF := blk4 xb
                    replace EA := EA.trans ERF
                    go_wp2_with fail
                    refine (RV.out _).mono ?_
                    rw [hvb]
                    rintro e w1 ⟨rfl, rfl⟩
                    go_wp2
                    go_ret
                    exact ⟨rI (by rw [HO.out, FE.out (by rw [hv.out]; omega), hv.out]), E.trans EA⟩
                  | true =>
                    by_cases hn : n < 0
                    · skip
                      have hv := hid (show opE ⟨5, key, fr, n⟩ = 1 by simp [opE, twoB, hkey, hfr, hvb, HE.out, hn])
                      go_wp2_with fail
                      refine (WI.out _).mono ?_
                      rintro e w1 ⟨rfl, rfl⟩
                      go_wp2_with fail
                      refine (RK.out _).mono ?_
                      rw [hkey]
                      rintro e wRK ⟨rfl, ERK⟩
                      replace xb := ERK.heap xb
                      have yRK := blk4 xb
                      replace EA := EA.trans ERK
                      go_wp2_with fail
                      refine (RF.out _).mono ?_
                      rw [hfr]
                      rintro e wRF ⟨rfl, ERF⟩
                      replace xb := ERF.heap xb
                      have yRF := blk4 xb
                      replace EA := EA.trans ERF
                      go_wp2_with fail
                      refine (RV.out _).mono ?_
                      rw [hvb]
                      rintro e w1 ⟨rfl, rfl⟩
                      go_wp2
                      go_ret
                      exact ⟨rI (by rw [HO.out, FE.out (by rw [hv.out]; omega), hv.out]), E.trans EA⟩
                    · skip
                      have hv := hid (show opE ⟨5, key, fr, n⟩ = 0 by simp [opE, twoB, hkey, hfr, hvb, HE.out, hn])
                      go_wp2_with fail
                      refine (WI.out _).mono ?_
                      rintro e w1 ⟨rfl, rfl⟩
                      go_wp2_with fail
                      refine (RK.out _).mono ?_
                      rw [hkey]
                      rintro e wRK ⟨rfl, ERK⟩
                      replace xb := ERK.heap xb
                      have yRK := blk4 xb
                      replace EA := EA.trans ERK
                      go_wp2_with fail
                      refine (RF.out _).mono ?_
                      rw [hfr]
                      rintro e wRF ⟨rfl, ERF⟩
                      replace xb := ERF.heap xb
                      have yRF := blk4 xb
                      replace EA := EA.trans ERF
                      go_wp2_with fail
                      refine (RV.out _).mono ?_
                      rw [hvb]
                      rintro e w1 ⟨rfl, rfl⟩
                      go_wp2
                      go_roundw
                      case rel => exact ⟨k + 1, by omega, by go_num, ZS.out hv.out, E.trans EA⟩
                      case measure => simp [intOf] <;> omega
      · obtain rfl : k = d.length := by omega
        have HZ2 := hid (firstE_zero hall)
        clear hall
        go_wp2
        go_ret
        exact ⟨rI (by rw [HO.out, HZ2.out]), E⟩
end Go.Proofs.YtddghaoejnbkaaaDoor
