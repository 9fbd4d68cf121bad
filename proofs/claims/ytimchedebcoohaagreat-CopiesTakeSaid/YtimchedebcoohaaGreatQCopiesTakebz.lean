/- Contracts and lemmas for the proof of CopiesTake; each theorem states its own conditions. -/
import Derived.Test.YtimchedebcoohaaGreatQCopiesTakeby
import Derived.BigQuiet
set_option linter.unusedVariables false
set_option linter.unusedSimpArgs false
/- Contracts and lemmas for the proofs of this seat; each theorem states its own conditions. -/
namespace Go.Proofs.YtimchedebcoohaaGreat
open Go.RowKit
set_option maxRecDepth 100000 in
set_option maxHeartbeats 16000000 in
theorem ctake_walk (v v2 vd vms : Value) (la l2 : List Int) (ds ms : List (List Int)) (z1 z2 : Int) (w : World) (hv : Seg w v 1 la.length (cI la)) (hb : ∀ z ∈ la, -9223372036854775808 ≤ z ∧ z ≤ 9223372036854775807)
    (hv2 : Seg w v2 1 l2.length (cI l2)) (hb2 : ∀ z ∈ l2, -9223372036854775808 ≤ z ∧ z ≤ 9223372036854775807) (hvd : SegLL w vd ds) (hvm : SegLL w vms ms) (hbm : ∀ m ∈ ms, ∀ z ∈ m, -9223372036854775808 ≤ z ∧ z ≤ 9223372036854775807) :
    Calls Tryz.prog 8 #[v, v2, vd, vms, .int .i64 z1, .int .i64 z2] w fun e w' => e = .returned (.bool true) ∧ Ext w w' := by
  have HV := hid hv
  have HV2 := hid hv2
  go_enter Tryz.func8, Tryz.ntmps8
  go_wp2_with fail
  refine (copiesBegun_any _).mono ?_
  rintro e w1 ⟨rfl, E⟩
  replace hv := hv.ext E
  go_wp2_with fail
  refine (kMap_any _ la _ hv hb).mono ?_
  rintro e w2 ⟨vm, rfl, om, E1⟩
  have hm := om.is
  have mok := mk_ok la
  have msm := mk_small la
  have HMK := hid (And.intro (rfl : mkC la 6 = mkC la 6) (rfl : mkO la 6 = mkO la 6))
  obtain ⟨C0, hC0⟩ : ∃ C0, mkC la 6 = C0 := ⟨_, rfl⟩
  obtain ⟨O0, hO0⟩ : ∃ O0, mkO la 6 = O0 := ⟨_, rfl⟩
  rw [hC0] at hm mok msm
  rw [hO0] at hm mok
  have HC0 := hid hC0
  have HO0 := hid hO0
  obtain ⟨am, km, ao, ko, rfl, _, _⟩ := hm.unpack
  replace E := E.trans E1
  replace hv2 := hv2.ext E
  clear om E1 HMK hC0 hO0
  go_wp2_with fail
  refine (pairs_fn _ l2 _ hv2 hb2).mono ?_
  rintro e w3 ⟨vs, S0, rfl, oS, lS, hSF, hS, E1⟩
  replace hm := hm.ext E1
  replace E := E.trans E1
  replace hvd := hvd.ext E
  replace hvm := hvm.ext E
  obtain ⟨as0, cs0, rfl⟩ := own_form hS
  have CN := hid (cnew_ok 1 2 (by omega) (by omega) (by omega) (by omega) (.agg #[.slice am C0.length km, .slice ao O0.length ko]) (.slice as0 S0.length cs0) C0 O0 S0 w3 hm mok msm (own_seg hS) oS (by omega))
  have HOK := hid (show CopOk 30 ⟨C0, O0, S0, 0, []⟩ from ⟨mok, msm, oS, by simp only; omega, rfl⟩)
  have HSF := hid hSF
  have HOS := hid oS
  have HE := hid E
  clear E1 hm hS mok msm oS hSF
  go_wp2_with fail
  refine (CN.out).mono ?_
  clear CN
  rintro e w4 ⟨b, F, rfl, hC, hF, E1⟩
  have EN := hid (entries_any vd vms ds ms w4 (hvd.ext E1) (hvm.ext E1) hbm)
  have HC := hid hC
  have hFl := fun q (hq : F q) => Nat.le_trans HE.out.size' (hF q hq)
  have HF := hid hFl
  have HE4 := hid (HE.out.trans E1)
  clear hC hF hFl E1 HE hvd hvm hbm E
  go_wp2_with fail
  refine (EN.out).mono ?_
  clear EN
  rintro e w5 ⟨vx, D, rfl, hdg, hdl, hlog⟩
  have hX := entsTo_ok hdg ms (Nat.le_refl _)
  have hXp := plain_ents D ms D.length
  have hXl := entsTo_len D ms D.length
  have hXl2 : (entsTo D ms D.length).length ≤ 24 := by omega
  generalize entsTo D ms D.length = X at hlog hX hXp hXl2
  have hK := hlog.beside HC.out.ty
  have E5 := hlog.E
  obtain ⟨ax, cx, rfl⟩ := hlog.form
  have HC5 := hid (HC.out.ext E5)
  have HK5 := hid hK
  have HE5 := hid (HE4.out.trans E5)
  have HX := hid hX
  have HXP := hid hXp
  have HDG := hid hdg
  clear hlog hK E5 HC HE4 hX hXp hdg hXl
  go_wp2_with fail
  go_loopw [56] (fun jv wr => ∃ (j : Nat) (F : Nat → Prop), j ≤ X.length ∧ jv = .int .i64 j ∧ CopSt wr F b [[]] [X.take j] (List.replicate 2 ⟨C0, O0, S0, 0, []⟩) ∧ EntsK wr F (.slice ax X.length cx) X ∧ Ext w wr ∧ ∀ q, F q → w.heap.size ≤ q) (fun jv _ => X.length - (intOf jv).toNat)
  case atStart => exact ⟨0, F, Nat.zero_le _, rfl, HC5.out, HK5.out, HE5.out, HF.out⟩
  case round =>
    clear HC5 HK5 HE5 HF
    obtain ⟨F, rfl⟩ : ∃ F' : Nat → Prop, F' = F := ⟨_, rfl⟩
    obtain ⟨wo, rfl⟩ : ∃ wo : World, wo = wr := ⟨_, rfl⟩
    obtain ⟨j, F1, hj, rfl, hC, hK, Eo, hF⟩ := hrel
    obtain ⟨A, hG⟩ := hC
    by_cases hjl : j < X.length
    · obtain ⟨bX, oX, rfl, p1, p2⟩ := hK.seg.addr (by omega)
      obtain ⟨ev, hE, x0, x1, x2, x3⟩ := hK.seg.at hjl
      have hxo := HX.out X[j] (List.getElem_mem hjl)
      have hxp := HXP.out X[j] (List.getElem_mem hjl)
      have htk : X.take (j + 1) = X.take j ++ [X[j]] := List.take_succ_eq_append_getElem hjl
      have hln : (X.take j).length < 60 := by rw [List.length_take]; omega
      have HTK := hid htk
      have HXP1 := hid hxp
      generalize X[j] = x1' at hE hxo HTK HXP1
      obtain ⟨v1, b1, v2', v3⟩ := ev
      dsimp only at x0 x1 x2 x3
      have hE' := hE
      obtain ⟨s1, sb, s2, s3⟩ := hE'
      dsimp only at s1 sb s2 s3
      subst sb
      obtain ⟨f1, g1, rfl⟩ := seg_form s1
      obtain ⟨f2, g2, rfl⟩ := seg_form s2
      obtain ⟨f3, g3, rfl⟩ := seg_form s3
      have EA := (Ext.refl wo).alloc (.cells #[.slice f1 x1'.ops.length g1, .bool x1'.im, .slice f2 x1'.cuts.length g2, .slice f3 x1'.own.length g3] 94)
      have bx := heap_alloc_new wo (.cells #[.slice f1 x1'.ops.length g1, .bool x1'.im, .slice f2 x1'.cuts.length g2, .slice f3 x1'.own.length g3] 94)
      have c0 := EA.cell hG.cells.1
      have k0 := blk4 bx
      have AD := hid (fun w' (q : Ext wo w') => cadd_one (hG.ext q) (.slice f1 x1'.ops.length g1, x1'.im, .slice f2 x1'.cuts.length g2, .slice f3 x1'.own.length g3) x1' (hE.ext q) hxo hln)
      have HG := hid hG
      have HKo := hid hK
      have HF1 := hid hF
      have HEo := hid Eo
      obtain ⟨wA, hwA⟩ : ∃ wA, wo.alloc (.cells #[.slice f1 x1'.ops.length g1, .bool x1'.im, .slice f2 x1'.cuts.length g2, .slice f3 x1'.own.length g3] 94) = wA := ⟨_, rfl⟩
      obtain ⟨bxx, hbxx⟩ : ∃ bxx, wo.heap.size = bxx := ⟨_, rfl⟩
      rw [hwA] at EA c0 k0
      rw [hbxx] at k0
      have HEA := hid EA
      clear hK hG hF Eo hE s1 s2 s3 bx EA htk hxp
      go_wp2_with fail
      clear hwA hbxx
      refine wp_region_ph [.k (.pointer (some ⟨b, 0, none⟩)), .k (.pointer (some ⟨b, 0, none⟩)), .k (.pointer (some ⟨b, 0, none⟩)), .k (.pointer (some ⟨A.bm, 0, none⟩)), .k (.agg #[.slice f1 x1'.ops.length g1, .bool x1'.im, .slice f2 x1'.cuts.length g2, .slice f3 x1'.own.length g3])] [] (by kernel_rfl) (by kernel_rfl) (by kernel_rfl) rfl rfl ?hs ?hC ?he
      case hC =>
        intro i hi
        simp at hi
      case hs =>
        refine ⟨?_, ?_, ?_, ?_, ?_, trivial⟩
        all_goals (
          intro x w' hE hd
          try simp [PhDeps, at_k, at_p, at_t, at_any, Region.binds] at hd
          try ((with_reducible refine Exists.elim hd ?_); clear hd; intro y hd; obtain ⟨hd, hG⟩ := hd)
          have d1 := hE.cell c0
          have d2 := hE.cell k0.1
          have d3 := hE.cell k0.2.1
          have d4 := hE.cell k0.2.2.1
          have d5 := hE.cell k0.2.2.2
          first | simp only [frL, List.length_cons, List.length_nil, List.take_succ_cons, List.take_zero, Nat.reduceAdd, Nat.zero_add, List.setIfInBounds_toArray, List.set_cons_zero, List.set_cons_succ, hd] | simp only [frL, List.length_cons, List.length_nil, List.take_succ_cons, List.take_zero, Nat.reduceAdd, Nat.zero_add, List.setIfInBounds_toArray, List.set_cons_zero, List.set_cons_succ]
          go_wp2
          all_goals first
            | ((with_reducible refine phK ?_ ?_); (focus rfl); (repeat (first | (with_reducible assumption) | (with_reducible exact Ext.refl _) | (with_reducible refine Ext.drew ?_) | (with_reducible refine Ext.drewN ?_ _) | (with_reducible refine Ext.alloc ?_ _) | (with_reducible refine Ext.trans ?_ (by with_reducible assumption)))))
            | ((with_reducible refine phT rfl hG ?_); (repeat (first | (with_reducible assumption) | (with_reducible exact Ext.refl _) | (with_reducible refine Ext.drew ?_) | (with_reducible refine Ext.drewN ?_ _) | (with_reducible refine Ext.alloc ?_ _) | (with_reducible refine Ext.trans ?_ (by with_reducible assumption)))))
            | ((with_reducible refine phU hG ?_); (repeat (first | (with_reducible assumption) | (with_reducible exact Ext.refl _) | (with_reducible refine Ext.drew ?_) | (with_reducible refine Ext.drewN ?_ _) | (with_reducible refine Ext.alloc ?_ _) | (with_reducible refine Ext.trans ?_ (by with_reducible assumption)))))
            | (with_reducible exact phBox hE)
            | (with_reducible exact phRow hE))
      case he =>
        intro x wq Eq hd
        simp [PhEnd, at_k, at_p, at_t, at_any] at hd
        simp only [frL, List.length_cons, List.length_nil, List.take_succ_cons, List.take_zero, Nat.reduceAdd, Nat.zero_add, List.setIfInBounds_toArray, List.set_cons_zero, List.set_cons_succ, hd, List.length_cons, List.length_nil, List.drop_succ_cons, List.drop_zero]
        clear hd
        have AD1 := hid (AD.out wq (HEA.out.trans Eq))
        have HEq := hid (HEA.out.trans Eq)
        clear AD c0 k0 x0 x1 x2 x3 Eq
        go_wp2_with fail
        refine (AD1.out).mono ?_
        clear AD1
        rintro e w7 ⟨rfl, F2, hC2, K2⟩
        have K2 := Kp.after HEq.out K2
        have hK2 := HKo.out.kp HG.out.ty K2
        obtain ⟨E7, hF2⟩ := K2.low HEo.out HF1.out
        rw [HXP1.out, ← HTK.out] at hC2
        have HR := hid (And.intro hC2 (And.intro hK2 (And.intro E7 hF2)))
        clear hC2 hK2 E7 hF2 K2
        go_wp2_with fail
        go_roundw
        case rel => exact ⟨j + 1, F2, by omega, by go_num, HR.out⟩
        case measure => simp [intOf] <;> omega
    · obtain rfl : j = X.length := by omega
      rw [List.take_length] at hG
      have c0 := hG.cells.1
      have CL := hid (cclose_one hG)
      have HTY := hid hG.ty
      have HKo := hid hK
      have HF1 := hid hF
      have HEo := hid Eo
      clear hG hK hF Eo
      go_wp2_with fail
      refine (CL.out).mono ?_
      clear CL c0
      rintro e w6 ⟨rfl, F6, hC6, K6⟩
      have hK6 := HKo.out.kp HTY.out K6
      obtain ⟨E6, hF6⟩ := K6.low HEo.out HF1.out
      have HC6 := hid hC6
      have HK6 := hid hK6
      have HE6 := hid E6
      have HF6 := hid hF6
      clear hC6 hK6 E6 hF6 K6 HKo HF1 HEo HTY
      have HLK := hid (LogK.one HX.out (by omega))
      have HX1 := hid (show OneX ⟨C0, O0, S0, 0, []⟩ X from ⟨HOK.out, rfl, HX.out, by omega⟩)
      have HC6' := HC6.out
      rw [kd_rep _ X, dA_0] at HC6'
      have HC7 := hid HC6'
      obtain ⟨a, ha1, _, ha3⟩ := wi_nat (z := z1) (n := X.length + 1) (by omega)
      have ha1 : wi z1 ((X.length : Int) + 1) = (a : Int) := by
        rw [show ((X.length : Int) + 1) = ((X.length + 1 : Nat) : Int) by omega]; exact ha1
      have WI := within_any z1 ((X.length : Int) + 1) w6 (by omega) (by omega)
      rw [ha1] at WI
      have WI := hid WI
      obtain ⟨m, hm1, _, hm3⟩ := wi_nat (z := z2) (n := X.length - a + 1) (by omega)
      have hm1 : wi z2 ((X.length : Int) - (a : Int) + 1) = (m : Int) := by
        rw [show ((X.length : Int) - (a : Int) + 1) = ((X.length - a + 1 : Nat) : Int) by omega]; exact hm1
      have WJ := fun w => within_any z2 ((X.length : Int) - (a : Int) + 1) w (by omega) (by omega)
      rw [hm1] at WJ
      have WJ := hid WJ
      clear ha1 hm1 HC6 HC6' HK6 HXP HDG HOS HSF
      go_wp2_with fail
      refine (WI.out).mono ?_
      clear WI
      rintro e w' ⟨rfl, rfl⟩
      obtain ⟨w6, rfl⟩ : ∃ wq : World, wq = w6 := ⟨_, rfl⟩
      go_wp2_with fail
      go_loopw [84] (fun iv wr => ∃ (j : Nat) (F : Nat → Prop), j ≤ a ∧ iv = .int .i64 j ∧ Hid (CopSt wr F b [[X]] [[]] (KD ⟨C0, O0, S0, 0, []⟩ X 2 (dA j 0))) ∧ Ext w wr ∧ ∀ q, F q → w.heap.size ≤ q) (fun iv _ => a - (intOf iv).toNat)
      case atStart => exact ⟨0, F6, Nat.zero_le _, rfl, HC7, HE6.out, HF6.out⟩
      case round =>
        clear HC7 HE6 HF6
        obtain ⟨wo, rfl⟩ : ∃ wo : World, wo = wr := ⟨_, rfl⟩
        obtain ⟨j, F1, hj, rfl, hC, Eo, hF⟩ := hrel
        by_cases hja : j < a
        · have hja' : ((j : Int) < (a : Int)) := by omega
          have ST := step_kd HX1.out hC.out (i := 0) (by omega) (show dA j 0 0 < X.length by show j < _; omega)
          generalize okE _ _ = r at ST
          have ST := hid ST
          have HEo := hid Eo
          have HF1 := hid hF
          clear hC Eo hF
          go_wp2_with fail
          refine (ST.out).mono ?_
          clear ST
          rintro e w7 ⟨rfl, F7, hC7, K7⟩
          obtain ⟨E7, hF7⟩ := K7.low HEo.out HF1.out
          have hC7 : CopSt w7 F7 b [[X]] [[]] (KD ⟨C0, O0, S0, 0, []⟩ X 2 (upD (dA j 0) 0 (j + 1))) := hC7
          rw [dA_s0] at hC7
          have HC := hid hC7
          have HEF := hid (And.intro E7 hF7)
          clear hC7 K7 E7 hF7
          go_wp2_with fail
          go_roundw
          case rel => exact ⟨j + 1, F7, by omega, by go_num, HC, HEF.out⟩
          case measure => simp [intOf] <;> omega
        · obtain rfl : j = a := by omega
          have HEo := hid Eo
          have HF1 := hid hF
          have HT1 := hid (fun (q : 0 < j) => wait_kd HX1.out hC.out (i := 0) (j := 1) (by omega) (by omega) (show dA j 0 1 < dA j 0 0 from q) (show dA j 0 0 ≤ X.length by show j ≤ _; omega))
          have HT2 := hid (fun w' (q : Ext wo w') => take_kd HX1.out (hC.out.ext q) (i := 1) (j := 0) (by omega) (by omega) (show dA j 0 1 ≤ dA j 0 0 from Nat.zero_le _) (show dA j 0 0 ≤ X.length by show j ≤ _; omega))
          clear hC Eo hF
          by_cases h0 : 0 < j
          · have h0' : ((j : Int) > 0) := by omega
            have HT1 := hid (HT1.out h0)
            go_wp2_with fail
            refine (HT1.out).mono ?_
            clear HT1
            rintro e w8 ⟨rfl, E8⟩
            have HT2 := hid (HT2.out w8 E8)
            have HEo := hid (HEo.out.trans E8)
            clear E8
            go_wp2_with fail
            refine (HT2.out).mono ?_
            clear HT2
            rintro e w9 ⟨rfl, F9, hC9, K9⟩
            obtain ⟨E9, hF9⟩ := K9.low HEo.out HF1.out
            have hC9 : CopSt w9 F9 b [[X]] [[]] (KD ⟨C0, O0, S0, 0, []⟩ X 2 (upD (dA j 0) 1 j)) := hC9
            rw [dA_s1] at hC9
            have HC9 := hid hC9
            have HE9 := hid E9
            have HF9 := hid hF9
            clear hC9 E9 hF9 K9 HEo HF1
            go_wp2_with fail
            refine (WJ.out w9).mono ?_
            clear WJ
            rintro e w' ⟨rfl, rfl⟩
            obtain ⟨w9, rfl⟩ : ∃ wq : World, wq = w9 := ⟨_, rfl⟩
            go_wp2_with fail
            go_loopw [113] (fun iv wr => ∃ (p : Nat) (F : Nat → Prop), p ≤ m ∧ iv = .int .i64 p ∧ Hid (CopSt wr F b [[X]] [[]] (KD ⟨C0, O0, S0, 0, []⟩ X 2 (dA (j + p) (j + p)))) ∧ Ext w wr ∧ ∀ q, F q → w.heap.size ≤ q) (fun iv _ => m - (intOf iv).toNat)
            case atStart => exact ⟨0, F9, Nat.zero_le _, rfl, HC9, HE9.out, HF9.out⟩
            case round =>
              clear HC9 HE9 HF9
              obtain ⟨wo, rfl⟩ : ∃ wo : World, wo = wr := ⟨_, rfl⟩
              obtain ⟨p, F1, hp, rfl, hC, Eo, hF⟩ := hrel
              by_cases hpm : p < m
              · have hpm' : ((p : Int) < (m : Int)) := by omega
                have hjX : j + p < X.length := by omega
                obtain ⟨r, hr⟩ : ∃ r, okE (goC ⟨C0, O0, S0, 0, []⟩ X (j + p)) X[j + p] = r := ⟨_, rfl⟩
                have ST : Calls Tryz.prog 52 #[.pointer (some ⟨b, 0, none⟩), .int .i64 0] wo fun e w' => e = .returned (.tuple #[.bool r, .int .i64 0]) ∧ ∃ F', CopSt w' F' b [[X]] [[]] (KD ⟨C0, O0, S0, 0, []⟩ X 2 (dA (j + p + 1) (j + p))) ∧ Kp F1 wo w' F' := by
                  rw [← hr, ← dA_s0 _ _ (j + p) (j + p)]
                  exact step_kd HX1.out hC.out (i := 0) (by omega) (show dA (j + p) (j + p) 0 < X.length from hjX)
                have ST2 : ∀ (wx : World) (Fx : Nat → Prop), CopSt wx Fx b [[X]] [[]] (KD ⟨C0, O0, S0, 0, []⟩ X 2 (dA (j + p + 1) (j + p))) → Calls Tryz.prog 52 #[.pointer (some ⟨b, 0, none⟩), .int .i64 1] wx fun e w' => e = .returned (.tuple #[.bool r, .int .i64 0]) ∧ ∃ F', CopSt w' F' b [[X]] [[]] (KD ⟨C0, O0, S0, 0, []⟩ X 2 (dA (j + p + 1) (j + p + 1))) ∧ Kp Fx wx w' F' := by
                  intro wx Fx hx
                  rw [← hr, ← dA_s1 _ _ (j + p + 1) (j + p)]
                  exact step_kd HX1.out hx (i := 1) (by omega) (show dA (j + p + 1) (j + p) 1 < X.length from hjX)
                have ST := hid ST
                have ST2 := hid ST2
                have HEo := hid Eo
                have HF1 := hid hF
                have qb : (r != r) = false := by simp
                clear hC Eo hF hr
                go_wp2_with fail
                refine (ST.out).mono ?_
                clear ST
                rintro e w10 ⟨rfl, F10, hC10, K10⟩
                obtain ⟨E10, hF10⟩ := K10.low HEo.out HF1.out
                have ST3 := hid (ST2.out w10 F10 hC10)
                have HE10 := hid E10
                have HF10 := hid hF10
                clear hC10 K10 E10 hF10 ST2 HEo HF1
                go_wp2_with fail
                refine (ST3.out).mono ?_
                clear ST3
                rintro e w11 ⟨rfl, F11, hC11, K11⟩
                obtain ⟨E11, hF11⟩ := K11.low HE10.out HF10.out
                have HC11 := hid hC11
                have HEF := hid (And.intro E11 hF11)
                clear hC11 K11 E11 hF11 HE10 HF10
                go_wp2_with fail
                go_roundw
                case rel => exact ⟨p + 1, F11, by omega, by go_num, HC11, HEF.out⟩
                case measure => simp [intOf] <;> omega
              · obtain rfl : p = m := by omega
                have hjX : j + p ≤ X.length := by omega
                have AL0 := hid (all_kd HX1.out hC.out (i := 0) (by omega) (show dA (j + p) (j + p) 0 ≤ X.length from hjX))
                have AL1 := hid (fun w' (q : Ext wo w') => all_kd HX1.out (hC.out.ext q) (i := 1) (by omega) (show dA (j + p) (j + p) 1 ≤ X.length from hjX))
                have DN0 := hid (fun w' (q : Ext wo w') => done_kd HX1.out (hC.out.ext q) (i := 0) (by omega) (show dA (j + p) (j + p) 0 ≤ X.length from hjX))
                have DN1 := hid (fun w' (q : Ext wo w') => done_kd HX1.out (hC.out.ext q) (i := 1) (by omega) (show dA (j + p) (j + p) 1 ≤ X.length from hjX))
                have PT0 := hid (fun w' (q : Ext wo w') k (hk : k < 4) => part_kd HX1.out (hC.out.ext q) (i := 0) (by omega) (show dA (j + p) (j + p) 0 ≤ X.length from hjX) k hk)
                have PT1 := hid (fun w' (q : Ext wo w') k (hk : k < 4) => part_kd HX1.out (hC.out.ext q) (i := 1) (by omega) (show dA (j + p) (j + p) 1 ≤ X.length from hjX) k hk)
                have e0 : dA (j + p) (j + p) 0 = j + p := rfl
                have e1 : dA (j + p) (j + p) 1 = j + p := rfl
                rw [e0] at AL0 DN0 PT0
                rw [e1] at AL1 DN1 PT1
                generalize goC ⟨C0, O0, S0, 0, []⟩ X (j + p) = ck at AL0 AL1 DN0 DN1 PT0 PT1
                have HEo := hid Eo
                clear hC Eo hF e0 e1
                go_wp2_with fail
                refine (AL0.out).mono ?_
                clear AL0
                rintro e w10 ⟨v10, rfl, o10, E10⟩
                obtain ⟨a10, c10, rfl⟩ := own_form o10
                have AL1 := hid (AL1.out w10 E10)
                have HO10 := hid (own_seg o10)
                have HE10 := hid E10
                clear o10 E10
                go_wp2_with fail
                refine (AL1.out).mono ?_
                clear AL1
                rintro e w11 ⟨v11, rfl, o11, E11⟩
                obtain ⟨a11, c11, rfl⟩ := own_form o11
                have HE11 := hid (HE10.out.trans E11)
                have DN0 := hid (DN0.out w11 HE11.out)
                have HO10 := hid (HO10.out.ext E11)
                have HO11 := hid (own_seg o11)
                clear o11 E11 HE10
                go_wp2_with fail
                refine (DN0.out).mono ?_
                clear DN0
                rintro e w12 ⟨v12, rfl, o12, E12⟩
                obtain ⟨a12, c12, rfl⟩ := own_form o12
                have HE12 := hid (HE11.out.trans E12)
                have DN1 := hid (DN1.out w12 HE12.out)
                have HO10 := hid (HO10.out.ext E12)
                have HO11 := hid (HO11.out.ext E12)
                have HO12 := hid (own_seg o12)
                clear o12 E12 HE11
                go_wp2_with fail
                refine (DN1.out).mono ?_
                clear DN1
                rintro e w13 ⟨v13, rfl, o13, E13⟩
                obtain ⟨a13, c13, rfl⟩ := own_form o13
                have HE13 := hid (HE12.out.trans E13)
                have EQ1 := hid (equal_Pq _ _ ck.S w13 (HO10.out.ext E13) (HO11.out.ext E13))
                have HO12 := hid (HO12.out.ext E13)
                have HO13 := hid (own_seg o13)
                clear o13 E13 HE12 HO10 HO11
                go_wp2_with fail
                refine (EQ1.out).mono ?_
                clear EQ1
                rintro e w14 ⟨rfl, E14⟩
                have EQ2 := equal_Bool _ _ ck.ok ck.ok w14 (HO12.out.ext E14) (HO13.out.ext E14)
                rw [decide_eq_true (rfl : ck.ok = ck.ok)] at EQ2
                have EQ2 := hid EQ2
                have HE14 := hid (HE13.out.trans E14)
                clear E14 HE13 HO12 HO13
                go_wp2_with fail
                refine (EQ2.out).mono ?_
                clear EQ2
                rintro e w15 ⟨rfl, n15, rfl⟩
                have HE15 := hid (HE14.out.drewN n15)
                obtain ⟨wP, hwP⟩ : ∃ wP, w14.drewN n15 = wP := ⟨_, rfl⟩
                rw [hwP] at HE15
                clear HE14
                go_wp2_with fail
                go_loopw [183] (fun iv wr => ∃ k : Nat, k ≤ 4 ∧ iv = .int .i64 k ∧ Ext wP wr) (fun iv _ => 4 - (intOf iv).toNat)
                case atStart => exact ⟨0, by omega, rfl, by first | exact Ext.refl _ | (rw [hwP]; exact Ext.refl _)⟩
                case round =>
                  clear hwP
                  obtain ⟨wo', rfl⟩ : ∃ wo' : World, wo' = wr := ⟨_, rfl⟩
                  obtain ⟨k, hk, rfl, Ep⟩ := hrel
                  by_cases hk4 : k < 4
                  · have hk4' : ((k : Int) < 4) := by omega
                    have PA := hid (PT0.out wo' (HE15.out.trans Ep) k hk4)
                    have PB := hid (fun w' (q : Ext wo' w') => PT1.out w' ((HE15.out.trans Ep).trans q) k hk4)
                    have HEp := hid Ep
                    clear Ep
                    go_wp2_with fail
                    refine (PA.out).mono ?_
                    clear PA
                    rintro e w17 ⟨v17, rfl, o17, E17⟩
                    obtain ⟨a17, c17, rfl⟩ := own_form o17
                    have PB := hid (PB.out w17 E17)
                    have HO17 := hid (own_seg o17)
                    have HE17 := hid (HEp.out.trans E17)
                    clear o17 E17 HEp
                    go_wp2_with fail
                    refine (PB.out).mono ?_
                    clear PB
                    rintro e w18 ⟨v18, rfl, o18, E18⟩
                    obtain ⟨a18, c18, rfl⟩ := own_form o18
                    have EQ3 := hid (equal_Pq _ _ (parP ck.C ck.O ck.S k) w18 (HO17.out.ext E18) (own_seg o18))
                    have HE18 := hid (HE17.out.trans E18)
                    clear o18 E18 HE17 HO17
                    go_wp2_with fail
                    refine (EQ3.out).mono ?_
                    clear EQ3
                    rintro e w19 ⟨rfl, E19⟩
                    go_wp2_with fail
                    go_roundw
                    case rel => exact ⟨k + 1, by omega, by go_num, HE18.out.trans E19⟩
                    case measure => simp [intOf] <;> omega
                  · have HEF := hid (HEo.out.trans (HE15.out.trans Ep))
                    clear Ep
                    go_wp2
                    go_ret
                    exact ⟨rfl, HEF.out⟩
          · have h0' : ¬ ((j : Int) > 0) := by omega
            have HT2 := hid (HT2.out wo (Ext.refl _))
            clear HT1 h0
            go_wp2_with fail
            refine (HT2.out).mono ?_
            clear HT2
            rintro e w9 ⟨rfl, F9, hC9, K9⟩
            obtain ⟨E9, hF9⟩ := K9.low HEo.out HF1.out
            have hC9 : CopSt w9 F9 b [[X]] [[]] (KD ⟨C0, O0, S0, 0, []⟩ X 2 (upD (dA j 0) 1 j)) := hC9
            rw [dA_s1] at hC9
            have HC9 := hid hC9
            have HE9 := hid E9
            have HF9 := hid hF9
            clear hC9 E9 hF9 K9 HEo HF1
            go_wp2_with fail
            refine (WJ.out w9).mono ?_
            clear WJ
            rintro e w' ⟨rfl, rfl⟩
            obtain ⟨w9, rfl⟩ : ∃ wq : World, wq = w9 := ⟨_, rfl⟩
            go_wp2_with fail
            go_loopw [113] (fun iv wr => ∃ (p : Nat) (F : Nat → Prop), p ≤ m ∧ iv = .int .i64 p ∧ Hid (CopSt wr F b [[X]] [[]] (KD ⟨C0, O0, S0, 0, []⟩ X 2 (dA (j + p) (j + p)))) ∧ Ext w wr ∧ ∀ q, F q → w.heap.size ≤ q) (fun iv _ => m - (intOf iv).toNat)
            case atStart => exact ⟨0, F9, Nat.zero_le _, rfl, HC9, HE9.out, HF9.out⟩
            case round =>
              clear HC9 HE9 HF9
              obtain ⟨wo, rfl⟩ : ∃ wo : World, wo = wr := ⟨_, rfl⟩
              obtain ⟨p, F1, hp, rfl, hC, Eo, hF⟩ := hrel
              by_cases hpm : p < m
              · have hpm' : ((p : Int) < (m : Int)) := by omega
                have hjX : j + p < X.length := by omega
                obtain ⟨r, hr⟩ : ∃ r, okE (goC ⟨C0, O0, S0, 0, []⟩ X (j + p)) X[j + p] = r := ⟨_, rfl⟩
                have ST : Calls Tryz.prog 52 #[.pointer (some ⟨b, 0, none⟩), .int .i64 0] wo fun e w' => e = .returned (.tuple #[.bool r, .int .i64 0]) ∧ ∃ F', CopSt w' F' b [[X]] [[]] (KD ⟨C0, O0, S0, 0, []⟩ X 2 (dA (j + p + 1) (j + p))) ∧ Kp F1 wo w' F' := by
                  rw [← hr, ← dA_s0 _ _ (j + p) (j + p)]
                  exact step_kd HX1.out hC.out (i := 0) (by omega) (show dA (j + p) (j + p) 0 < X.length from hjX)
                have ST2 : ∀ (wx : World) (Fx : Nat → Prop), CopSt wx Fx b [[X]] [[]] (KD ⟨C0, O0, S0, 0, []⟩ X 2 (dA (j + p + 1) (j + p))) → Calls Tryz.prog 52 #[.pointer (some ⟨b, 0, none⟩), .int .i64 1] wx fun e w' => e = .returned (.tuple #[.bool r, .int .i64 0]) ∧ ∃ F', CopSt w' F' b [[X]] [[]] (KD ⟨C0, O0, S0, 0, []⟩ X 2 (dA (j + p + 1) (j + p + 1))) ∧ Kp Fx wx w' F' := by
                  intro wx Fx hx
                  rw [← hr, ← dA_s1 _ _ (j + p + 1) (j + p)]
                  exact step_kd HX1.out hx (i := 1) (by omega) (show dA (j + p + 1) (j + p) 1 < X.length from hjX)
                have ST := hid ST
                have ST2 := hid ST2
                have HEo := hid Eo
                have HF1 := hid hF
                have qb : (r != r) = false := by simp
                clear hC Eo hF hr
                go_wp2_with fail
                refine (ST.out).mono ?_
                clear ST
                rintro e w10 ⟨rfl, F10, hC10, K10⟩
                obtain ⟨E10, hF10⟩ := K10.low HEo.out HF1.out
                have ST3 := hid (ST2.out w10 F10 hC10)
                have HE10 := hid E10
                have HF10 := hid hF10
                clear hC10 K10 E10 hF10 ST2 HEo HF1
                go_wp2_with fail
                refine (ST3.out).mono ?_
                clear ST3
                rintro e w11 ⟨rfl, F11, hC11, K11⟩
                obtain ⟨E11, hF11⟩ := K11.low HE10.out HF10.out
                have HC11 := hid hC11
                have HEF := hid (And.intro E11 hF11)
                clear hC11 K11 E11 hF11 HE10 HF10
                go_wp2_with fail
                go_roundw
                case rel => exact ⟨p + 1, F11, by omega, by go_num, HC11, HEF.out⟩
                case measure => simp [intOf] <;> omega
              · obtain rfl : p = m := by omega
                have hjX : j + p ≤ X.length := by omega
                have AL0 := hid (all_kd HX1.out hC.out (i := 0) (by omega) (show dA (j + p) (j + p) 0 ≤ X.length from hjX))
                have AL1 := hid (fun w' (q : Ext wo w') => all_kd HX1.out (hC.out.ext q) (i := 1) (by omega) (show dA (j + p) (j + p) 1 ≤ X.length from hjX))
                have DN0 := hid (fun w' (q : Ext wo w') => done_kd HX1.out (hC.out.ext q) (i := 0) (by omega) (show dA (j + p) (j + p) 0 ≤ X.length from hjX))
                have DN1 := hid (fun w' (q : Ext wo w') => done_kd HX1.out (hC.out.ext q) (i := 1) (by omega) (show dA (j + p) (j + p) 1 ≤ X.length from hjX))
                have PT0 := hid (fun w' (q : Ext wo w') k (hk : k < 4) => part_kd HX1.out (hC.out.ext q) (i := 0) (by omega) (show dA (j + p) (j + p) 0 ≤ X.length from hjX) k hk)
                have PT1 := hid (fun w' (q : Ext wo w') k (hk : k < 4) => part_kd HX1.out (hC.out.ext q) (i := 1) (by omega) (show dA (j + p) (j + p) 1 ≤ X.length from hjX) k hk)
                have e0 : dA (j + p) (j + p) 0 = j + p := rfl
                have e1 : dA (j + p) (j + p) 1 = j + p := rfl
                rw [e0] at AL0 DN0 PT0
                rw [e1] at AL1 DN1 PT1
                generalize goC ⟨C0, O0, S0, 0, []⟩ X (j + p) = ck at AL0 AL1 DN0 DN1 PT0 PT1
                have HEo := hid Eo
                clear hC Eo hF e0 e1
                go_wp2_with fail
                refine (AL0.out).mono ?_
                clear AL0
                rintro e w10 ⟨v10, rfl, o10, E10⟩
                obtain ⟨a10, c10, rfl⟩ := own_form o10
                have AL1 := hid (AL1.out w10 E10)
                have HO10 := hid (own_seg o10)
                have HE10 := hid E10
                clear o10 E10
                go_wp2_with fail
                refine (AL1.out).mono ?_
                clear AL1
                rintro e w11 ⟨v11, rfl, o11, E11⟩
                obtain ⟨a11, c11, rfl⟩ := own_form o11
                have HE11 := hid (HE10.out.trans E11)
                have DN0 := hid (DN0.out w11 HE11.out)
                have HO10 := hid (HO10.out.ext E11)
                have HO11 := hid (own_seg o11)
                clear o11 E11 HE10
                go_wp2_with fail
                refine (DN0.out).mono ?_
                clear DN0
                rintro e w12 ⟨v12, rfl, o12, E12⟩
                obtain ⟨a12, c12, rfl⟩ := own_form o12
                have HE12 := hid (HE11.out.trans E12)
                have DN1 := hid (DN1.out w12 HE12.out)
                have HO10 := hid (HO10.out.ext E12)
                have HO11 := hid (HO11.out.ext E12)
                have HO12 := hid (own_seg o12)
                clear o12 E12 HE11
                go_wp2_with fail
                refine (DN1.out).mono ?_
                clear DN1
                rintro e w13 ⟨v13, rfl, o13, E13⟩
                obtain ⟨a13, c13, rfl⟩ := own_form o13
                have HE13 := hid (HE12.out.trans E13)
                have EQ1 := hid (equal_Pq _ _ ck.S w13 (HO10.out.ext E13) (HO11.out.ext E13))
                have HO12 := hid (HO12.out.ext E13)
                have HO13 := hid (own_seg o13)
                clear o13 E13 HE12 HO10 HO11
                go_wp2_with fail
                refine (EQ1.out).mono ?_
                clear EQ1
                rintro e w14 ⟨rfl, E14⟩
                have EQ2 := equal_Bool _ _ ck.ok ck.ok w14 (HO12.out.ext E14) (HO13.out.ext E14)
                rw [decide_eq_true (rfl : ck.ok = ck.ok)] at EQ2
                have EQ2 := hid EQ2
                have HE14 := hid (HE13.out.trans E14)
                clear E14 HE13 HO12 HO13
                go_wp2_with fail
                refine (EQ2.out).mono ?_
                clear EQ2
                rintro e w15 ⟨rfl, n15, rfl⟩
                have HE15 := hid (HE14.out.drewN n15)
                obtain ⟨wP, hwP⟩ : ∃ wP, w14.drewN n15 = wP := ⟨_, rfl⟩
                rw [hwP] at HE15
                clear HE14
                go_wp2_with fail
                go_loopw [183] (fun iv wr => ∃ k : Nat, k ≤ 4 ∧ iv = .int .i64 k ∧ Ext wP wr) (fun iv _ => 4 - (intOf iv).toNat)
                case atStart => exact ⟨0, by omega, rfl, by first | exact Ext.refl _ | (rw [hwP]; exact Ext.refl _)⟩
                case round =>
                  clear hwP
                  obtain ⟨wo', rfl⟩ : ∃ wo' : World, wo' = wr := ⟨_, rfl⟩
                  obtain ⟨k, hk, rfl, Ep⟩ := hrel
                  by_cases hk4 : k < 4
                  · have hk4' : ((k : Int) < 4) := by omega
                    have PA := hid (PT0.out wo' (HE15.out.trans Ep) k hk4)
                    have PB := hid (fun w' (q : Ext wo' w') => PT1.out w' ((HE15.out.trans Ep).trans q) k hk4)
                    have HEp := hid Ep
                    clear Ep
                    go_wp2_with fail
                    refine (PA.out).mono ?_
                    clear PA
                    rintro e w17 ⟨v17, rfl, o17, E17⟩
                    obtain ⟨a17, c17, rfl⟩ := own_form o17
                    have PB := hid (PB.out w17 E17)
                    have HO17 := hid (own_seg o17)
                    have HE17 := hid (HEp.out.trans E17)
                    clear o17 E17 HEp
                    go_wp2_with fail
                    refine (PB.out).mono ?_
                    clear PB
                    rintro e w18 ⟨v18, rfl, o18, E18⟩
                    obtain ⟨a18, c18, rfl⟩ := own_form o18
                    have EQ3 := hid (equal_Pq _ _ (parP ck.C ck.O ck.S k) w18 (HO17.out.ext E18) (own_seg o18))
                    have HE18 := hid (HE17.out.trans E18)
                    clear o18 E18 HE17 HO17
                    go_wp2_with fail
                    refine (EQ3.out).mono ?_
                    clear EQ3
                    rintro e w19 ⟨rfl, E19⟩
                    go_wp2_with fail
                    go_roundw
                    case rel => exact ⟨k + 1, by omega, by go_num, HE18.out.trans E19⟩
                    case measure => simp [intOf] <;> omega
                  · have HEF := hid (HEo.out.trans (HE15.out.trans Ep))
                    clear Ep
                    go_wp2
                    go_ret
                    exact ⟨rfl, HEF.out⟩
end Go.Proofs.YtimchedebcoohaaGreat
