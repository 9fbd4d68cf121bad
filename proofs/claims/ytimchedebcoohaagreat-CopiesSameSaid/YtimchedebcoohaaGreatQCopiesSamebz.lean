/- Contracts and lemmas for the proof of CopiesSame; each theorem states its own conditions. -/
import Derived.Test.YtimchedebcoohaaGreatQCopiesSameby
import Derived.BigQuiet
set_option linter.unusedVariables false
set_option linter.unusedSimpArgs false
/- Contracts and lemmas for the proofs of this seat; each theorem states its own conditions. -/
namespace Go.Proofs.YtimchedebcoohaaGreat
open Go.RowKit
set_option maxRecDepth 100000 in
set_option maxHeartbeats 16000000 in
theorem csame_walk (v v2 vd vms vp : Value) (la l2 : List Int) (ds ms : List (List Int)) (lp : List Int) (w : World) (hv : Seg w v 1 la.length (cI la)) (hb : ∀ z ∈ la, -9223372036854775808 ≤ z ∧ z ≤ 9223372036854775807)
    (hv2 : Seg w v2 1 l2.length (cI l2)) (hb2 : ∀ z ∈ l2, -9223372036854775808 ≤ z ∧ z ≤ 9223372036854775807) (hvd : SegLL w vd ds) (hvm : SegLL w vms ms) (hbm : ∀ m ∈ ms, ∀ z ∈ m, -9223372036854775808 ≤ z ∧ z ≤ 9223372036854775807) (hvp : Seg w vp 1 lp.length (cI lp)) :
    Calls Tryz.prog 7 #[v, v2, vd, vms, vp] w fun e w' => e = .returned (.bool true) ∧ Ext w w' := by
  have HV := hid hv
  have HV2 := hid hv2
  have HVP := hid hvp
  clear hvp
  obtain ⟨ap, cp, rfl⟩ := seg_form HVP.out
  go_enter Tryz.func7, Tryz.ntmps7
  go_wp2_with fail
  refine (copiesBegun_any _).mono ?_
  rintro e w1 ⟨rfl, E⟩
  replace hv := hv.ext E
  go_wp2_with fail
  refine (kMap_any _ la _ hv hb).mono ?_
  rintro e w2 ⟨vm, rfl, om, E1⟩
  have hm := om.is
  have mok := mk_ok la
  have msm := mk_small la
  have HMK := hid (And.intro (rfl : mkC la 6 = mkC la 6) (rfl : mkO la 6 = mkO la 6))
  obtain ⟨C0, hC0⟩ : ∃ C0, mkC la 6 = C0 := ⟨_, rfl⟩
  obtain ⟨O0, hO0⟩ : ∃ O0, mkO la 6 = O0 := ⟨_, rfl⟩
  rw [hC0] at hm mok msm
  rw [hO0] at hm mok
  have HC0 := hid hC0
  have HO0 := hid hO0
  obtain ⟨am, km, ao, ko, rfl, _, _⟩ := hm.unpack
  replace E := E.trans E1
  replace hv2 := hv2.ext E
  clear om E1 HMK hC0 hO0
  go_wp2_with fail
  refine (pairs_fn _ l2 _ hv2 hb2).mono ?_
  rintro e w3 ⟨vs, S0, rfl, oS, lS, hSF, hS, E1⟩
  replace hm := hm.ext E1
  replace E := E.trans E1
  replace hvd := hvd.ext E
  replace hvm := hvm.ext E
  obtain ⟨as0, cs0, rfl⟩ := own_form hS
  have CN := hid (cnew_ok 1 3 (by omega) (by omega) (by omega) (by omega) (.agg #[.slice am C0.length km, .slice ao O0.length ko]) (.slice as0 S0.length cs0) C0 O0 S0 w3 hm mok msm (own_seg hS) oS (by omega))
  have HOK := hid (show CopOk 30 ⟨C0, O0, S0, 0, []⟩ from ⟨mok, msm, oS, by simp only; omega, rfl⟩)
  have HSF := hid hSF
  have HOS := hid oS
  have HE := hid E
  clear E1 hm hS mok msm oS hSF
  go_wp2_with fail
  refine (CN.out).mono ?_
  clear CN
  rintro e w4 ⟨b, F, rfl, hC, hF, E1⟩
  have EN := hid (entries_any vd vms ds ms w4 (hvd.ext E1) (hvm.ext E1) hbm)
  have HC := hid hC
  have hFl := fun q (hq : F q) => Nat.le_trans HE.out.size' (hF q hq)
  have HF := hid hFl
  have HE4 := hid (HE.out.trans E1)
  clear hC hF hFl E1 HE hvd hvm hbm E
  go_wp2_with fail
  refine (EN.out).mono ?_
  clear EN
  rintro e w5 ⟨vx, D, rfl, hdg, hdl, hlog⟩
  have hX := entsTo_ok hdg ms (Nat.le_refl _)
  have hXp := plain_ents D ms D.length
  have hXl := entsTo_len D ms D.length
  have hXl2 : (entsTo D ms D.length).length ≤ 24 := by omega
  generalize entsTo D ms D.length = X at hlog hX hXp hXl2
  have hK := hlog.beside HC.out.ty
  have E5 := hlog.E
  obtain ⟨ax, cx, rfl⟩ := hlog.form
  have HC5 := hid (HC.out.ext E5)
  have HK5 := hid hK
  have HE5 := hid (HE4.out.trans E5)
  have HX := hid hX
  have HXP := hid hXp
  have HDG := hid hdg
  clear hlog hK E5 HC HE4 hX hXp hdg hXl
  go_wp2_with fail
  go_loopw [58] (fun jv wr => ∃ (j : Nat) (F : Nat → Prop), j ≤ X.length ∧ jv = .int .i64 j ∧ CopSt wr F b [[]] [X.take j] (List.replicate 3 ⟨C0, O0, S0, 0, []⟩) ∧ EntsK wr F (.slice ax X.length cx) X ∧ Ext w wr ∧ ∀ q, F q → w.heap.size ≤ q) (fun jv _ => X.length - (intOf jv).toNat)
  case atStart => exact ⟨0, F, Nat.zero_le _, rfl, HC5.out, HK5.out, HE5.out, HF.out⟩
  case round =>
    clear HC5 HK5 HE5 HF
    obtain ⟨F, rfl⟩ : ∃ F' : Nat → Prop, F' = F := ⟨_, rfl⟩
    obtain ⟨wo, rfl⟩ : ∃ wo : World, wo = wr := ⟨_, rfl⟩
    obtain ⟨j, F1, hj, rfl, hC, hK, Eo, hF⟩ := hrel
    obtain ⟨A, hG⟩ := hC
    by_cases hjl : j < X.length
    · obtain ⟨bX, oX, rfl, p1, p2⟩ := hK.seg.addr (by omega)
      obtain ⟨ev, hE, x0, x1, x2, x3⟩ := hK.seg.at hjl
      have hxo := HX.out X[j] (List.getElem_mem hjl)
      have hxp := HXP.out X[j] (List.getElem_mem hjl)
      have htk : X.take (j + 1) = X.take j ++ [X[j]] := List.take_succ_eq_append_getElem hjl
      have hln : (X.take j).length < 60 := by rw [List.length_take]; omega
      have HTK := hid htk
      have HXP1 := hid hxp
      generalize X[j] = x1' at hE hxo HTK HXP1
      obtain ⟨v1, b1, v2', v3⟩ := ev
      dsimp only at x0 x1 x2 x3
      have hE' := hE
      obtain ⟨s1, sb, s2, s3⟩ := hE'
      dsimp only at s1 sb s2 s3
      subst sb
      obtain ⟨f1, g1, rfl⟩ := seg_form s1
      obtain ⟨f2, g2, rfl⟩ := seg_form s2
      obtain ⟨f3, g3, rfl⟩ := seg_form s3
      have EA := (Ext.refl wo).alloc (.cells #[.slice f1 x1'.ops.length g1, .bool x1'.im, .slice f2 x1'.cuts.length g2, .slice f3 x1'.own.length g3] 94)
      have bx := heap_alloc_new wo (.cells #[.slice f1 x1'.ops.length g1, .bool x1'.im, .slice f2 x1'.cuts.length g2, .slice f3 x1'.own.length g3] 94)
      have c0 := EA.cell hG.cells.1
      have k0 := blk4 bx
      have AD := hid (fun w' (q : Ext wo w') => cadd_one (hG.ext q) (.slice f1 x1'.ops.length g1, x1'.im, .slice f2 x1'.cuts.length g2, .slice f3 x1'.own.length g3) x1' (hE.ext q) hxo hln)
      have HG := hid hG
      have HKo := hid hK
      have HF1 := hid hF
      have HEo := hid Eo
      obtain ⟨wA, hwA⟩ : ∃ wA, wo.alloc (.cells #[.slice f1 x1'.ops.length g1, .bool x1'.im, .slice f2 x1'.cuts.length g2, .slice f3 x1'.own.length g3] 94) = wA := ⟨_, rfl⟩
      obtain ⟨bxx, hbxx⟩ : ∃ bxx, wo.heap.size = bxx := ⟨_, rfl⟩
      rw [hwA] at EA c0 k0
      rw [hbxx] at k0
      have HEA := hid EA
      clear hK hG hF Eo hE s1 s2 s3 bx EA htk hxp
      go_wp2_with fail
      clear hwA hbxx
      refine wp_region_ph [.k (.pointer (some ⟨b, 0, none⟩)), .k (.pointer (some ⟨b, 0, none⟩)), .k (.pointer (some ⟨b, 0, none⟩)), .k (.pointer (some ⟨A.bm, 0, none⟩)), .k (.agg #[.slice f1 x1'.ops.length g1, .bool x1'.im, .slice f2 x1'.cuts.length g2, .slice f3 x1'.own.length g3])] [] (by kernel_rfl) (by kernel_rfl) (by kernel_rfl) rfl rfl ?hs ?hC ?he
      case hC =>
        intro i hi
        simp at hi
      case hs =>
        refine ⟨?_, ?_, ?_, ?_, ?_, trivial⟩
        all_goals (
          intro x w' hE hd
          try simp [PhDeps, at_k, at_p, at_t, at_any, Region.binds] at hd
          try ((with_reducible refine Exists.elim hd ?_); clear hd; intro y hd; obtain ⟨hd, hG⟩ := hd)
          have d1 := hE.cell c0
          have d2 := hE.cell k0.1
          have d3 := hE.cell k0.2.1
          have d4 := hE.cell k0.2.2.1
          have d5 := hE.cell k0.2.2.2
          first | simp only [frL, List.length_cons, List.length_nil, List.take_succ_cons, List.take_zero, Nat.reduceAdd, Nat.zero_add, List.setIfInBounds_toArray, List.set_cons_zero, List.set_cons_succ, hd] | simp only [frL, List.length_cons, List.length_nil, List.take_succ_cons, List.take_zero, Nat.reduceAdd, Nat.zero_add, List.setIfInBounds_toArray, List.set_cons_zero, List.set_cons_succ]
          go_wp2
          all_goals first
            | ((with_reducible refine phK ?_ ?_); (focus rfl); (repeat (first | (with_reducible assumption) | (with_reducible exact Ext.refl _) | (with_reducible refine Ext.drew ?_) | (with_reducible refine Ext.drewN ?_ _) | (with_reducible refine Ext.alloc ?_ _) | (with_reducible refine Ext.trans ?_ (by with_reducible assumption)))))
            | ((with_reducible refine phT rfl hG ?_); (repeat (first | (with_reducible assumption) | (with_reducible exact Ext.refl _) | (with_reducible refine Ext.drew ?_) | (with_reducible refine Ext.drewN ?_ _) | (with_reducible refine Ext.alloc ?_ _) | (with_reducible refine Ext.trans ?_ (by with_reducible assumption)))))
            | ((with_reducible refine phU hG ?_); (repeat (first | (with_reducible assumption) | (with_reducible exact Ext.refl _) | (with_reducible refine Ext.drew ?_) | (with_reducible refine Ext.drewN ?_ _) | (with_reducible refine Ext.alloc ?_ _) | (with_reducible refine Ext.trans ?_ (by with_reducible assumption)))))
            | (with_reducible exact phBox hE)
            | (with_reducible exact phRow hE))
      case he =>
        intro x wq Eq hd
        simp [PhEnd, at_k, at_p, at_t, at_any] at hd
        simp only [frL, List.length_cons, List.length_nil, List.take_succ_cons, List.take_zero, Nat.reduceAdd, Nat.zero_add, List.setIfInBounds_toArray, List.set_cons_zero, List.set_cons_succ, hd, List.length_cons, List.length_nil, List.drop_succ_cons, List.drop_zero]
        clear hd
        have AD1 := hid (AD.out wq (HEA.out.trans Eq))
        have HEq := hid (HEA.out.trans Eq)
        clear AD c0 k0 x0 x1 x2 x3 Eq
        go_wp2_with fail
        refine (AD1.out).mono ?_
        clear AD1
        rintro e w7 ⟨rfl, F2, hC2, K2⟩
        have K2 := Kp.after HEq.out K2
        have hK2 := HKo.out.kp HG.out.ty K2
        obtain ⟨E7, hF2⟩ := K2.low HEo.out HF1.out
        rw [HXP1.out, ← HTK.out] at hC2
        have HR := hid (And.intro hC2 (And.intro hK2 (And.intro E7 hF2)))
        clear hC2 hK2 E7 hF2 K2
        go_wp2_with fail
        go_roundw
        case rel => exact ⟨j + 1, F2, by omega, by go_num, HR.out⟩
        case measure => simp [intOf] <;> omega
    · obtain rfl : j = X.length := by omega
      rw [List.take_length] at hG
      have c0 := hG.cells.1
      have CL := hid (cclose_one hG)
      have HTY := hid hG.ty
      have HKo := hid hK
      have HF1 := hid hF
      have HEo := hid Eo
      clear hG hK hF Eo
      go_wp2_with fail
      refine (CL.out).mono ?_
      clear CL c0
      rintro e w6 ⟨rfl, F6, hC6, K6⟩
      have hK6 := HKo.out.kp HTY.out K6
      obtain ⟨E6, hF6⟩ := K6.low HEo.out HF1.out
      have HC6 := hid hC6
      have HK6 := hid hK6
      have HE6 := hid E6
      have HF6 := hid hF6
      clear hC6 hK6 E6 hF6 K6 HKo HF1 HEo HTY
      have HLK := hid (LogK.one HX.out (by omega))
      have bD0 := heap_alloc_new w6 (.cells #[.int .i64 0, .int .i64 0, .int .i64 0] 112)
      have ED := (Ext.refl w6).alloc (.cells #[.int .i64 0, .int .i64 0, .int .i64 0] 112)
      obtain ⟨wD, hwD⟩ : ∃ wD, w6.alloc (.cells #[.int .i64 0, .int .i64 0, .int .i64 0] 112) = wD := ⟨_, rfl⟩
      obtain ⟨bD, hbD⟩ : ∃ bD, w6.heap.size = bD := ⟨_, rfl⟩
      rw [hwD] at bD0 ED
      rw [hbD] at bD0
      have hbDl : w.heap.size ≤ bD := by have := HE6.out.size'; omega
      have HBD := hid (show wD.heap[bD]? = some (.cells (rowV 3 fun i => .int .i64 ((fun _ => 0 : Nat → Nat) i : Nat)).toArray 112 (0, 0)) from bD0)
      have HCD := hid (HC6.out.ext ED)
      have HKD := hid (HK6.out.ext ED)
      have HED := hid (HE6.out.trans ED)
      obtain ⟨N, hN, hN1, hN2⟩ : ∃ N : Nat, min (lp.length : Int) 80 = (N : Int) ∧ N ≤ 80 ∧ N ≤ lp.length := ⟨min lp.length 80, by omega, by omega, by omega⟩
      have hNt : ((N : Int)).toNat = N := by omega
      have hNm : max (N : Int) 0 = (N : Int) := by omega
      have hcp : lp.length ≤ cp ∧ cp ≤ 9223372036854775807 := by
        obtain ⟨_, _, _, e, q1, q2, _⟩ := HVP.out
        injection e with _ _ e
        subst e
        unfold maxLen at q2
        exact ⟨q1, q2⟩
      have hNc : N ≤ cp := by omega
      have h3 : ∀ i, i < 3 → (fun _ => 0 : Nat → Nat) i ≤ X.length := fun _ _ => Nat.zero_le _
      have H3 := hid h3
      clear bD0 ED HC6 HK6 HE6 h3
      go_wp2_with fail
      clear hwD hbD hN hNt hNm
      go_loopw [86] (fun jv wr => ∃ (j : Nat) (d : Nat → Nat) (F : Nat → Prop), j ≤ N ∧ jv = .int .i64 j ∧ (∀ i, i < 3 → d i ≤ X.length) ∧ wr.heap[bD]? = some (.cells (rowV 3 fun i => .int .i64 (d i : Nat)).toArray 112 (0, 0)) ∧ CopSt wr F b [[X]] [[]] (KD ⟨C0, O0, S0, 0, []⟩ X 3 d) ∧ EntsK wr F (.slice ax X.length cx) X ∧ Ext w wr ∧ ∀ q, F q → w.heap.size ≤ q) (fun jv _ => N - (intOf jv).toNat)
      case atStart => exact ⟨0, fun _ => 0, F6, Nat.zero_le _, rfl, H3.out, HBD.out, by rw [← kd_rep]; exact HCD.out, HKD.out, HED.out, HF6.out⟩
      case round =>
        clear HBD HCD HKD HED HF6
        obtain ⟨wo, rfl⟩ : ∃ wo : World, wo = wr := ⟨_, rfl⟩
        obtain ⟨j, d, F1, hj, rfl, hd3, hbd, hC, hK, Eo, hF⟩ := hrel
        by_cases hjl : j < N
        · obtain ⟨bP, oP, rfl, _, _, _, hcP⟩ := seg_cells HVP.out (by omega)
          have cj := Eo.cell (hcP j _ (cI_at0 lp j (by omega)))
          generalize lp[j]'(by omega) = z at cj
          obtain ⟨i, hi1, _, hi3⟩ := wi_nat (z := z) (n := 3) (by omega)
          have hi1 : wi z 3 = (i : Int) := hi1
          have WI := within_any z 3 wo (by omega) (by omega)
          rw [hi1] at WI
          have WI := hid WI
          have hdi := hd3 i hi3
          obtain ⟨g1, g2, _, _, g5⟩ := goC_le HOK.out rfl HX.out (by omega) (by omega) hdi
          have HTY := hid hC.ty
          have HBD := hid hbd
          have HKo := hid hK
          have HF1 := hid hF
          have HEo := hid Eo
          have HD3 := hid hd3
          have HI3 := hid hi3
          clear hcP hi1 hbd hK hF Eo hd3
          by_cases hdl : d i < X.length
          · have ST := cstep_ok (i := i) hC (by rw [kd_len]; exact hi3) (by rw [kd_at _ _ _ hi3]; exact g1) g5 HLK.out (x := X[d i]) (by rw [log_one, kd_at _ _ _ hi3, g2]; exact List.getElem?_eq_getElem hdl)
            rw [kd_at _ _ _ hi3] at ST
            unfold stepK at ST
            rw [kd_at _ _ _ hi3, goC_one hdl, kd_set] at ST
            generalize okE (goC ⟨C0, O0, S0, 0, []⟩ X (d i)) X[d i] = r at ST
            have ST := hid ST
            have HDL := hid hdl
            clear hC g1 g2
            obtain ⟨m, hm⟩ : ∃ m, d i = m := ⟨_, rfl⟩
            rw [hm] at hdi hdl
            have HM := hid hm
            clear hm
            have q1 : ((m : Int) < (X.length : Int)) := by omega
            go_wp2_with fail
            refine (WI.out).mono ?_
            clear WI
            rintro e w' ⟨rfl, rfl⟩
            go_wp2_with fail
            refine (ST.out).mono ?_
            clear ST cj
            rintro e w8 ⟨rfl, F8, hC8, K8⟩
            have hb8 := K8.heap HBD.out (tyS_not HTY.out HBD.out (by decide))
            have hK8 := HKo.out.kp HTY.out K8
            obtain ⟨E8, hF8⟩ := K8.low HEo.out HF1.out
            have c8 := cells_of hb8 i _ (rowV_at _ HI3.out)
            have f8 : w8.frozen? ⟨bD, i, none⟩ = false := by simp [World.frozen?, hb8]
            rw [HM.out] at c8
            have ecast : ((m + 1 : Nat) : Int) = (m : Int) + 1 := by omega
            have hrow := row_set hb8 (i := i) (.int .i64 ((m + 1 : Nat) : Int))
            rw [rowD_set 3 d i (m + 1)] at hrow
            have hg := grown_set w8 bD i (.int .i64 ((m + 1 : Nat) : Int))
            have hC9 := hC8.far hb8 (by decide) hg
            have hK9 := hK8.far hb8 (by decide) hg
            have E9 := E8.setCell (p := ⟨bD, i, none⟩) hbDl (.int .i64 ((m + 1 : Nat) : Int))
            rw [HM.out] at hC9
            rw [ecast] at hrow hC9 hK9 E9
            have h39 : ∀ q, q < 3 → upD d i (m + 1) q ≤ X.length := fun q hq => by
              unfold upD
              split
              · omega
              · exact HD3.out q hq
            have HR := hid (And.intro h39 (And.intro hrow (And.intro hC9 (And.intro hK9 (And.intro E9 hF8)))))
            clear hb8 hK8 E8 hF8 hrow hg hC9 hK9 E9 h39 hC8 K8 ecast
            go_wp2_with fail
            go_roundw
            case rel => exact ⟨j + 1, upD d i (m + 1), F8, by omega, by go_num, HR.out⟩
            case measure => simp [intOf] <;> omega
          · have hde : d i = X.length := by omega
            obtain ⟨A, hG⟩ := hC
            have ST := cstep_wait (i := i) hG (by rw [kd_len]; exact hi3) HLK.out.sm HLK.out.len HLK.out.few (by rw [log_one, kd_at _ _ _ hi3, g2]; exact hde)
            have ST := hid ST
            have HC := hid (show CopSt wo F1 b [[X]] [[]] (KD ⟨C0, O0, S0, 0, []⟩ X 3 d) from ⟨A, hG⟩)
            have HDE := hid hde
            have q1 : ¬ ((X.length : Int) < (X.length : Int)) := by omega
            clear hG g1 g2 hdl hde
            go_wp2_with fail
            refine (WI.out).mono ?_
            clear WI
            rintro e w' ⟨rfl, rfl⟩
            go_wp2_with fail
            refine (ST.out).mono ?_
            clear ST cj
            rintro e w8 ⟨rfl, E8⟩
            have hb8 := E8.heap HBD.out
            have c8 := cells_of hb8 i _ (rowV_at _ HI3.out)
            rw [HDE.out] at c8
            have HR := hid (And.intro HD3.out (And.intro hb8 (And.intro (HC.out.ext E8) (And.intro (HKo.out.ext E8) (And.intro (HEo.out.trans E8) HF1.out)))))
            clear hb8 E8
            go_wp2_with fail
            go_roundw
            case rel => exact ⟨j + 1, d, F1, by omega, by go_num, HR.out⟩
            case measure => simp [intOf] <;> omega
        · obtain rfl : j = N := by omega
          obtain ⟨A, hG⟩ := hC
          have HG := hid hG
          have HKz := hid hK
          have HBz := hid hbd
          have HEz := hid Eo
          have HDz := hid hd3
          obtain ⟨wz, rfl⟩ : ∃ wz : World, wz = wo := ⟨_, rfl⟩
          have hxc : 0 < X.length → X.length ≤ cx ∧ cx ≤ 9223372036854775807 := fun h => (hK.seg.addr h).choose_spec.choose_spec.2
          clear hG hK hbd Eo hF hd3 F6
          go_wp2_with fail
          go_loopw [115] (fun iv wr => ∃ i : Nat, i ≤ 3 ∧ iv = .int .i64 i ∧ Ext wz wr) (fun iv _ => 3 - (intOf iv).toNat)
          case atStart => exact ⟨0, by omega, rfl, Ext.refl _⟩
          case round =>
            obtain ⟨wo, rfl⟩ : ∃ wo : World, wo = wr := ⟨_, rfl⟩
            obtain ⟨i, hi, rfl, Eo⟩ := hrel
            by_cases hi3 : i < 3
            · have hi3' : ((i : Int) < 3) := by omega
              have PW := hid (pairs_fn _ l2 wo (HV2.out.ext (HEz.out.trans Eo)) hb2)
              have KW := hid (fun w' (q : Ext wo w') => kMap_any _ la w' (HV.out.ext (HEz.out.trans (Eo.trans q))) hb)
              have hdi := HDz.out i hi3
              have HEo := hid Eo
              clear Eo
              go_wp2_with fail
              refine (PW.out).mono ?_
              clear PW
              rintro e w8 ⟨vs', S', rfl, oS', _, hSF', hS', E8⟩
              obtain rfl : S' = S0 := store_ext oS' HOS.out (fun x => by rw [hSF', HSF.out])
              have KW1 := hid (KW.out w8 E8)
              obtain ⟨as', cs', rfl⟩ := own_form hS'
              have HS' := hid hS'
              have HE8 := hid (HEo.out.trans E8)
              clear oS' hSF' hS' E8 KW HEo
              go_wp2_with fail
              refine (KW1.out).mono ?_
              clear KW1
              rintro e w9 ⟨vm', rfl, om', E9⟩
              rw [HC0.out, HO0.out] at om'
              obtain ⟨um1, um2, rfl, oo1, oo2⟩ := om'
              obtain ⟨au1, ku1, rfl⟩ := own_form oo1
              obtain ⟨au2, ku2, rfl⟩ := own_form oo2
              have hzs := HE8.out.size'
              have bM0 := heap_alloc_new w9 (.cells #[.slice au1 C0.length ku1, .slice au2 O0.length ku2] 26)
              have EM := (Ext.refl w9).alloc (.cells #[.slice au1 C0.length ku1, .slice au2 O0.length ku2] 26)
              obtain ⟨wM, hwM⟩ : ∃ wM, w9.alloc (.cells #[.slice au1 C0.length ku1, .slice au2 O0.length ku2] 26) = wM := ⟨_, rfl⟩
              obtain ⟨bM, hbM⟩ : ∃ bM, w9.heap.size = bM := ⟨_, rfl⟩
              rw [hwM] at bM0 EM
              rw [hbM] at bM0
              have hbMl : wz.heap.size ≤ bM := by have := E9.size'; omega
              have ONE := hid (show OneS wM wz.heap.size bM (.slice as' S'.length cs') (.slice none 0 0) (.slice au1 C0.length ku1) (.slice au2 O0.length ku2) (goC ⟨C0, O0, S', 0, []⟩ X 0) from
                ⟨own_ext (own_ext (own_base HS'.out (Nat.zero_le _)) E9) EM, bM0, own_ext (own_base oo1 (Nat.zero_le _)) EM, own_ext (own_base oo2 (Nat.zero_le _)) EM, World.ownsRow_nil _ _ _ _⟩)
              have HEM := hid (HE8.out.trans (E9.trans EM))
              have cD := HEM.out.cell (cells_of HBz.out i _ (rowV_at _ hi3))
              obtain ⟨g1, g2, g3, g4, g5⟩ := goC_le HOK.out rfl HX.out (by omega) (by omega) hdi
              have G1 := hid g1
              have HDI := hid (rfl : d i = d i)
              obtain ⟨m, hm⟩ : ∃ m, d i = m := ⟨_, rfl⟩
              rw [hm] at cD hdi g2 g3 g4 G1
              have HM := hid hm
              have hmc : m ≤ cx := by
                by_cases h0 : 0 < X.length
                · have := hxc h0; omega
                · omega
              clear bM0 EM E9 oo1 oo2 HS' HE8 hm g1 g2 HDI hzs
              go_wp2_with fail
              clear hwM hbM
              go_loopw [25, 27, 128] (fun sv ov kv wr => ∃ (k : Nat) (u1 u2 : Value), k ≤ m ∧ kv = .int .i64 k ∧ Hid (OneS wr wz.heap.size bM sv ov u1 u2 (goC ⟨C0, O0, S', 0, []⟩ X k)) ∧ Ext wz wr) (fun _ _ kv _ => m - (intOf kv).toNat)
              case atStart => exact ⟨0, _, _, Nat.zero_le _, rfl, ONE, HEM.out⟩
              case round =>
                clear ONE HEM cD
                obtain ⟨wo, rfl⟩ : ∃ wo : World, wo = wr := ⟨_, rfl⟩
                obtain ⟨k, u1, u2, hk, rfl, hOne, Ek⟩ := hrel
                by_cases hkl : k < m
                · have hkX : k < X.length := by omega
                  obtain ⟨bX, oX, rfl, p1, p2⟩ := HKz.out.seg.addr (by omega)
                  obtain ⟨ev, hE, x0, x1, x2, x3⟩ := HKz.out.at hkX
                  replace x0 := Ek.cell x0
                  replace x1 := Ek.cell x1
                  replace x2 := Ek.cell x2
                  replace x3 := Ek.cell x3
                  have hxo := HX.out X[k] (List.getElem_mem hkX)
                  have hgo := goC_one (c := ⟨C0, O0, S', 0, []⟩) hkX
                  obtain ⟨h1, _, h3', h4', _⟩ := goC_le HOK.out rfl HX.out (by omega) (by omega) (show k ≤ X.length by omega)
                  generalize X[k] = xe at hE hxo hgo
                  generalize goC ⟨C0, O0, S', 0, []⟩ X k = ck at hOne hgo h1 h3' h4'
                  obtain ⟨v1, b1, v2', v3⟩ := ev
                  have hb1 : b1 = xe.im := hE.im
                  subst hb1
                  dsimp only at x0 x1 x2 x3
                  have hE := hE.ext Ek
                  obtain ⟨f1, g1, e1⟩ := own_form hE.ops
                  obtain ⟨f2, g2, e2⟩ := own_form hE.cuts
                  obtain ⟨f3, g3, e3⟩ := own_form hE.own
                  dsimp only at e1 e2 e3
                  subst e1; subst e2; subst e3
                  obtain ⟨a5, c5, rfl⟩ := own_form hOne.out.s
                  obtain ⟨a6, c6, eov⟩ := own_form hOne.out.ok
                  obtain ⟨nk, hnk⟩ : ∃ nk, ck.ok.length = nk := ⟨_, rfl⟩
                  rw [hnk] at eov h4'
                  subst eov
                  have HNK := hid hnk
                  clear hnk
                  have EA := (Ext.refl wo).alloc (.cells #[.slice f1 xe.ops.length g1, .bool xe.im, .slice f2 xe.cuts.length g2, .slice f3 xe.own.length g3] 94)
                  have bx := heap_alloc_new wo (.cells #[.slice f1 xe.ops.length g1, .bool xe.im, .slice f2 xe.cuts.length g2, .slice f3 xe.own.length g3] 94)
                  cases him : xe.im with
                  | true =>
                    rw [doE_map him] at hgo
                    rw [him] at EA bx x1
                    obtain ⟨wA, hwA⟩ : ∃ wA, wo.alloc (.cells #[.slice f1 xe.ops.length g1, .bool true, .slice f2 xe.cuts.length g2, .slice f3 xe.own.length g3] 94) = wA := ⟨_, rfl⟩
                    obtain ⟨bxx, hbxx⟩ : ∃ bxx, wo.heap.size = bxx := ⟨_, rfl⟩
                    rw [hwA] at EA bx
                    rw [hbxx] at bx
                    have k0 := blk4 bx
                    have yM := blk2 (EA.heap hOne.out.box)
                    have hM1 := (hOne.out.ext EA).map (hE.ext EA).cuts (hE.ext EA).own
                    have E1 := ((Ek.trans EA).setCell (p := ⟨bM, 0, none⟩) hbMl (.slice f2 xe.cuts.length g2)).setCell (p := ⟨bM, 1, none⟩) hbMl (.slice f3 xe.own.length g3)
                    obtain ⟨wN, hwN⟩ : ∃ wN, (wA.setCell ⟨bM, 0, none⟩ (.slice f2 xe.cuts.length g2)).setCell ⟨bM, 1, none⟩ (.slice f3 xe.own.length g3) = wN := ⟨_, rfl⟩
                    dsimp only at hM1
                    rw [hwN] at hM1 E1
                    have HM1 := hid hM1
                    have HE1 := hid E1
                    have HGO := hid hgo
                    have HIM := hid him
                    clear hM1 E1 hgo hE EA bx him h1
                    have pB : Seg (wN.alloc (.cells #[.bool true] 4)) (.slice (some ⟨wN.heap.size, 0, none⟩) 1 1) 1 1 [.bool true] := seg_one (heap_alloc_new wN _)
                    have EB := (Ext.refl wN).alloc (.cells #[.bool true] 4)
                    have hM2 := hid (HM1.out.ext EB)
                    have pO := hM2.out.ok
                    dsimp only at pO
                    rw [HNK.out] at pO
                    have pS : wz.heap.size ≤ (wN.alloc (.cells #[.bool true] 4)).heap.size := Nat.le_trans HE1.out.size' EB.size'
                    go_wp2_with (first | (at_builtin; refine (wpList_app rfl _ _ 49 rfl wz.heap.size 4 (.bool false) 1 1 Tryz.underlying49 infoB rfl (by decide) (.slice a6 nk c6) nk (ck.ok.map Value.bool) rfl pO _ 1 [.bool true] rfl pB (one_bools [true]) (by omega) (by unfold maxLen; omega) pS ?_); intro v' w12 ho' hg))
                    have hT := hid (hM2.out.tell (m := ck.dn + 1) (by rw [HNK.out]; exact ho') hg)
                    go_roundw
                    case rel => exact ⟨k + 1, _, _, by omega, by go_num, hid (by rw [← HGO.out]; exact hT.out), (HE1.out.trans EB).grown hg (fun q hq => own_ge pO q hq)⟩
                    case measure => simp [intOf] <;> omega
                  | false =>
                    rw [doE_deed him] at hgo
                    rw [him] at EA bx x1
                    obtain ⟨wA, hwA⟩ : ∃ wA, wo.alloc (.cells #[.slice f1 xe.ops.length g1, .bool false, .slice f2 xe.cuts.length g2, .slice f3 xe.own.length g3] 94) = wA := ⟨_, rfl⟩
                    obtain ⟨bxx, hbxx⟩ : ∃ bxx, wo.heap.size = bxx := ⟨_, rfl⟩
                    rw [hwA] at EA bx
                    rw [hbxx] at bx
                    have k0 := blk4 bx
                    have RN := krun_ok _ _ ck.S xe.ops wA (own_seg (own_ext hOne.out.s EA)) (own_seg (hE.ext EA).ops) h1.sto (ent_deed hxo him) (fun o ho => (hxo.sz.ops o ho).2) (by omega)
                    obtain ⟨r, hr⟩ : ∃ r, runB ck.S xe.ops = r := ⟨_, rfl⟩
                    rw [hr] at RN hgo
                    have RN := hid RN
                    have HGO := hid hgo
                    have HIM := hid him
                    have HEA := hid EA
                    clear hgo hE EA bx him h1 hr
                    go_wp2_with fail
                    refine (RN.out).mono ?_
                    clear RN hwA hbxx
                    rintro e w11 ⟨v11, rfl, o11, E11⟩
                    obtain ⟨a11, c11, rfl⟩ := own_form o11
                    have hO2 := hOne.out.ext (HEA.out.trans E11)
                    have HM1 := hid (show OneS w11 wz.heap.size bM (.slice a11 (runS ck.S xe.ops).length c11) (.slice a6 nk c6) u1 u2 ⟨ck.C, ck.O, runS ck.S xe.ops, ck.dn, ck.ok⟩ from ⟨own_base o11 (Nat.zero_le _), hO2.box, hO2.cuts, hO2.own, hO2.ok⟩)
                    have HE1 := hid (Ek.trans (HEA.out.trans E11))
                    clear o11 hO2 E11
                    have pB : Seg (w11.alloc (.cells #[.bool r] 4)) (.slice (some ⟨w11.heap.size, 0, none⟩) 1 1) 1 1 [.bool r] := seg_one (heap_alloc_new w11 _)
                    have EB := (Ext.refl w11).alloc (.cells #[.bool r] 4)
                    have hM2 := hid (HM1.out.ext EB)
                    have pO := hM2.out.ok
                    dsimp only at pO
                    rw [HNK.out] at pO
                    have pS : wz.heap.size ≤ (w11.alloc (.cells #[.bool r] 4)).heap.size := Nat.le_trans HE1.out.size' EB.size'
                    go_wp2_with (first | (at_builtin; refine (wpList_app rfl _ _ 49 rfl wz.heap.size 4 (.bool false) 1 1 Tryz.underlying49 infoB rfl (by decide) (.slice a6 nk c6) nk (ck.ok.map Value.bool) rfl pO _ 1 [.bool r] rfl pB (one_bools [r]) (by omega) (by unfold maxLen; omega) pS ?_); intro v' w12 ho' hg))
                    have hT := hid (hM2.out.tell (m := ck.dn + 1) (by rw [HNK.out]; exact ho') hg)
                    go_roundw
                    case rel => exact ⟨k + 1, _, _, by omega, by go_num, hid (by rw [← HGO.out]; exact hT.out), (HE1.out.trans EB).grown hg (fun q hq => own_ge pO q hq)⟩
                    case measure => simp [intOf] <;> omega
                · obtain rfl : k = m := by omega
                  obtain ⟨a5, c5, rfl⟩ := own_form hOne.out.s
                  obtain ⟨a6, c6, rfl⟩ := own_form hOne.out.ok
                  have AL := call_ok (HG.out.ext Ek) (i := i) (by rw [kd_len]; exact hi3) (N := 30) (by rw [kd_at _ _ _ hi3, HM.out]; exact G1.out) (by rw [kd_at _ _ _ hi3, HM.out]; omega)
                  have DN := fun w' (q : Ext wo w') => cdone_ok (HG.out.ext (Ek.trans q)) (i := i) (by rw [kd_len]; exact hi3) (by rw [kd_at _ _ _ hi3, HM.out]; omega)
                  have PT := fun w' (q : Ext wo w') (p : Nat) (hp : p < 4) => cpart_ok (HG.out.ext (Ek.trans q)) (i := i) (by rw [kd_len]; exact hi3) p hp (by rw [kd_at _ _ _ hi3, HM.out]; omega)
                  simp only [kd_at _ _ _ hi3, HM.out] at AL DN PT
                  generalize goC ⟨C0, O0, S', 0, []⟩ X k = ck at AL DN PT hOne G1 g3 g4
                  have AL := hid AL
                  have DN := hid DN
                  have PT := hid PT
                  have HEk := hid Ek
                  clear Ek HG HBz HDz
                  go_wp2_with fail
                  refine (AL.out).mono ?_
                  clear AL
                  rintro e w8' ⟨v8, rfl, o8, E8⟩
                  obtain ⟨a8, c8', rfl⟩ := own_form o8
                  have DN1 := hid (DN.out w8' E8)
                  have HO8 := hid (own_seg o8)
                  have HE8 := hid E8
                  clear DN o8 E8
                  go_wp2_with fail
                  refine (DN1.out).mono ?_
                  clear DN1
                  rintro e w9' ⟨v9, rfl, o9, E9⟩
                  obtain ⟨a9, c9', rfl⟩ := own_form o9
                  have EQ1 := hid (equal_Pq _ _ ck.S w9' (HO8.out.ext E9) ((own_seg hOne.out.s).ext (HE8.out.trans E9)))
                  have HO9 := hid (own_seg o9)
                  have HE9 := hid (HE8.out.trans E9)
                  clear HO8 o9 E9 HE8
                  go_wp2_with fail
                  refine (EQ1.out).mono ?_
                  clear EQ1
                  rintro e w10 ⟨rfl, E10⟩
                  have EQ2 := equal_Bool _ _ ck.ok ck.ok w10 (HO9.out.ext E10) ((own_seg hOne.out.ok).ext (HE9.out.trans E10))
                  rw [decide_eq_true (rfl : ck.ok = ck.ok)] at EQ2
                  have EQ2 := hid EQ2
                  have HE10 := hid (HE9.out.trans E10)
                  clear HO9 E10 HE9
                  go_wp2_with fail
                  refine (EQ2.out).mono ?_
                  clear EQ2
                  rintro e w11 ⟨rfl, n11, rfl⟩
                  have HE11 := hid (HE10.out.drewN n11)
                  clear HE10
                  obtain ⟨wP, hwP⟩ : ∃ wP, w10.drewN n11 = wP := ⟨_, rfl⟩
                  rw [hwP] at HE11
                  go_wp2_with fail
                  go_loopw [181] (fun iv wr => ∃ p : Nat, p ≤ 4 ∧ iv = .int .i64 p ∧ Ext wP wr) (fun iv _ => 4 - (intOf iv).toNat)
                  case atStart => exact ⟨0, by omega, rfl, by first | exact Ext.refl _ | (rw [hwP]; exact Ext.refl _)⟩
                  case round =>
                    clear hwP
                    obtain ⟨wo', rfl⟩ : ∃ wo' : World, wo' = wr := ⟨_, rfl⟩
                    obtain ⟨p, hp, rfl, Ep⟩ := hrel
                    by_cases hp4 : p < 4
                    · have hp4' : ((p : Int) < 4) := by omega
                      have PT1 := hid (PT.out wo' (HE11.out.trans Ep) p hp4)
                      have EE := HE11.out.trans Ep
                      have HXM := hid (fun w' (q : Ext wo' w') => blk2 ((EE.trans q).heap hOne.out.box))
                      have SP := hid (fun w' (q : Ext wo' w') => part_ok (.agg #[u1, u2]) (.slice a5 ck.S.length c5) ck.C ck.O ck.S (p : Int) w' (hOne.out.is.ext (EE.trans q)) G1.out.map G1.out.sm ((own_seg hOne.out.s).ext (EE.trans q)) G1.out.sto (by omega) (by omega) (by omega))
                      have HEp := hid Ep
                      clear EE Ep
                      go_wp2_with fail
                      refine (PT1.out).mono ?_
                      clear PT1
                      rintro e w13 ⟨v13, rfl, o13, E13⟩
                      obtain ⟨a13, c13, rfl⟩ := own_form o13
                      have SP1 := hid (SP.out w13 E13)
                      have xM := HXM.out w13 E13
                      have HO13 := hid (own_seg o13)
                      have HE13 := hid (HEp.out.trans E13)
                      clear SP HXM o13 E13 HEp
                      go_wp2_with fail
                      refine (SP1.out).mono ?_
                      clear SP1 xM
                      rintro e w14 ⟨v14, rfl, o14, E14⟩
                      obtain ⟨a14, c14, rfl⟩ := own_form o14
                      have EQ3 := hid (equal_Pq _ _ (parP ck.C ck.O ck.S p) w14 (HO13.out.ext E14) (own_seg o14))
                      have HE14 := hid (HE13.out.trans E14)
                      clear o14 E14 HE13 HO13
                      go_wp2_with fail
                      refine (EQ3.out).mono ?_
                      clear EQ3
                      rintro e w15 ⟨rfl, E15⟩
                      go_wp2_with fail
                      go_roundw
                      case rel => exact ⟨p + 1, by omega, by go_num, HE14.out.trans E15⟩
                      case measure => simp [intOf] <;> omega
                    · have HEF := hid (HEk.out.trans (HE11.out.trans Ep))
                      clear Ep
                      go_wp2_with fail
                      go_roundw
                      case rel => exact ⟨i + 1, by omega, by go_num, HEF.out⟩
                      case measure => simp [intOf] <;> omega
            · clear HKz HBz
              go_wp2
              go_ret
              exact ⟨rfl, HEz.out.trans Eo⟩
end Go.Proofs.YtimchedebcoohaaGreat
