/- Contracts and lemmas for the proof of PartsRun; each theorem states its own conditions. -/
import Derived.Test.YtijcckhkofkenaaGreatQPartsRunca
set_option linter.unusedVariables false
set_option linter.unusedSimpArgs false
/- Contracts and lemmas for the proofs of this seat; each theorem states its own conditions. -/
namespace Go.Proofs.YtijcckhkofkenaaGreat
open Go.RowKit
set_option maxRecDepth 100000 in
set_option maxHeartbeats 4000000 in
theorem prun_walk (v v2 vd : Value) (l l2 : List Int) (ls : List (List Int)) (w : World) (hv : Seg w v 1 l.length (cI l)) (hb : ∀ z ∈ l, -9223372036854775808 ≤ z ∧ z ≤ 9223372036854775807)
    (hv2 : Seg w v2 1 l2.length (cI l2)) (hb2 : ∀ z ∈ l2, -9223372036854775808 ≤ z ∧ z ≤ 9223372036854775807) (hvd : SegLL w vd ls) :
    Calls Tryz.prog 4 #[v, v2, vd] w fun e w' => e = .returned (.bool true) ∧ Ext w w' := by
  go_enter Tryz.func4, Tryz.ntmps4
  go_wp2_with fail
  refine (partsBegun_any _).mono ?_
  rintro e w1 ⟨rfl, E⟩
  replace hv := hv.ext E
  replace hv2 := hv2.ext E
  replace hvd := hvd.ext E
  go_wp2_with fail
  refine (kMap_any _ l _ hv hb).mono ?_
  rintro e w2 ⟨vm, rfl, om, E1⟩
  have hm := om.is
  have mok := mk_ok l
  have msm := mk_small l
  generalize mkC l 6 = C at hm mok msm
  generalize mkO l 6 = O at hm mok
  obtain ⟨am, km, ao, ko, rfl, _, _⟩ := hm.unpack
  replace hv2 := hv2.ext E1
  replace hvd := hvd.ext E1
  replace E := E.trans E1
  clear om E1 hv
  go_wp2_with fail
  refine (pairs_any _ l2 _ hv2 hb2).mono ?_
  rintro e w3 ⟨vs, S, rfl, oS, lS, hS, E1⟩
  replace hm := hm.ext E1
  replace hvd := hvd.ext E1
  replace E := E.trans E1
  clear E1 hv2
  have bx := heap_alloc_new w3 (.cells #[.slice am C.length km, .slice ao O.length ko] 26)
  have Ex := (Ext.refl w3).alloc (.cells #[.slice am C.length km, .slice ao O.length ko] 26)
  obtain ⟨g3, hg3⟩ : ∃ g3, w3.heap.size = g3 := ⟨_, rfl⟩
  rw [hg3] at bx
  obtain ⟨wX, hwX⟩ : ∃ wX, w3.alloc (.cells #[.slice am C.length km, .slice ao O.length ko] 26) = wX := ⟨_, rfl⟩
  rw [hwX] at bx Ex
  replace hm := hm.ext Ex
  have hSX := own_ext hS Ex
  replace hvd := hvd.ext Ex
  replace E := E.trans Ex
  have xx := blk2 bx
  obtain ⟨a0, c0, rfl⟩ := own_form hSX
  have NP := hid (pnew_ok (.agg #[.slice am C.length km, .slice ao O.length ko]) (.slice a0 S.length c0) C O S wX hm mok msm (own_seg hSX) oS (by omega))
  have HM := hid hm
  clear hS Ex
  go_wp2_with fail
  refine (NP.out).mono ?_
  rintro e w4 ⟨bt, vc, vo, pv, rfl, hbt, hP, E4⟩
  have hb4 := hP.lt
  have hne0 := not_own' hSX hbt
  have hS4 := own_ext hSX E4
  replace hvd := hvd.ext E4
  have HX4 := hid E4
  have HP4 := hid hP
  clear NP hP xx hSX E4
  go_wp2_with fail
  refine (deeds_any _ ls 15 _ hvd (by omega)).mono ?_
  rintro e w5 ⟨vD, us, D, rfl, hout, hds, hdg, hdl, E5⟩
  obtain ⟨aD, cD, rfl⟩ := own_form hout
  have hul := hds.len
  rw [hul] at hout
  simp only [hul]
  have HDS := hid hds
  have HO := hid hout
  have HS5 := hid (own_base (B' := 0) (own_ext hS4 E5) (Nat.zero_le _))
  have HX5 := hid (HX4.out.trans E5)
  have HP5 := hid (HP4.out.ext E5)
  have HB := hid bx
  have dok : ∀ d ∈ D, DeedOk d := fun d h => (hdg d h).ok
  have dsm : ∀ d ∈ D, ∀ o ∈ d, o.from_.size ≤ 9223372036854775807 := fun d h => (hdg d h).sm
  have HE := hid E
  clear hul hds hout hvd hdg E5 HX4 HP4 hS4 bx hm E hg3 hwX
  go_wp2_with fail
  go_loopw [8, 12, 13, 14, 15, 16, 17, 18, 19, 20, 21, 22, 40, 76] (fun sv _ _ _ _ _ _ _ _ _ _ _ iv _ wr => ∃ (k : Nat) (X : Prs) (pv : Nat → Value), k ≤ D.length ∧ iv = .int .i64 k ∧ StoreOk X ∧ X.length ≤ 30 + 16 * k ∧ wr.ownsRow 0 33 2 sv X.length (cP X) ∧ sv.ownBlock ≠ some bt ∧ PartsSt wr bt C O (parP C O X) vc vo pv ∧ w5.grownBy wr (some bt) ∧ Ext wX wr) (fun _ _ _ _ _ _ _ _ _ _ _ _ iv _ _ => D.length - (intOf iv).toNat)
  case atStart => exact ⟨0, S, pv, Nat.zero_le _, rfl, oS, by omega, HS5.out, hne0, HP5.out, World.grownBy.refl _ _, HX5.out⟩
  case round =>
    clear HS5 HP5 HX5 hne0
    obtain ⟨wo, rfl⟩ : ∃ wo : World, wo = wr := ⟨_, rfl⟩
    obtain ⟨k, X, pv, hk, rfl, oX, lX, hX, hne, hP, hG, EX⟩ := hrel
    by_cases hkD : k < D.length
    · obtain ⟨bD, x1, y1, rfl, c1, s1, m1, m2⟩ := deed_cell (HDS.out.keptB hG hb4) (own_keptB HO.out hG hb4) hkD
      unfold maxLen at m2
      have d1 := dok _ (List.getElem_mem hkD)
      have f1 := dsm _ (List.getElem_mem hkD)
      generalize D[k] = p at c1 s1 d1 f1
      have hp8 := d1.hi
      obtain ⟨a9, c9, rfl⟩ := own_form hX
      have z1 := cell_of_one (heap_alloc_new wo (.cells #[.slice x1 p.length y1] 29))
      have E8 := (Ext.refl wo).alloc (.cells #[.slice x1 p.length y1] 29)
      have KR := krun_ok (.slice a9 X.length c9) (.slice x1 p.length y1) X p _ ((own_seg hX).ext E8) (s1.ext E8) oX d1 f1 (by omega)
      have DO := fun w' (E : Ext (wo.alloc (.cells #[.slice x1 p.length y1] 29)) w') => pdo_ok (hP.ext (E8.trans E)) mok oX (by omega) (.slice x1 p.length y1) p ((s1.ext E8).ext E) d1 f1
      have oY := (run_val oX d1.ops).1
      have lY := run_len X p
      have hbo := hP.lt
      generalize runS X p = Y at KR DO oY lY
      generalize runB X p = ok at KR DO
      have KR := hid KR
      have DO := hid DO
      have hGo := hid (grown_trans hG (grown_ext E8 (some bt)))
      have hEX := hid (EX.trans E8)
      clear hX hP hne hG
      go_wp2_with fail
      refine (KR.out).mono ?_
      rintro e w6 ⟨v6, rfl, o6, E6⟩
      obtain ⟨a6, c6, rfl⟩ := own_form o6
      have z2 := E6.cell z1
      clear KR
      go_wp2_with fail
      refine (DO.out _ E6).mono ?_
      rintro e w7 ⟨rfl, ⟨pv7, hP7⟩, G7⟩
      have o7 := own_keptB o6 G7 (by simp; omega)
      have hG7 := hid (grown_trans (grown_trans hGo.out (grown_ext E6 (some bt))) G7)
      have hE7 := hid (ext_keptB (hEX.out.trans E6) G7 hbt)
      have AL := hid (pall_ok hP7 mok oY (by omega))
      have hne7 := hid (not_own (b := bt) o7 (by simp; omega))
      have O7 := hid (own_base (B' := 0) o7 (Nat.zero_le _))
      have HP7 := hid hP7
      clear DO o6 o7 hP7 G7 z1 z2
      go_wp2_with fail
      refine (AL.out).mono ?_
      rintro e w8 ⟨v8, rfl, o8, E8'⟩
      have s8 := own_seg o8
      obtain ⟨a8, c8, rfl⟩ := own_form o8
      have Q1 := equal_Pair (.slice a8 Y.length c8) (.slice a6 Y.length c6) Y Y w8 s8 ((own_seg O7.out).ext E8')
      rw [show decide (Y = Y) = true by simp] at Q1
      have Q1 := hid Q1
      clear AL o8 s8
      go_wp2_with fail
      refine (Q1.out).mono ?_
      rintro e w9 ⟨rfl, n9, rfl⟩
      have E9 := E8'.drewN n9
      have HP9 := hid (HP7.out.ext E9)
      have O9 := hid (own_ext O7.out E9)
      have HG9 := hid (grown_trans hG7.out (grown_ext E9 (some bt)))
      have HE9 := hid (hE7.out.trans E9)
      obtain ⟨wQ, hwQ⟩ : ∃ wQ, w8.drewN n9 = wQ := ⟨_, rfl⟩
      rw [hwQ] at HP9 O9 HG9 HE9
      clear Q1 HP7 O7 hG7 hE7 E9 E8'
      go_wp2_with fail
      go_loopw [18, 19, 20, 21, 22, 76] (fun _ _ _ _ _ iv wr => ∃ i : Nat, i ≤ 4 ∧ iv = .int .i64 i ∧ Ext wQ wr) (fun _ _ _ _ _ iv _ => 4 - (intOf iv).toNat)
      case atStart => exact ⟨0, by omega, rfl, Ext.refl _⟩
      case round =>
        obtain ⟨wz, rfl⟩ : ∃ wz : World, wz = wr := ⟨_, rfl⟩
        obtain ⟨i, hi, rfl, Ez⟩ := hrel
        by_cases hi4 : i < 4
        · have hi4' : ((i : Int) < 4) := by omega
          have xx := blk2 ((HE9.out.trans Ez).heap HB.out)
          have hpl := par_len C O Y i
          have PP := hid (ppart_ok (HP9.out.ext Ez) i hi4 (by omega))
          have SP := fun w' (E : Ext wz w') => part_ok (.agg #[.slice am C.length km, .slice ao O.length ko]) (.slice a6 Y.length c6) C O Y (i : Int) w' ((HM.out.ext (HE9.out.trans Ez)).ext E) mok msm ((own_seg O9.out).ext (Ez.trans E)) oY (by omega) (by omega) (by omega)
          rw [show partP C O Y (i : Int) = parP C O Y i from rfl] at SP
          have SP := hid SP
          go_wp2_with fail
          refine (PP.out).mono ?_
          rintro e wa ⟨va, rfl, oa, Ea⟩
          obtain ⟨aa, ca, rfl⟩ := own_form oa
          have x1' := Ea.cell xx.1
          have x2' := Ea.cell xx.2.1
          clear PP
          go_wp2_with fail
          refine (SP.out _ Ea).mono ?_
          rintro e wb ⟨vb, rfl, ob, Eb⟩
          obtain ⟨ab, cb, rfl⟩ := own_form ob
          have Q2 := equal_Pair (.slice aa (parP C O Y i).length ca) (.slice ab (parP C O Y i).length cb) (parP C O Y i) (parP C O Y i) wb ((own_seg oa).ext Eb) (own_seg ob)
          rw [show decide (parP C O Y i = parP C O Y i) = true by simp] at Q2
          have Q2 := hid Q2
          clear SP oa ob
          go_wp2_with fail
          refine (Q2.out).mono ?_
          rintro e wc ⟨rfl, nc, rfl⟩
          go_wp2
          go_roundw
          case rel => exact ⟨i + 1, by omega, by go_num, (Ez.trans (Ea.trans Eb)).drewN _⟩
          case measure => simp [intOf] <;> omega
        · obtain rfl : i = 4 := by omega
          have A1 := hid (own_ext O9.out Ez)
          have A2 := hid (HP9.out.ext Ez)
          have A3 := hid (grown_trans HG9.out (grown_ext Ez (some bt)))
          have A4 := hid (HE9.out.trans Ez)
          go_wp2
          go_roundw
          case rel => exact ⟨k + 1, Y, pv7, by omega, by go_num, oY, by omega, A1.out, hne7.out, A2.out, A3.out, A4.out⟩
          case measure => simp [intOf] <;> omega
    · obtain rfl : k = D.length := by omega
      have EE := hid (HE.out.trans EX)
      clear hX hP hne hG
      go_wp2
      go_ret
      exact ⟨rfl, EE.out⟩
end Go.Proofs.YtijcckhkofkenaaGreat
