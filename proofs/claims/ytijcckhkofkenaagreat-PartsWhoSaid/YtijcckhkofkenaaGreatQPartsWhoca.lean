/- Contracts and lemmas for the proof of PartsWho; each theorem states its own conditions. -/
import Derived.Test.YtijcckhkofkenaaGreatQPartsWhobz
set_option linter.unusedVariables false
set_option linter.unusedSimpArgs false
/- Contracts and lemmas for the proofs of this seat; each theorem states its own conditions. -/
namespace Go.Proofs.YtijcckhkofkenaaGreat
open Go.RowKit
/-! what each had: an array of four stores -/
structure WasSt (w : World) (B bw : Nat) (P : Nat → Prs) (wv : Nat → Value) : Prop where
  box : w.heap[bw]? = some (.cells #[wv 0, wv 1, wv 2, wv 3] 94 (0, 0))
  low : B ≤ bw
  rows : ∀ i, i < 4 → w.ownsRow B 33 2 (wv i) (P i).length (cP (P i))
theorem WasSt.ext {w w' : World} {B bw : Nat} {P : Nat → Prs} {wv : Nat → Value} (h : WasSt w B bw P wv) (E : Ext w w') : WasSt w' B bw P wv := ⟨E.heap h.box, h.low, fun i hi => own_ext (h.rows i hi) E⟩
theorem WasSt.keptB {w w' : World} {B bw b : Nat} {P : Nat → Prs} {wv : Nat → Value} (h : WasSt w B bw P wv) (hg : w.grownBy w' (some b)) (hb : b < B) : WasSt w' B bw P wv :=
  ⟨grown_heap hg h.box (fun e => by injection e with e; have := h.low; omega), h.low, fun i hi => own_keptB (h.rows i hi) hg hb⟩
theorem WasSt.cellI {w : World} {B bw : Nat} {P : Nat → Prs} {wv : Nat → Value} (h : WasSt w B bw P wv) {i : Nat} (hi : i < 4) : w.cell? ⟨bw, i, none⟩ = some (wv i) ∧ w.frozen? ⟨bw, i, none⟩ = false := by
  have hb := h.box
  have : i = 0 ∨ i = 1 ∨ i = 2 ∨ i = 3 := by omega
  rcases this with rfl | rfl | rfl | rfl <;> simp [World.cell?, World.frozen?, hb]
theorem WasSt.set {w : World} {B bw : Nat} {P : Nat → Prs} {wv : Nat → Value} (h : WasSt w B bw P wv) {i : Nat} (hi : i < 4) {v : Value} {L : Prs} (ho : w.ownsRow B 33 2 v L.length (cP L)) :
    WasSt (w.setCell ⟨bw, i, none⟩ v) B bw (fun j => if j = i then L else P j) (fun j => if j = i then v else wv j) where
  box := by
    have hb := h.box
    have : i = 0 ∨ i = 1 ∨ i = 2 ∨ i = 3 := by omega
    rcases this with rfl | rfl | rfl | rfl <;> simp [World.setCell, Array.getElem?_modify, hb]
  low := h.low
  rows := fun j hj => by
    try dsimp only
    by_cases e : j = i
    · subst e
      rw [if_pos rfl, if_pos rfl]
      exact kept_ne (grown_cell' w bw _ v) ho (own_ne ho h.box (by decide))
    · rw [if_neg e, if_neg e]
      exact kept_ne (grown_cell' w bw _ v) (h.rows j hj) (own_ne (h.rows j hj) h.box (by decide))
theorem WasSt.congr {w : World} {B bw : Nat} {P P' : Nat → Prs} {wv : Nat → Value} (h : WasSt w B bw P wv) (e : ∀ j, j < 4 → P j = P' j) : WasSt w B bw P' wv := ⟨h.box, h.low, fun i hi => by rw [← e i hi]; exact h.rows i hi⟩
theorem was_new (w : World) (P : Nat → Prs) : WasSt (w.alloc (.cells #[.slice none 0 0, .slice none 0 0, .slice none 0 0, .slice none 0 0] 94)) w.heap.size w.heap.size (untilP P 0) (fun _ => .slice none 0 0) :=
  ⟨heap_alloc_new w _, Nat.le_refl _, fun i _ => by
    have : untilP P 0 i = [] := by unfold untilP; rw [if_neg (by omega)]
    rw [this]; exact World.ownsRow_nil _ _ _ _⟩
set_option maxRecDepth 100000 in
set_option maxHeartbeats 8000000 in
theorem pturn_walk (v v1 v2 vd : Value) (la lb l2 : List Int) (ls : List (List Int)) (w : World) (hv : Seg w v 1 la.length (cI la)) (hb : ∀ z ∈ la, -9223372036854775808 ≤ z ∧ z ≤ 9223372036854775807)
    (hv1 : Seg w v1 1 lb.length (cI lb)) (hb1 : ∀ z ∈ lb, -9223372036854775808 ≤ z ∧ z ≤ 9223372036854775807)
    (hv2 : Seg w v2 1 l2.length (cI l2)) (hb2 : ∀ z ∈ l2, -9223372036854775808 ≤ z ∧ z ≤ 9223372036854775807) (hvd : SegLL w vd ls) :
    Calls Tryz.prog 5 #[v, v1, v2, vd] w fun e w' => e = .returned (.bool true) ∧ Ext w w' := by
  have HV1 := hid hv1
  have HV0 := hid hv
  go_enter Tryz.func5, Tryz.ntmps5
  go_wp2_with fail
  refine (partsBegun_any _).mono ?_
  rintro e w1 ⟨rfl, E⟩
  replace hv := hv.ext E
  replace hv2 := hv2.ext E
  replace hvd := hvd.ext E
  go_wp2_with fail
  refine (kMap_any _ la _ hv hb).mono ?_
  rintro e w2 ⟨vm, rfl, om, E1⟩
  have hm := om.is
  have mok := mk_ok la
  have msm := mk_small la
  have HKA := hid (fun w' (E : Ext w w') => kMap_any v la w' (HV0.out.ext E) hb)
  generalize mkC la 6 = C at hm mok msm HKA
  generalize mkO la 6 = O at hm mok HKA
  have mok' := mk_ok lb
  have msm' := mk_small lb
  have HKB := hid (fun w' (E : Ext w w') => kMap_any v1 lb w' (HV1.out.ext E) hb1)
  generalize mkC lb 6 = C' at mok' msm' HKB
  generalize mkO lb 6 = O' at mok' HKB
  obtain ⟨am, km, ao, ko, rfl, _, _⟩ := hm.unpack
  replace hv2 := hv2.ext E1
  replace hvd := hvd.ext E1
  replace E := E.trans E1
  clear om E1 hv
  go_wp2_with fail
  refine (pairs_any _ l2 _ hv2 hb2).mono ?_
  rintro e w3 ⟨vs, S, rfl, oS, lS, hS, E1⟩
  replace hm := hm.ext E1
  replace hvd := hvd.ext E1
  replace E := E.trans E1
  clear E1
  obtain ⟨a0, c0, rfl⟩ := own_form hS
  have NP := hid (pnew_ok (.agg #[.slice am C.length km, .slice ao O.length ko]) (.slice a0 S.length c0) C O S w3 hm mok msm (own_seg hS) oS (by omega))
  clear hS hm hv2
  go_wp2_with fail
  refine (NP.out).mono ?_
  rintro e w4 ⟨bp, vc, vo, pv, rfl, hbp, hP, E4⟩
  have hwp : w.heap.size ≤ bp := by have := E.size'; omega
  have hp4 := hP.lt
  replace hvd := hvd.ext E4
  replace E := E.trans E4
  have HP := hid hP
  clear NP E4 hP
  go_wp2_with fail
  refine (deeds_any _ ls 5 _ hvd (by omega)).mono ?_
  rintro e w8 ⟨vD, us, D, rfl, hout, hds, hdg, hdl, E8⟩
  obtain ⟨aD, cD, rfl⟩ := own_form hout
  have hul := hds.len
  rw [hul] at hout
  simp only [hul]
  have HDS := hid hds
  have HO := hid hout
  have HP4 := hid (HP.out.ext E8)
  have dok : ∀ d ∈ D, DeedOk d := fun d h => (hdg d h).ok
  have dsm : ∀ d ∈ D, ∀ o ∈ d, o.from_.size ≤ 9223372036854775807 := fun d h => (hdg d h).sm
  have HE := hid (E.trans E8)
  obtain ⟨B, hB⟩ : ∃ B, w4.heap.size = B := ⟨_, rfl⟩
  rw [hB] at HDS HO hp4
  clear hul hds hout hvd hdg E8 E HP hB
  go_wp2_with fail
  go_loopw [12, 13, 14, 41] (fun _ _ _ iv wr => ∃ (k : Nat) (X : Prs) (pv : Nat → Value), k ≤ D.length ∧ iv = .int .i64 k ∧ StoreOk X ∧ X.length ≤ 30 + 16 * k ∧ PartsSt wr bp C O (parP C O X) vc vo pv ∧ OwnDs wr B us D ∧ wr.ownsRow B 29 1 (.slice aD D.length cD) D.length us ∧ Ext w wr) (fun _ _ _ iv _ => D.length - (intOf iv).toNat)
  case atStart => exact ⟨0, S, pv, Nat.zero_le _, rfl, oS, by omega, HP4.out, HDS.out, HO.out, HE.out⟩
  case round =>
    clear HP4 HDS HO HE
    obtain ⟨wo, rfl⟩ : ∃ wo : World, wo = wr := ⟨_, rfl⟩
    obtain ⟨k, X, pv, hk, rfl, oX, lX, hP, hds, ho, E⟩ := hrel
    by_cases hkD : k < D.length
    · obtain ⟨bD, x1, y1, rfl, c1, s1, m1, m2⟩ := deed_cell' hds ho hkD
      unfold maxLen at m2
      have d1 := dok _ (List.getElem_mem hkD)
      have f1 := dsm _ (List.getElem_mem hkD)
      generalize D[k] = p at c1 s1 d1 f1
      have hp8 := d1.hi
      have z1 := cell_of_one (heap_alloc_new wo (.cells #[.slice x1 p.length y1] 29))
      have E8 := (Ext.refl wo).alloc (.cells #[.slice x1 p.length y1] 29)
      have DP := hid (pdo_ok (hP.ext E8) mok oX (by omega) (.slice x1 p.length y1) p ((own_seg s1).ext E8) d1 f1)
      have oY := (run_val oX d1.ops).1
      have lY := run_len X p
      have A3 := hid (hds.ext E8)
      have A4 := hid (own_ext ho E8)
      have A5 := hid (E.trans E8)
      generalize runS X p = Y at DP oY lY
      clear hP hds ho E s1
      go_wp2_with fail
      refine (DP.out).mono ?_
      rintro e w11 ⟨rfl, ⟨pva, hPa⟩, G1⟩
      have D1 := hid hPa
      have D3 := hid (A3.out.keptB G1 (by omega))
      have D4 := hid (own_keptB A4.out G1 (by omega))
      have D5 := hid (ext_keptB A5.out G1 hwp)
      clear DP hPa G1 A3 A4 A5
      go_wp2
      go_roundw
      case rel => exact ⟨k + 1, Y, _, by omega, by go_num, oY, by omega, D1.out, D3.out, D4.out, D5.out⟩
      case measure => simp [intOf] <;> omega
    · obtain rfl : k = D.length := by omega
      have lX2 : X.length ≤ 200 := by omega
      have AL := hid (pall_ok hP mok oX (by omega))
      have HP := hid hP
      have HE := hid E
      clear hP hds ho E lX
      go_wp2_with fail
      refine (AL.out).mono ?_
      rintro e w9 ⟨v9, rfl, o9, E9⟩
      obtain ⟨a9, c9, rfl⟩ := own_form o9
      have hbp9 := HP.out.lt
      have O9 := hid o9
      have W0 := hid (was_new w9 (parP C O X))
      have E10 := hid ((Ext.refl w9).alloc (.cells #[.slice none 0 0, .slice none 0 0, .slice none 0 0, .slice none 0 0] 94))
      have hz9 := E9.size'
      have HE9 := hid (HE.out.trans E9)
      have HP9 := hid (HP.out.ext E9)
      obtain ⟨Bw, hBw⟩ : ∃ Bw, w9.heap.size = Bw := ⟨_, rfl⟩
      rw [hBw] at W0 hz9
      have hbw : bp < Bw := by omega
      have HB9 := hid (show w9.heap.size ≤ Bw by omega)
      clear AL o9 E9 HP HE
      go_wp2_with fail
      go_loopw [17, 56] (fun _ iv wr => ∃ (i : Nat) (wv : Nat → Value), i ≤ 4 ∧ iv = .int .i64 i ∧ WasSt wr Bw Bw (untilP (parP C O X) i) wv ∧ Ext w9 wr) (fun _ iv _ => 4 - (intOf iv).toNat)
      case atStart => exact ⟨0, _, by omega, rfl, W0.out, E10.out⟩
      case round =>
        clear W0 E10
        obtain ⟨wz, rfl⟩ : ∃ wz : World, wz = wr := ⟨_, rfl⟩
        obtain ⟨i, wv, hi, rfl, hW, Ez⟩ := hrel
        by_cases hi4 : i < 4
        · have hi4' : ((i : Int) < 4) := by omega
          have hpl := par_len C O X i
          have PP := hid (ppart_ok (HP9.out.ext Ez) i hi4 (by omega))
          have HW := hid hW
          have hzz := Ez.size'
          clear hW
          go_wp2_with fail
          refine (PP.out).mono ?_
          rintro e wa ⟨va, rfl, oa, Ea⟩
          obtain ⟨aa, ca, rfl⟩ := own_form oa
          obtain ⟨cw, fw⟩ := (HW.out.ext Ea).cellI hi4
          have hWN := (HW.out.ext Ea).set hi4 (own_base oa (show Bw ≤ _ by omega))
          have hWN2 : WasSt _ Bw Bw (untilP (parP C O X) (i + 1)) _ := hWN.congr (fun j _ => congrFun (until_step (parP C O X) i) j)
          have HWN := hid hWN2
          have EN := hid ((Ez.trans Ea).setCell (p := ⟨Bw, i, none⟩) HB9.out (.slice aa (parP C O X i).length ca))
          clear PP oa hWN hWN2
          go_wp2
          go_roundw
          case rel => exact ⟨i + 1, _, by omega, by go_num, HWN.out, EN.out⟩
          case measure => simp [intOf] <;> omega
        · obtain rfl : i = 4 := by omega
          have HW := hid (hW.congr (until_all _))
          have HPz := hid (HP9.out.ext Ez)
          have HEz := hid (HE9.out.trans Ez)
          have Oz := hid (own_ext O9.out Ez)
          have K1 := hid (HKB.out _ HEz.out)
          clear hW HP9 HE9 O9
          go_wp2_with fail
          refine (K1.out).mono ?_
          rintro e wb ⟨vb, rfl, omb, Eb⟩
          have hmb := omb.is
          obtain ⟨a1', k1', a2', k2', rfl, _, _⟩ := hmb.unpack
          have T1 := hid (pturn_ok (HPz.out.ext Eb) mok oX (by omega) _ C' O' hmb mok' msm')
          have HW1 := hid (HW.out.ext Eb)
          have Ob := hid (own_ext Oz.out Eb)
          have HEb := hid (HEz.out.trans Eb)
          have hnm := moved_le C C' O O' X
          have hnb := hid (moved_back C C' O O' X)
          have T3 := hid (fun w' vc vo pv vm (hP : PartsSt w' bp C' O' (parP C' O' X) vc vo pv) (hm : IsMap w' vm C O) => pturn_ok hP mok' oX (by omega) vm C O hm mok msm)
          have T2 := hid (fun w' vc vo pv vm (hP : PartsSt w' bp C' O' (parP C' O' X) vc vo pv) (hm : IsMap w' vm C' O') => pturn_ok hP mok' oX (by omega) vm C' O' hm mok' msm')
          rw [hnb.out] at T3
          rw [moved_same] at T2
          generalize movedN C C' O O' X = nm at T1 hnm T3
          clear K1 HW HPz HEz Oz omb hmb Eb hnb
          go_wp2_with fail
          refine (T1.out).mono ?_
          rintro e wc ⟨rfl, ⟨vc1, vo1, pv1, hP1⟩, G1⟩
          have P1 := hid hP1
          have HW2 := hid (HW1.out.keptB G1 hbw)
          have Oc := hid (own_keptB Ob.out G1 (by omega))
          have HEc := hid (ext_keptB HEb.out G1 hwp)
          have K2 := hid (HKB.out _ HEc.out)
          clear T1 HW1 Ob HEb hP1 G1
          go_wp2_with fail
          refine (K2.out).mono ?_
          rintro e wd ⟨vd', rfl, omd, Ed⟩
          have hmd := omd.is
          obtain ⟨a3', k3', a4', k4', rfl, _, _⟩ := hmd.unpack
          have T2' := hid (T2.out _ _ _ _ _ (P1.out.ext Ed) hmd)
          have HW3 := hid (HW2.out.ext Ed)
          have Od := hid (own_ext Oc.out Ed)
          have HEd := hid (HEc.out.trans Ed)
          clear K2 HW2 Oc HEc omd hmd Ed T2 P1
          go_wp2_with fail
          refine (T2'.out).mono ?_
          rintro e we ⟨rfl, ⟨vc2, vo2, pv2, hP2⟩, G2⟩
          have P2 := hid hP2
          have HW4 := hid (HW3.out.keptB G2 hbw)
          have Oe := hid (own_keptB Od.out G2 (by omega))
          have HEe := hid (ext_keptB HEd.out G2 hwp)
          have AL2 := hid (pall_ok P2.out mok' oX (by omega))
          have q1 : ¬ ((nm : Int) < 0) := by omega
          have q2 : ¬ ((nm : Int) > (X.length : Int)) := by omega
          clear T2' HW3 Od HEd hP2 G2
          go_wp2_with fail
          refine (AL2.out).mono ?_
          rintro e wf ⟨vf, rfl, of_, Ef⟩
          obtain ⟨af, cf, rfl⟩ := own_form of_
          have QE := equal_Pair (.slice af X.length cf) (.slice a9 X.length c9) X X wf (own_seg of_) ((own_seg Oe.out).ext Ef)
          rw [show decide (X = X) = true by simp] at QE
          have QE := hid QE
          clear AL2 of_
          go_wp2_with fail
          refine (QE.out).mono ?_
          rintro e wg ⟨rfl, ng, rfl⟩
          have ET := Ef.drewN ng
          have P3 := hid (P2.out.ext ET)
          have HW5 := hid (HW4.out.ext ET)
          have HEg := hid (HEe.out.trans ET)
          have K3 := hid (HKA.out _ HEg.out)
          clear QE P2 HW4 HEe Oe ET Ef
          go_wp2_with fail
          refine (K3.out).mono ?_
          rintro e wh ⟨vh, rfl, omh, Eh⟩
          have hmh := omh.is
          obtain ⟨a5', k5', a6', k6', rfl, _, _⟩ := hmh.unpack
          have T3' := hid (T3.out _ _ _ _ _ (P3.out.ext Eh) hmh)
          have HW6 := hid (HW5.out.ext Eh)
          have HEh := hid (HEg.out.trans Eh)
          clear K3 HW5 HEg omh hmh Eh T3 P3
          go_wp2_with fail
          refine (T3'.out).mono ?_
          rintro e wi' ⟨rfl, ⟨vc3, vo3, pv3, hP3⟩, G3⟩
          have P4 := hid hP3
          have HW7 := hid (HW6.out.keptB G3 hbw)
          have HEi := hid (ext_keptB HEh.out G3 hwp)
          clear T3' HW6 HEh hP3 G3
          go_wp2_with fail
          go_loopw [23, 24, 25, 123] (fun _ _ _ iv wr => ∃ i : Nat, i ≤ 4 ∧ iv = .int .i64 i ∧ Ext wi' wr) (fun _ _ _ iv _ => 4 - (intOf iv).toNat)
          case atStart => exact ⟨0, by omega, rfl, Ext.refl _⟩
          case round =>
            obtain ⟨wj, rfl⟩ : ∃ wj : World, wj = wr := ⟨_, rfl⟩
            obtain ⟨i, hi, rfl, Ej⟩ := hrel
            by_cases hi4 : i < 4
            · have hi4' : ((i : Int) < 4) := by omega
              have hpl := par_len C O X i
              have PP := hid (ppart_ok (P4.out.ext Ej) i hi4 (by omega))
              have HW8 := hid (HW7.out.ext Ej)
              go_wp2_with fail
              refine (PP.out).mono ?_
              rintro e wk ⟨vk, rfl, ok, Ek⟩
              obtain ⟨ak, ck, rfl⟩ := own_form ok
              obtain ⟨cw, fw⟩ := (HW8.out.ext Ek).cellI hi4
              have rw9 := (HW8.out.ext Ek).rows i hi4
              obtain ⟨aw, kw, ew⟩ := own_form rw9
              rw [ew] at cw rw9
              have Q2 := equal_Pair (.slice ak (parP C O X i).length ck) (.slice aw (parP C O X i).length kw) (parP C O X i) (parP C O X i) wk (own_seg ok) (own_seg rw9)
              rw [show decide (parP C O X i = parP C O X i) = true by simp] at Q2
              have Q2 := hid Q2
              clear PP ok rw9 ew
              go_wp2_with fail
              refine (Q2.out).mono ?_
              rintro e wl ⟨rfl, nl, rfl⟩
              go_wp2
              go_roundw
              case rel => exact ⟨i + 1, by omega, by go_num, (Ej.trans Ek).drewN _⟩
              case measure => simp [intOf] <;> omega
            · obtain rfl : i = 4 := by omega
              have EE := hid (HEi.out.trans Ej)
              go_wp2
              go_ret
              exact ⟨rfl, EE.out⟩
end Go.Proofs.YtijcckhkofkenaaGreat
