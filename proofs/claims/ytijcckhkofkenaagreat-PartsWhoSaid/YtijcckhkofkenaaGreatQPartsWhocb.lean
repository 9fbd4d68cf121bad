/- Contracts and lemmas for the proof of PartsWho; each theorem states its own conditions. -/
import Derived.Test.YtijcckhkofkenaaGreatQPartsWhobx
import Derived.Test.YtijcckhkofkenaaGreatQPartsWhoca
import Derived.BigQuiet
set_option linter.unusedVariables false
set_option linter.unusedSimpArgs false
/- Contracts and lemmas for the proofs of this seat; each theorem states its own conditions. -/
namespace Go.Proofs.YtijcckhkofkenaaGreat
open Go.RowKit Go.Shelf
theorem who_keep {C : List ByteArray} {O : List Int} {S : Prs} (hS : StoreOk S) {d : Ops} (hd : DeedOk d) {i : Nat} (h : (i : Int) ∉ whoL C O d) : parP C O (runS S d) i = parP C O S i := by
  obtain ⟨r1, r2, _⟩ := run_val hS hd.ops
  refine store_ext (par_ok r1 C O i) (par_ok hS C O i) fun k => ?_
  rw [par_val r1, par_val hS]
  by_cases e : whose C O k = (i : Int)
  · rw [if_pos e, if_pos e, r2, step_keep hd.ops]
    intro hk
    refine h ((sortI_mem _ _).2 (List.mem_map.2 ⟨k, ?_, e⟩))
    rw [List.mem_append, sortU_mem, sortU_mem]
    exact .inr hk
  · rw [if_neg e, if_neg e]
theorem lessI_any (a b : Int) (w : World) : Calls Tryz.prog 86 #[.int .i64 a, .int .i64 b] w fun e w' => e = .returned (.bool (decide (a < b))) ∧ w' = w := by
  go_enter Tryz.func86, Tryz.ntmps86
  go_wp2
  go_ret
  exact ⟨rfl, rfl⟩
set_option maxRecDepth 100000 in
set_option maxHeartbeats 1000000 in
theorem issorted_ok (v : Value) (L : List Int) (w : World) (hv : Seg w v 1 L.length (cI L)) (hs : L.Pairwise fun x y => x < y) (hn : L.length ≤ 1000) :
    Calls Tryz.prog 56 #[v] w fun e w' => e = .returned (.bool true) ∧ Ext w w' := by
  obtain ⟨a, c, rfl⟩ := seg_form hv
  have HV := hid hv
  clear hv
  go_enter Tryz.func56, Tryz.ntmps56
  go_wp2_with fail
  go_loopw [3] (fun iv wr => ∃ i : Int, i ≤ (L.length : Int) - 1 ∧ -1 ≤ i ∧ iv = .int .i64 i ∧ Ext w wr) (fun iv _ => (intOf iv + 1).toNat)
  case atStart => exact ⟨_, Int.le_refl _, by omega, rfl, Ext.refl _⟩
  case round =>
    obtain ⟨wo, rfl⟩ : ∃ wo : World, wo = wr := ⟨_, rfl⟩
    obtain ⟨i, hi, hi0, rfl, E⟩ := hrel
    by_cases hp : 0 < i
    · obtain ⟨k, rfl⟩ : ∃ k : Nat, i = (k : Int) + 1 := ⟨(i - 1).toNat, by omega⟩
      obtain ⟨b, off, rfl, _, m1, m2, hc⟩ := seg_cells HV.out (by omega)
      unfold maxLen at m2
      have hk1 : k + 1 < L.length := by omega
      have c1 := E.cell (hc (k + 1) _ (cI_at0 L (k + 1) hk1))
      have c0 := E.cell (hc k _ (cI_at0 L k (by omega)))
      have hlt := List.pairwise_iff_getElem.1 hs k (k + 1) (by omega) hk1 (by omega)
      generalize L[k + 1]'hk1 = y at c1 hlt
      generalize L[k]'(by omega) = z at c0 hlt
      have hd : decide (y < z) = false := by simp; omega
      have q0 : ((k : Int) + 1 > 0) := by omega
      have q1 : ((k : Int) + 1).toNat = k + 1 := by omega
      have q2 : ((k : Int) + 1 - 1) = (k : Int) := by omega
      have q3 : ¬ ((k : Int) + 1 < 0) := by omega
      clear hc
      go_wp2_with fail
      refine wp_region_ph [.k (.slice (some ⟨b, off, none⟩) L.length c), .k (.int .i64 ((k : Int) + 1)), .k (.pointer (some ⟨b, off + (k + 1), none⟩)), .k (.int .i64 y), .k (.slice (some ⟨b, off, none⟩) L.length c), .k (.int .i64 ((k : Int) + 1)), .k (.int .i64 k), .k (.pointer (some ⟨b, off + k, none⟩)), .k (.int .i64 z)] [] (by kernel_rfl) (by kernel_rfl) (by kernel_rfl) rfl rfl ?hs ?hC ?he
      case hC =>
        intro i hi
        simp at hi
      case hs =>
        refine ⟨?_, ?_, ?_, ?_, ?_, ?_, ?_, ?_, ?_, trivial⟩
        all_goals (
          intro x w' hE hd
          try simp [PhDeps, at_k, at_p, at_t, at_any, Region.binds] at hd
          try ((with_reducible refine Exists.elim hd ?_); clear hd; intro y hd; obtain ⟨hd, hG⟩ := hd)
          have d0 := hE.cell c1
          have d1 := hE.cell c0
          first | simp only [frL, List.length_cons, List.length_nil, List.take_succ_cons, List.take_zero, Nat.reduceAdd, Nat.zero_add, List.setIfInBounds_toArray, List.set_cons_zero, List.set_cons_succ, hd] | simp only [frL, List.length_cons, List.length_nil, List.take_succ_cons, List.take_zero, Nat.reduceAdd, Nat.zero_add, List.setIfInBounds_toArray, List.set_cons_zero, List.set_cons_succ]
          go_wp2
          all_goals first
            | ((with_reducible refine phK ?_ ?_); (focus rfl); (repeat (first | (with_reducible assumption) | (with_reducible exact Ext.refl _) | (with_reducible refine Ext.drew ?_) | (with_reducible refine Ext.drewN ?_ _) | (with_reducible refine Ext.alloc ?_ _) | (with_reducible refine Ext.trans ?_ (by with_reducible assumption)))))
            | ((with_reducible refine phT rfl hG ?_); (repeat (first | (with_reducible assumption) | (with_reducible exact Ext.refl _) | (with_reducible refine Ext.drew ?_) | (with_reducible refine Ext.drewN ?_ _) | (with_reducible refine Ext.alloc ?_ _) | (with_reducible refine Ext.trans ?_ (by with_reducible assumption)))))
            | ((with_reducible refine phU hG ?_); (repeat (first | (with_reducible assumption) | (with_reducible exact Ext.refl _) | (with_reducible refine Ext.drew ?_) | (with_reducible refine Ext.drewN ?_ _) | (with_reducible refine Ext.alloc ?_ _) | (with_reducible refine Ext.trans ?_ (by with_reducible assumption)))))
            | (with_reducible exact phBox hE)
            | (with_reducible exact phRow hE))
      case he =>
        intro x w4 E4 hd
        simp [PhEnd, at_k, at_p, at_t, at_any] at hd
        simp only [frL, List.length_cons, List.length_nil, List.take_succ_cons, List.take_zero, Nat.reduceAdd, Nat.zero_add, List.setIfInBounds_toArray, List.set_cons_zero, List.set_cons_succ, hd, List.length_cons, List.length_nil, List.drop_succ_cons, List.drop_zero]
        clear hd
        go_wp2_with fail
        refine (lessI_any _ _ _).mono ?_
        rintro e w5 ⟨rfl, rfl⟩
        go_wp2
        go_roundw
        case rel => exact ⟨(k : Int), by omega, by omega, rfl, E.trans E4⟩
        case measure => simp [intOf] <;> omega
    · go_wp2
      go_ret
      exact ⟨rfl, E⟩
theorem conI_any (v : Value) (zs : List Int) (x : Int) (w : World) (hv : Seg w v 1 zs.length (cI zs)) (h : 0 < zs.length) :
    Calls Tryz.prog 57 #[v, .int .i64 x] w fun e w' => e = .returned (.bool (zs.contains x)) ∧ w' = w := by
  obtain ⟨h0, a, cap, rfl, h1, h2, h3⟩ := hv
  unfold maxLen at h2
  obtain ⟨b, off, rfl, hc⟩ := h3 h
  have := Any.slices_Contains_int lays107 b off zs.length cap zs x w (Nat.le_refl _) (by omega) (fun j hj => by
    have := hc j _ (cI_at0 zs j hj)
    rw [this]; simp [hj])
  rw [List.take_of_length_le (Nat.le_refl _)] at this
  exact this
set_option maxRecDepth 100000 in
set_option maxHeartbeats 8000000 in
theorem pwho_walk (v v2 vd : Value) (la l2 : List Int) (ls : List (List Int)) (w : World) (hv : Seg w v 1 la.length (cI la)) (hb : ∀ z ∈ la, -9223372036854775808 ≤ z ∧ z ≤ 9223372036854775807)
    (hv2 : Seg w v2 1 l2.length (cI l2)) (hb2 : ∀ z ∈ l2, -9223372036854775808 ≤ z ∧ z ≤ 9223372036854775807) (hvd : SegLL w vd ls) :
    Calls Tryz.prog 7 #[v, v2, vd] w fun e w' => e = .returned (.bool true) ∧ Ext w w' := by
  go_enter Tryz.func7, Tryz.ntmps7
  go_wp2_with fail
  refine (partsBegun_any _).mono ?_
  rintro e w1 ⟨rfl, E⟩
  replace hv := hv.ext E
  replace hv2 := hv2.ext E
  replace hvd := hvd.ext E
  go_wp2_with fail
  refine (kMap_any _ la _ hv hb).mono ?_
  rintro e w2 ⟨vm, rfl, om, E1⟩
  have hm := om.is
  have mok := mk_ok la
  have msm := mk_small la
  generalize mkC la 6 = C at hm mok msm
  generalize mkO la 6 = O at hm mok
  obtain ⟨am, km, ao, ko, rfl, _, _⟩ := hm.unpack
  replace hv2 := hv2.ext E1
  replace hvd := hvd.ext E1
  replace E := E.trans E1
  clear om E1 hv
  go_wp2_with fail
  refine (pairs_any _ l2 _ hv2 hb2).mono ?_
  rintro e w3 ⟨vs, S, rfl, oS, lS, hS, E1⟩
  replace hm := hm.ext E1
  replace hvd := hvd.ext E1
  replace E := E.trans E1
  clear E1
  obtain ⟨a0, c0, rfl⟩ := own_form hS
  have NP := hid (pnew_ok (.agg #[.slice am C.length km, .slice ao O.length ko]) (.slice a0 S.length c0) C O S w3 hm mok msm (own_seg hS) oS (by omega))
  clear hS hm hv2
  go_wp2_with fail
  refine (NP.out).mono ?_
  rintro e w4 ⟨bp, vc, vo, pv, rfl, hbp, hP, E4⟩
  have hwp : w.heap.size ≤ bp := by have := E.size'; omega
  have hp4 := hP.lt
  replace hvd := hvd.ext E4
  replace E := E.trans E4
  have HP := hid hP
  clear NP E4 hP
  go_wp2_with fail
  refine (deeds_any _ ls 10 _ hvd (by omega)).mono ?_
  rintro e w8 ⟨vD, us, D, rfl, hout, hds, hdg, hdl, E8⟩
  obtain ⟨aD, cD, rfl⟩ := own_form hout
  have hul := hds.len
  rw [hul] at hout
  simp only [hul]
  have HDS := hid hds
  have HO := hid hout
  have HP4 := hid (HP.out.ext E8)
  have dok : ∀ d ∈ D, DeedOk d := fun d h => (hdg d h).ok
  have dsm : ∀ d ∈ D, ∀ o ∈ d, o.from_.size ≤ 9223372036854775807 := fun d h => (hdg d h).sm
  have HE := hid (E.trans E8)
  obtain ⟨B, hB⟩ : ∃ B, w4.heap.size = B := ⟨_, rfl⟩
  rw [hB] at HDS HO hp4
  clear hul hds hout hvd hdg E8 E HP hB
  go_wp2_with fail
  go_loopw [10, 11, 12, 13, 14, 15, 16, 17, 18, 19, 35, 57, 77] (fun _ _ _ _ _ _ _ _ _ _ iv _ _ wr => ∃ (k : Nat) (X : Prs) (pv : Nat → Value), k ≤ D.length ∧ iv = .int .i64 k ∧ StoreOk X ∧ X.length ≤ 30 + 16 * k ∧ PartsSt wr bp C O (parP C O X) vc vo pv ∧ OwnDs wr B us D ∧ wr.ownsRow B 29 1 (.slice aD D.length cD) D.length us ∧ Ext w wr) (fun _ _ _ _ _ _ _ _ _ _ iv _ _ _ => D.length - (intOf iv).toNat)
  case atStart => exact ⟨0, S, pv, Nat.zero_le _, rfl, oS, by omega, HP4.out, HDS.out, HO.out, HE.out⟩
  case round =>
    clear HP4 HDS HO HE
    obtain ⟨wo, rfl⟩ : ∃ wo : World, wo = wr := ⟨_, rfl⟩
    obtain ⟨k, X, pv, hk, rfl, oX, lX, hP, hds, ho, E⟩ := hrel
    by_cases hkD : k < D.length
    · obtain ⟨bD, x1, y1, rfl, c1, s1, m1, m2⟩ := deed_cell' hds ho hkD
      unfold maxLen at m2
      have d1 := dok _ (List.getElem_mem hkD)
      have f1 := dsm _ (List.getElem_mem hkD)
      generalize D[k] = p at c1 s1 d1 f1
      have hp8 := d1.hi
      have bz := heap_alloc_new wo (.cells #[.slice x1 p.length y1] 29)
      have z1 := cell_of_one bz
      have E8 := (Ext.refl wo).alloc (.cells #[.slice x1 p.length y1] 29)
      have WH := pwho_ok (hP.ext E8) mok (.slice x1 p.length y1) p ((own_seg s1).ext E8) d1 f1
      have DP := fun w' pvq (hQ : PartsSt w' bp C O (parP C O X) vc vo pvq) (hd : w'.ownsRow B 37 4 (.slice x1 p.length y1) p.length (cO p)) => pdo_ok hQ mok oX (by omega) (.slice x1 p.length y1) p (own_seg hd) d1 f1
      have oY := (run_val oX d1.ops).1
      have lY := run_len X p
      have hwpos := who_pos C O d1
      have hwlen := who_len C O d1
      have hwsrt : (whoL C O p).Pairwise fun x y => x < y := sortI_srt _
      have hwk := fun (i : Nat) (h : (i : Int) ∉ whoL C O p) => who_keep (C := C) (O := O) oX d1 h
      generalize runS X p = Y at DP oY lY hwk
      generalize whoL C O p = WL at WH hwpos hwlen hwsrt hwk
      have HWK := hid hwk
      have HWS := hid hwsrt
      have DP := hid DP
      have WH := hid WH
      have A1 := hid (hP.ext E8)
      have A3 := hid (hds.ext E8)
      have A4 := hid (own_ext ho E8)
      have A5 := hid (E.trans E8)
      have A6 := hid (own_ext s1 E8)
      have hbo := hP.lt
      obtain ⟨g0, hg0⟩ : ∃ g0, wo.heap.size = g0 := ⟨_, rfl⟩
      rw [hg0] at bz z1 hbo
      have AB := hid bz
      obtain ⟨wA, hwA⟩ : ∃ wA, wo.alloc (.cells #[.slice x1 p.length y1] 29) = wA := ⟨_, rfl⟩
      rw [hwA] at WH A1 A3 A4 A5 A6 AB z1
      have hgA : g0 < wA.heap.size := (Array.getElem?_eq_some_iff.1 AB.out).1
      have q0 : ((WL.length : Int) == 0) = false := by simp; exact List.length_pos_iff.1 hwpos
      clear hP hds ho E s1 bz hwk hwsrt
      go_wp2_with fail
      refine (WH.out).mono ?_
      rintro e wB ⟨vB, rfl, oB, EB⟩
      obtain ⟨aB, cB', rfl⟩ := own_form oB
      have IS := hid (issorted_ok (.slice aB WL.length cB') WL wB (own_seg oB) HWS.out (by omega))
      have OB := hid oB
      clear WH oB
      go_wp2_with fail
      refine (IS.out).mono ?_
      rintro e wC ⟨rfl, EC⟩
      have B1 := hid (A1.out.ext (EB.trans EC))
      have B3 := hid (A3.out.ext (EB.trans EC))
      have B4 := hid (own_ext A4.out (EB.trans EC))
      have B5 := hid (A5.out.trans (EB.trans EC))
      have B6 := hid (own_ext A6.out (EB.trans EC))
      have B7 := hid ((EB.trans EC).heap AB.out)
      have OC := hid (own_ext OB.out EC)
      have hgC := (EB.trans EC).size'
      have W0 := hid (was_new wC (parP C O X))
      have E10 := hid ((Ext.refl wC).alloc (.cells #[.slice none 0 0, .slice none 0 0, .slice none 0 0, .slice none 0 0] 94))
      obtain ⟨Bw, hBw⟩ : ∃ Bw, wC.heap.size = Bw := ⟨_, rfl⟩
      rw [hBw] at W0 hgC
      have HB9 := hid (show wC.heap.size ≤ Bw by omega)
      have hbw : bp < Bw := by omega
      clear A1 A3 A4 A5 A6 AB IS OB z1 EB EC
      go_wp2_with fail
      go_loopw [14, 57] (fun _ iv wr => ∃ (i : Nat) (wv : Nat → Value), i ≤ 4 ∧ iv = .int .i64 i ∧ WasSt wr Bw Bw (untilP (parP C O X) i) wv ∧ Ext wC wr) (fun _ iv _ => 4 - (intOf iv).toNat)
      case atStart => exact ⟨0, _, by omega, rfl, W0.out, E10.out⟩
      case round =>
        clear W0 E10
        obtain ⟨wz, rfl⟩ : ∃ wz : World, wz = wr := ⟨_, rfl⟩
        obtain ⟨i, wv, hi, rfl, hW, Ez⟩ := hrel
        by_cases hi4 : i < 4
        · have hi4' : ((i : Int) < 4) := by omega
          have hpl := par_len C O X i
          have PP := hid (ppart_ok (B1.out.ext Ez) i hi4 (by omega))
          have HW := hid hW
          have hzz := Ez.size'
          clear hW
          go_wp2_with fail
          refine (PP.out).mono ?_
          rintro e wa ⟨va, rfl, oa, Ea⟩
          obtain ⟨aa, ca, rfl⟩ := own_form oa
          obtain ⟨cw, fw⟩ := (HW.out.ext Ea).cellI hi4
          have hWN := (HW.out.ext Ea).set hi4 (own_base oa (show Bw ≤ _ by omega))
          have hWN2 : WasSt _ Bw Bw (untilP (parP C O X) (i + 1)) _ := hWN.congr (fun j _ => congrFun (until_step (parP C O X) i) j)
          have HWN := hid hWN2
          have EN := hid ((Ez.trans Ea).setCell (p := ⟨Bw, i, none⟩) HB9.out (.slice aa (parP C O X i).length ca))
          clear PP oa hWN hWN2
          go_wp2
          go_roundw
          case rel => exact ⟨i + 1, _, by omega, by go_num, HWN.out, EN.out⟩
          case measure => simp [intOf] <;> omega
        · obtain rfl : i = 4 := by omega
          have HW := hid (hW.congr (until_all _))
          have D1' := B1.out.ext Ez
          have D6' := own_ext B6.out Ez
          have DO := hid (DP.out wz _ D1' D6')
          have D3 := hid (B3.out.ext Ez)
          have D4 := hid (own_ext B4.out Ez)
          have D5 := hid (B5.out.trans Ez)
          have z2 := cell_of_one (Ez.heap B7.out)
          have DC := hid (own_ext OC.out Ez)
          clear hW B1 B3 B4 B5 B6 B7 OC DP D1' D6'
          go_wp2_with fail
          refine (DO.out).mono ?_
          rintro e wE ⟨rfl, ⟨pvE, hPE⟩, G⟩
          have F1 := hid hPE
          have F3 := hid (D3.out.keptB G (by omega))
          have F4 := hid (own_keptB D4.out G (by omega))
          have F5 := hid (ext_keptB D5.out G hwp)
          have FC := hid (own_keptB DC.out G (by omega))
          have HW2 := hid (HW.out.keptB G hbw)
          clear DO D3 D4 D5 DC HW z2 hPE G
          go_wp2_with fail
          go_loopw [17, 18, 19, 77] (fun _ _ _ iv wr => ∃ i : Nat, i ≤ 4 ∧ iv = .int .i64 i ∧ Ext wE wr) (fun _ _ _ iv _ => 4 - (intOf iv).toNat)
          case atStart => exact ⟨0, by omega, rfl, Ext.refl _⟩
          case round =>
            obtain ⟨wj, rfl⟩ : ∃ wj : World, wj = wr := ⟨_, rfl⟩
            obtain ⟨i, hi, rfl, Ej⟩ := hrel
            by_cases hi4 : i < 4
            · have hi4' : ((i : Int) < 4) := by omega
              have hpl := par_len C O Y i
              have PP := hid (ppart_ok (F1.out.ext Ej) i hi4 (by omega))
              have HW8 := hid (HW2.out.ext Ej)
              have CN := hid (fun w' (E : Ext wj w') => conI_any (.slice aB WL.length cB') WL (i : Int) w' ((own_seg FC.out).ext (Ej.trans E)) hwpos)
              go_wp2_with fail
              refine (PP.out).mono ?_
              rintro e wk ⟨vk, rfl, ok, Ek⟩
              obtain ⟨ak, ck, rfl⟩ := own_form ok
              have CK := CN.out wk Ek
              cases hcn : WL.contains (i : Int) with
              | true =>
                rw [hcn] at CK
                have CK := hid CK
                clear CN PP ok
                go_wp2_with fail
                refine (CK.out).mono ?_
                rintro e wl ⟨rfl, rfl⟩
                go_wp2
                go_roundw
                case rel => exact ⟨i + 1, by omega, by go_num, Ej.trans Ek⟩
                case measure => simp [intOf] <;> omega
              | false =>
                rw [hcn] at CK
                have CK := hid CK
                have hkeep := HWK.out i (fun hm => by rw [← List.contains_iff_mem, hcn] at hm; cases hm)
                rw [hkeep] at ok ⊢
                obtain ⟨cw, fw⟩ := (HW8.out.ext Ek).cellI hi4
                have rw9 := (HW8.out.ext Ek).rows i hi4
                obtain ⟨aw, kw, ew⟩ := own_form rw9
                rw [ew] at cw rw9
                have Q2 := fun w' (E : Ext wk w') => equal_Pair (.slice ak (parP C O X i).length ck) (.slice aw (parP C O X i).length kw) (parP C O X i) (parP C O X i) w' ((own_seg ok).ext E) ((own_seg rw9).ext E)
                simp only [show decide (parP C O X i = parP C O X i) = true by simp] at Q2
                have Q2 := hid Q2
                clear PP ok rw9 ew CN hkeep
                go_wp2_with fail
                refine (CK.out).mono ?_
                rintro e wl ⟨rfl, rfl⟩
                go_wp2_with fail
                refine (Q2.out _ (Ext.refl _)).mono ?_
                rintro e wm ⟨rfl, nl, rfl⟩
                go_wp2
                go_roundw
                case rel => exact ⟨i + 1, by omega, by go_num, (Ej.trans Ek).drewN _⟩
                case measure => simp [intOf] <;> omega
            · obtain rfl : i = 4 := by omega
              have H1 := hid (F1.out.ext Ej)
              have H3 := hid (F3.out.ext Ej)
              have H4 := hid (own_ext F4.out Ej)
              have H5 := hid (F5.out.trans Ej)
              clear F1 F3 F4 F5 FC HW2
              go_wp2
              go_roundw
              case rel => exact ⟨k + 1, Y, _, by omega, by go_num, oY, by omega, H1.out, H3.out, H4.out, H5.out⟩
              case measure => simp [intOf] <;> omega
    · obtain rfl : k = D.length := by omega
      have EE := hid E
      clear hP hds ho E
      go_wp2
      go_ret
      exact ⟨rfl, EE.out⟩
end Go.Proofs.YtijcckhkofkenaaGreat
