/- Contracts and lemmas for the proof of TopInputs; each theorem states its own conditions. -/
import Derived.Test.YtnepdfpooobmcaaGreatQTopInputsby
import Derived.BigQuiet
set_option linter.unusedVariables false
set_option linter.unusedSimpArgs false
/- Contracts and lemmas for the proofs of this seat; each theorem states its own conditions. -/
namespace Go.Proofs.YtnepdfpooobmcaaGreat
open Go.RowKit
theorem equal_Bq (v u : Value) (L : List Bool) (w : World) (h : Seg w v 1 L.length (L.map Value.bool)) (h' : Seg w u 1 L.length (L.map Value.bool)) :
    Calls Tryz.prog 18 #[v, u] w fun e w' => e = .returned (.bool true) ∧ Ext w w' := by
  have q := equal_Bool v u L L w h h'
  rw [decide_eq_true (rfl : L = L)] at q
  refine q.mono ?_
  rintro e w1 ⟨rfl, n, rfl⟩
  exact ⟨rfl, (Ext.refl w).drewN n⟩
set_option maxRecDepth 100000 in
set_option maxHeartbeats 16000000 in
theorem tinputs_walk (v v2 vd : Value) (la l2 : List Int) (ds : List (List Int)) (z3 : Int) (w : World) (hv : Seg w v 1 la.length (cI la)) (hb : ∀ z ∈ la, -9223372036854775808 ≤ z ∧ z ≤ 9223372036854775807)
    (hv2 : Seg w v2 1 l2.length (cI l2)) (hb2 : ∀ z ∈ l2, -9223372036854775808 ≤ z ∧ z ≤ 9223372036854775807) (hvd : SegLL w vd ds) :
    Calls Tryz.prog 3 #[v, v2, vd, .int .i64 z3] w fun e w' => e = .returned (.bool true) ∧ Ext w w' := by
  obtain ⟨t, ht1, _, ht3⟩ := wi_nat (z := z3) (n := 3) (by omega)
  have ht1 : wi z3 3 = (t : Int) := ht1
  have WI := fun w' => within_any z3 3 w' (by omega) (by omega)
  rw [ht1] at WI
  have WI := hid WI
  clear ht1
  have KM := fun w' (q : Ext w w') => kMap_any v la w' (hv.ext q) hb
  have KN := fun w' => kMap_any (.slice none 0 0) [] w' (Seg.nil _ _) (by simp)
  have PW := hid (fun w' (q : Ext w w') => pairs_fn v2 l2 w' (hv2.ext q) hb2)
  have DW := hid (fun w' (q : Ext w w') => deeds_any vd ds 12 w' (hvd.ext q) (by omega))
  have mok := mk_ok la
  have msm := mk_small la
  have mokn := mk_ok []
  have msmn := mk_small []
  obtain ⟨C0, hC0⟩ : ∃ C0, mkC la 6 = C0 := ⟨_, rfl⟩
  obtain ⟨O0, hO0⟩ : ∃ O0, mkO la 6 = O0 := ⟨_, rfl⟩
  obtain ⟨C1, hC1⟩ : ∃ C1, mkC [] 6 = C1 := ⟨_, rfl⟩
  obtain ⟨O1, hO1⟩ : ∃ O1, mkO [] 6 = O1 := ⟨_, rfl⟩
  rw [hC0] at mok msm KM
  rw [hO0] at mok KM
  rw [hC1] at mokn msmn KN
  rw [hO1] at mokn KN
  have KM := hid KM
  have KN := hid KN
  have MOK := hid (And.intro mok msm)
  have MOKN := hid (And.intro mokn msmn)
  clear hC0 hO0 hC1 hO1 hv hv2 hvd mok msm mokn msmn
  go_enter Tryz.func3, Tryz.ntmps3
  go_wp2_with fail
  refine (rbegun_any _).mono ?_
  rintro e w1 ⟨rfl, E1⟩
  have DW1 := hid (DW.out w1 E1)
  have HE1 := hid E1
  clear E1 DW
  go_wp2_with fail
  refine (DW1.out).mono ?_
  clear DW1
  rintro e w2 ⟨vD, vs, D, rfl, hrow, hown, hdg, hdl, E2⟩
  have hlen := hown.len
  have hDK : DsK w2 vD vs D := ⟨by rw [← hlen]; exact own_base hrow (Nat.zero_le _), hlen, fun i u d a b => own_base (hown.own i u d a b) (Nat.zero_le _)⟩
  obtain ⟨aD, cD, e1⟩ := own_form hrow
  rw [hlen] at e1
  subst e1
  have HDK := hid hDK
  have HDG := hid hdg
  have KM1 := hid (KM.out w2 (HE1.out.trans E2))
  have HE2 := hid (HE1.out.trans E2)
  clear hrow hown hlen hDK hdg E2 HE1 KM
  go_wp2_with fail
  refine (KM1.out).mono ?_
  clear KM1
  rintro e w3 ⟨vm, rfl, om, E3⟩
  have hm := om.is
  obtain ⟨am, km, ao, ko, rfl, _, _⟩ := hm.unpack
  have PW1 := hid (PW.out w3 (HE2.out.trans E3))
  have HM := hid hm
  have HE3 := hid (HE2.out.trans E3)
  have HDK := hid (HDK.out.ext E3)
  clear om hm E3 HE2
  go_wp2_with fail
  refine (PW1.out).mono ?_
  clear PW1
  rintro e w4 ⟨vs0, S0, rfl, oS, lS, hSF, hS, E4⟩
  obtain ⟨as0, cs0, rfl⟩ := own_form hS
  have CN := hid (cnew_okN 3 1 (by omega) (by omega) (by omega) (by omega) (.agg #[.slice am C0.length km, .slice ao O0.length ko]) (.slice as0 S0.length cs0) C0 O0 S0 w4 (HM.out.ext E4) MOK.out.1 MOK.out.2 (own_seg hS) oS (by omega))
  have HOK := hid (show CopOk 30 ⟨C0, O0, S0, 0, []⟩ ∧ (⟨C0, O0, S0, 0, []⟩ : Cop).dn = 0 from ⟨⟨MOK.out.1, MOK.out.2, oS, by simp only; omega, rfl⟩, rfl⟩)
  have HOKN := hid (show CopOk 30 ⟨C1, O1, S0, 0, []⟩ ∧ (⟨C1, O1, S0, 0, []⟩ : Cop).dn = 0 from ⟨⟨MOKN.out.1, MOKN.out.2, oS, by simp only; omega, rfl⟩, rfl⟩)
  have HSR := hid (And.intro oS (And.intro lS hSF))
  have HE4 := hid (HE3.out.trans E4)
  have HDK := hid (HDK.out.ext E4)
  clear hS oS lS hSF E4 HM HE3
  go_wp2_with fail
  refine (CN.out).mono ?_
  clear CN
  rintro e w5 ⟨b, F, rfl, hC, hF, E5⟩
  have HC := hid hC
  have HFl := hid (fun q (hq : F q) => Nat.le_trans HE4.out.size' (hF q hq))
  have HE5 := hid (HE4.out.trans E5)
  have HDK := hid (HDK.out.ext E5)
  have KN1 := hid (KN.out w5)
  clear hC hF E5 HE4 KN
  go_wp2_with fail
  refine (KN1.out).mono ?_
  clear KN1
  rintro e w6 ⟨vm, rfl, om, E6⟩
  have hm := om.is
  obtain ⟨am1, km1, ao1, ko1, rfl, _, _⟩ := hm.unpack
  have PW1 := hid (PW.out w6 (HE5.out.trans E6))
  have HM := hid hm
  have HE6 := hid E6
  clear om hm E6 PW
  go_wp2_with fail
  refine (PW1.out).mono ?_
  clear PW1
  rintro e w7 ⟨vs0, S', rfl, oS', _, hSF', hS', E7⟩
  obtain rfl : S' = S0 := store_ext oS' HSR.out.1 (fun x => by rw [hSF', HSR.out.2.2])
  obtain ⟨as1, cs1, rfl⟩ := own_form hS'
  have CN := hid (cnew_okN 3 1 (by omega) (by omega) (by omega) (by omega) (.agg #[.slice am1 C1.length km1, .slice ao1 O1.length ko1]) (.slice as1 S'.length cs1) C1 O1 S' w7 (HM.out.ext E7) MOKN.out.1 MOKN.out.2 (own_seg hS') oS' (by have := HSR.out.2.1; omega))
  have HE7 := hid (HE6.out.trans E7)
  clear hS' oS' hSF' E7 HM HE6
  go_wp2_with fail
  refine (CN.out).mono ?_
  clear CN
  rintro e w8 ⟨g, G, rfl, hC', hG, E8⟩
  have HT := hid (TI.start (w := w) HC.out HE7.out hC' HFl.out hG E8 (HE5.out.trans HE7.out) ⟨HOK.out.1, rfl⟩ ⟨HOKN.out.1, rfl⟩ (HDK.out.ext (HE7.out.trans E8)))
  obtain ⟨S0, rfl⟩ : ∃ S : Prs, S = S' := ⟨_, rfl⟩
  clear hC' hG E8 HC HFl HE5 HE7 HDK HSR MOK MOKN
  go_wp2_with fail
  go_loopw [60] (fun kv wr => ∃ k : Nat, k ≤ D.length ∧ kv = .int .i64 k ∧ Hid (TI w b g ⟨C0, O0, S0, 0, []⟩ ⟨C1, O1, S0, 0, []⟩ k 0 (List.replicate 3 []) (op3 fun i => bk D i k) 0 (List.replicate 3 []) (List.replicate 3 []) 0 (.slice aD D.length cD) vs D wr)) (fun kv _ => D.length - (intOf kv).toNat)
  case atStart => exact ⟨0, Nat.zero_le _, rfl, HT⟩
  case round =>
    clear HT
    obtain ⟨wo, rfl⟩ : ∃ wo : World, wo = wr := ⟨_, rfl⟩
    obtain ⟨k, hk, rfl, hT⟩ := hrel
    by_cases hkl : k < D.length
    · have hds := hT.out.ds
      obtain ⟨bd, od, rfl, _, q1, q2, hcd⟩ := seg_cells (own_seg hds.row) (by omega)
      unfold maxLen at q2
      have hxv : k < vs.length := by have := hds.len; omega
      have z := hcd k _ (List.getElem?_eq_getElem hxv)
      have ow := hds.own k vs[k] D[k] (List.getElem?_eq_getElem hxv) (List.getElem?_eq_getElem hkl)
      have hg := HDG.out D[k] (List.getElem_mem hkl)
      rw [show D[k] = D.getD k [] by simp [hkl]] at hg ow
      obtain ⟨ad, kd, e1⟩ := own_form ow
      have e2 : vs.getD k (.slice none 0 0) = .slice ad (D.getD k []).length kd := by rw [← e1]; simp [hxv]
      rw [e1] at z
      have EA := (Ext.refl wo).alloc (.cells #[.slice ad (D.getD k []).length kd] 39)
      have bx := heap_alloc_new wo (.cells #[.slice ad (D.getD k []).length kd] 39)
      obtain ⟨wA, hwA⟩ : ∃ wA, wo.alloc (.cells #[.slice ad (D.getD k []).length kd] 39) = wA := ⟨_, rfl⟩
      obtain ⟨bxx, hbxx⟩ : ∃ bxx, wo.heap.size = bxx := ⟨_, rfl⟩
      rw [hwA] at EA bx
      rw [hbxx] at bx
      have cx : wA.cell? ⟨bxx, 0, none⟩ = some (.slice ad (D.getD k []).length kd) := by simp [World.cell?, bx]
      have hTA := hT.out.ext EA
      obtain ⟨bm, c0, AD⟩ := hTA.add (by omega) (i := k % 3) (Nat.mod_lt _ (by omega)) hkl hg
      rw [e2, ← bk_step] at AD
      have AD := hid AD
      obtain ⟨L, hL⟩ : ∃ L, (D.getD k []).length = L := ⟨_, rfl⟩
      rw [hL] at z cx hwA AD
      have qm : ((k : Int)).tmod 3 = ((k % 3 : Nat) : Int) := by
        rw [Int.tmod_eq_emod_of_nonneg (by omega)]; omega
      clear hds hcd ow hg e1 e2 EA bx hTA hL hT
      go_wp2_with fail
      refine wp_region_ph [.k (.pointer (some ⟨b, 0, none⟩)), .k (.pointer (some ⟨b, 0, none⟩)), .k (.pointer (some ⟨b, 0, none⟩)), .k (.pointer (some ⟨bm, 0, none⟩)), .k (.int .i64 k), .k (.int .i64 (k % 3 : Nat)), .k (.agg #[.slice ad L kd]), .k (.agg #[.slice ad L kd, .bool false, .slice none 0 0, .slice none 0 0])] [] (by kernel_rfl) (by kernel_rfl) (by kernel_rfl) rfl rfl ?hs ?hC ?he
      case hC =>
        intro i hi
        simp at hi
      case hs =>
        refine ⟨?_, ?_, ?_, ?_, ?_, ?_, ?_, ?_, trivial⟩
        all_goals (
          intro x w' hE hd
          try simp [PhDeps, at_k, at_p, at_t, at_any, Region.binds] at hd
          try ((with_reducible refine Exists.elim hd ?_); clear hd; intro y hd; obtain ⟨hd, hG⟩ := hd)
          have d1 := hE.cell c0
          have d2 := hE.cell cx
          first | simp only [frL, List.length_cons, List.length_nil, List.take_succ_cons, List.take_zero, Nat.reduceAdd, Nat.zero_add, List.setIfInBounds_toArray, List.set_cons_zero, List.set_cons_succ, hd] | simp only [frL, List.length_cons, List.length_nil, List.take_succ_cons, List.take_zero, Nat.reduceAdd, Nat.zero_add, List.setIfInBounds_toArray, List.set_cons_zero, List.set_cons_succ]
          go_wp2
          all_goals first
            | ((with_reducible refine phK ?_ ?_); (focus rfl); (repeat (first | (with_reducible assumption) | (with_reducible exact Ext.refl _) | (with_reducible refine Ext.drew ?_) | (with_reducible refine Ext.drewN ?_ _) | (with_reducible refine Ext.alloc ?_ _) | (with_reducible refine Ext.trans ?_ (by with_reducible assumption)))))
            | ((with_reducible refine phT rfl hG ?_); (repeat (first | (with_reducible assumption) | (with_reducible exact Ext.refl _) | (with_reducible refine Ext.drew ?_) | (with_reducible refine Ext.drewN ?_ _) | (with_reducible refine Ext.alloc ?_ _) | (with_reducible refine Ext.trans ?_ (by with_reducible assumption)))))
            | ((with_reducible refine phU hG ?_); (repeat (first | (with_reducible assumption) | (with_reducible exact Ext.refl _) | (with_reducible refine Ext.drew ?_) | (with_reducible refine Ext.drewN ?_ _) | (with_reducible refine Ext.alloc ?_ _) | (with_reducible refine Ext.trans ?_ (by with_reducible assumption)))))
            | (with_reducible exact phBox hE)
            | (with_reducible exact phRow hE))
      case he =>
        intro x wq Eq hd
        simp [PhEnd, at_k, at_p, at_t, at_any] at hd
        simp only [frL, List.length_cons, List.length_nil, List.take_succ_cons, List.take_zero, Nat.reduceAdd, Nat.zero_add, List.setIfInBounds_toArray, List.set_cons_zero, List.set_cons_succ, hd, List.length_cons, List.length_nil, List.drop_succ_cons, List.drop_zero]
        clear hd
        have AD1 := hid (AD.out wq Eq)
        clear AD Eq c0 z cx
        go_wp2_with fail
        refine (AD1.out).mono ?_
        clear AD1
        rintro e w10 ⟨rfl, hT⟩
        have HT := hid hT
        clear hT
        go_wp2_with fail
        go_roundw
        case rel => exact ⟨k + 1, by omega, by go_num, HT⟩
        case measure => simp [intOf] <;> omega
    · obtain rfl : k = D.length := by omega
      have HT := hid (show TI w b g ⟨C0, O0, S0, 0, []⟩ ⟨C1, O1, S0, 0, []⟩ (D.length + 0) 0 (cl3 (fun i => bk D i D.length) (qB 0 0)) (opA D 0) 0 (List.replicate 3 []) (List.replicate 3 []) 0 (.slice aD D.length cD) vs D wo by
        rw [qB_zero, show opA D 0 = op3 fun i => bk D i D.length from op3_congr fun i _ => by simp]
        exact hT.out)
      clear hT
      go_wp2_with fail
      go_loopw [76] (fun kv wr => ∃ i : Nat, i ≤ 3 ∧ kv = .int .i64 i ∧ Hid (TI w b g ⟨C0, O0, S0, 0, []⟩ ⟨C1, O1, S0, 0, []⟩ (D.length + i) 0 (cl3 (fun i => bk D i D.length) (qB 0 i)) (opA D i) 0 (List.replicate 3 []) (List.replicate 3 []) 0 (.slice aD D.length cD) vs D wr)) (fun kv _ => 3 - (intOf kv).toNat)
      case atStart => exact ⟨0, by omega, rfl, HT⟩
      case round =>
        clear HT
        obtain ⟨wp, rfl⟩ : ∃ wp : World, wp = wr := ⟨_, rfl⟩
        obtain ⟨i, hi, rfl, hT⟩ := hrel
        by_cases hil : i < 3
        · obtain ⟨bm, c0, CL⟩ := hT.out.close (by omega) hil
          obtain ⟨n1, n2, n3⟩ := clA_next D hil
          rw [n1, n3, n2] at CL
          have CL := hid CL
          clear n1 n2 n3 hT
          go_wp2_with fail
          refine (CL.out).mono ?_
          clear CL c0
          rintro e w10 ⟨⟨m, rfl⟩, hT⟩
          have HT := hid hT
          clear hT
          go_wp2_with fail
          go_roundw
          case rel => exact ⟨i + 1, by omega, by go_num, HT⟩
          case measure => simp [intOf] <;> omega
        · obtain rfl : i = 3 := by omega
          go_wp2_with fail
          have HT := hid (show TI w b g ⟨C0, O0, S0, 0, []⟩ ⟨C1, O1, S0, 0, []⟩ (D.length + 3) (0 * 13) (cl3 (fun i => bk D i D.length) (qB 0 3)) (opA D 3) 0 (cl3 (fun i => bk D i D.length) (qB t 0)) (List.replicate 3 []) (if 0 = 3 ∧ 0 < D.length then 1 else 0) (.slice aD D.length cD) vs D wp by
            rw [qB_zero]
            exact hT.out)
          clear hT
          rw [show ((3 : Nat) : Int) = 3 from rfl]
          go_loopw [91] (fun kv wr => ∃ k : Nat, k ≤ 3 ∧ kv = .int .i64 k ∧ Hid (TI w b g ⟨C0, O0, S0, 0, []⟩ ⟨C1, O1, S0, 0, []⟩ (D.length + 3) (k * 13) (cl3 (fun i => bk D i D.length) (qB 0 3)) (opA D 3) 0 (cl3 (fun i => bk D i D.length) (qB t k)) (List.replicate 3 []) (if k = 3 ∧ 0 < D.length then 1 else 0) (.slice aD D.length cD) vs D wr)) (fun kv _ => 3 - (intOf kv).toNat)
          case atStart => exact ⟨0, by omega, rfl, HT⟩
          case round =>
            clear HT
            obtain ⟨ws, rfl⟩ : ∃ ws : World, ws = wr := ⟨_, rfl⟩
            obtain ⟨k, hk, rfl, hT⟩ := hrel
            by_cases hkl : k < 3
            · obtain ⟨i, hi⟩ : ∃ i, (k + t) % 3 = i := ⟨_, rfl⟩
              have hi3 : i < 3 := by omega
              have qk : ((k : Int) + (t : Int)).tmod 3 = ((i : Nat) : Int) := by
                rw [Int.tmod_eq_emod_of_nonneg (by omega)]; omega
              have WI1 := hid (WI.out ws)
              have HT := hid (show TI w b g ⟨C0, O0, S0, 0, []⟩ ⟨C1, O1, S0, 0, []⟩ (D.length + 3) (k * 13 + 0) (cl3 (fun i => bk D i D.length) (qB 0 3)) (opA D 3) 0 (cl3 (fun i => bk D i D.length) (qB t k)) (opB D i 0) 0 (.slice aD D.length cD) vs D ws by
                have := hT.out
                rw [if_neg (by omega)] at this
                rw [opB_zero]
                exact this)
              have HI := hid hi
              clear hT hi
              go_wp2_with fail
              refine (WI1.out).mono ?_
              clear WI1
              rintro e wq ⟨rfl, rfl⟩
              obtain ⟨ws, rfl⟩ : ∃ wz : World, wz = ws := ⟨_, rfl⟩
              go_wp2_with fail
              go_loopw [101] (fun jv wr => ∃ j : Nat, j ≤ D.length ∧ jv = .int .i64 j ∧ Hid (TI w b g ⟨C0, O0, S0, 0, []⟩ ⟨C1, O1, S0, 0, []⟩ (D.length + 3) (k * 13 + j) (cl3 (fun i => bk D i D.length) (qB 0 3)) (opA D 3) 0 (cl3 (fun i => bk D i D.length) (qB t k)) (opB D i j) 0 (.slice aD D.length cD) vs D wr)) (fun jv _ => D.length - (intOf jv).toNat)
              case atStart => exact ⟨0, Nat.zero_le _, rfl, HT⟩
              case round =>
                clear HT
                obtain ⟨wq, rfl⟩ : ∃ wq : World, wq = wr := ⟨_, rfl⟩
                obtain ⟨j, hj, rfl, hT⟩ := hrel
                by_cases hjl : j < D.length
                · have hds := hT.out.ds
                  obtain ⟨bd, od, rfl, _, q1, q2, hcd⟩ := seg_cells (own_seg hds.row) (by omega)
                  unfold maxLen at q2
                  have hxv : j < vs.length := by have := hds.len; omega
                  have z := hcd j _ (List.getElem?_eq_getElem hxv)
                  have ow := hds.own j vs[j] D[j] (List.getElem?_eq_getElem hxv) (List.getElem?_eq_getElem hjl)
                  have hg := HDG.out D[j] (List.getElem_mem hjl)
                  rw [show D[j] = D.getD j [] by simp [hjl]] at hg ow
                  obtain ⟨ad, kd, e1⟩ := own_form ow
                  have e2 : vs.getD j (.slice none 0 0) = .slice ad (D.getD j []).length kd := by rw [← e1]; simp [hxv]
                  rw [e1] at z
                  have EA := (Ext.refl wq).alloc (.cells #[.slice ad (D.getD j []).length kd] 39)
                  have bx := heap_alloc_new wq (.cells #[.slice ad (D.getD j []).length kd] 39)
                  obtain ⟨wA, hwA⟩ : ∃ wA, wq.alloc (.cells #[.slice ad (D.getD j []).length kd] 39) = wA := ⟨_, rfl⟩
                  obtain ⟨bxx, hbxx⟩ : ∃ bxx, wq.heap.size = bxx := ⟨_, rfl⟩
                  rw [hwA] at EA bx
                  rw [hbxx] at bx
                  have cx : wA.cell? ⟨bxx, 0, none⟩ = some (.slice ad (D.getD j []).length kd) := by simp [World.cell?, bx]
                  have HTA := hid (hT.out.ext EA)
                  have EL := hid (rfl : (D.getD j []).length = (D.getD j []).length)
                  obtain ⟨L, hL⟩ : ∃ L, (D.getD j []).length = L := ⟨_, rfl⟩
                  rw [hL] at z cx hwA e2
                  obtain ⟨r, hr⟩ : ∃ r, j % 3 = r := ⟨_, rfl⟩
                  have qm : ((j : Int)).tmod 3 = ((r : Nat) : Int) := by
                    rw [Int.tmod_eq_emod_of_nonneg (by omega)]; omega
                  have HG2 := hid hg
                  have HE2 := hid e2
                  have HR := hid hr
                  clear hds hcd ow hg e1 e2 EA bx hL hT EL hr
                  by_cases hri : r = i
                  · subst hri
                    obtain ⟨bm, c0, AD⟩ := HTA.out.swap.add (by omega) (i := r) hi3 hjl HG2.out
                    rw [HE2.out, opB_add D hi3 HR.out] at AD
                    have AD := hid AD
                    clear HTA
                    go_wp2_with fail
                    refine wp_region_ph [.k (.int .i64 j), .k (.int .i64 r), .k (.int .i64 r), .k (.bool true), .k (.bool true), .k (.pointer (some ⟨g, 0, none⟩)), .k (.pointer (some ⟨g, 0, none⟩)), .k (.pointer (some ⟨g, 0, none⟩)), .k (.pointer (some ⟨bm, 0, none⟩)), .k (.int .i64 r), .k (.agg #[.slice ad L kd]), .k (.agg #[.slice ad L kd, .bool false, .slice none 0 0, .slice none 0 0])] [] (by kernel_rfl) (by kernel_rfl) (by kernel_rfl) rfl rfl ?hs ?hC ?he
                    case hC =>
                      intro i hi
                      simp at hi
                    case hs =>
                      refine ⟨?_, ?_, ?_, ?_, ?_, ?_, ?_, ?_, ?_, ?_, ?_, ?_, trivial⟩
                      all_goals (
                        intro x w' hE hd
                        try simp [PhDeps, at_k, at_p, at_t, at_any, Region.binds] at hd
                        try ((with_reducible refine Exists.elim hd ?_); clear hd; intro y hd; obtain ⟨hd, hG⟩ := hd)
                        have d1 := hE.cell c0
                        have d2 := hE.cell cx
                        first | simp only [frL, List.length_cons, List.length_nil, List.take_succ_cons, List.take_zero, Nat.reduceAdd, Nat.zero_add, List.setIfInBounds_toArray, List.set_cons_zero, List.set_cons_succ, hd] | simp only [frL, List.length_cons, List.length_nil, List.take_succ_cons, List.take_zero, Nat.reduceAdd, Nat.zero_add, List.setIfInBounds_toArray, List.set_cons_zero, List.set_cons_succ]
                        go_wp2
                        all_goals first
                          | ((with_reducible refine phK ?_ ?_); (focus rfl); (repeat (first | (with_reducible assumption) | (with_reducible exact Ext.refl _) | (with_reducible refine Ext.drew ?_) | (with_reducible refine Ext.drewN ?_ _) | (with_reducible refine Ext.alloc ?_ _) | (with_reducible refine Ext.trans ?_ (by with_reducible assumption)))))
                          | ((with_reducible refine phT rfl hG ?_); (repeat (first | (with_reducible assumption) | (with_reducible exact Ext.refl _) | (with_reducible refine Ext.drew ?_) | (with_reducible refine Ext.drewN ?_ _) | (with_reducible refine Ext.alloc ?_ _) | (with_reducible refine Ext.trans ?_ (by with_reducible assumption)))))
                          | ((with_reducible refine phU hG ?_); (repeat (first | (with_reducible assumption) | (with_reducible exact Ext.refl _) | (with_reducible refine Ext.drew ?_) | (with_reducible refine Ext.drewN ?_ _) | (with_reducible refine Ext.alloc ?_ _) | (with_reducible refine Ext.trans ?_ (by with_reducible assumption)))))
                          | (with_reducible exact phBox hE)
                          | (with_reducible exact phRow hE))
                    case he =>
                      intro x wu Eu hd
                      simp [PhEnd, at_k, at_p, at_t, at_any] at hd
                      simp only [frL, List.length_cons, List.length_nil, List.take_succ_cons, List.take_zero, Nat.reduceAdd, Nat.zero_add, List.setIfInBounds_toArray, List.set_cons_zero, List.set_cons_succ, hd, List.length_cons, List.length_nil, List.drop_succ_cons, List.drop_zero]
                      clear hd
                      have AD1 := hid (AD.out wu Eu)
                      clear AD Eu c0 z cx
                      go_wp2_with fail
                      refine (AD1.out).mono ?_
                      clear AD1
                      rintro e w10 ⟨rfl, hT⟩
                      have HT := hid hT.swap
                      clear hT
                      go_wp2_with fail
                      go_roundw
                      case rel => exact ⟨j + 1, by omega, by go_num, HT⟩
                      case measure => simp [intOf] <;> omega
                  · have qe : ((r : Int) == (i : Int)) = false := by simp; omega
                    have HT := hid (HTA.out.more (show k * 13 + j ≤ k * 13 + (j + 1) by omega))
                    rw [opB_skip D (i := i) (j := j) (by rw [HR.out]; exact hri)] at HT
                    clear HTA
                    go_wp2_with fail
                    refine wp_region_ph [.k (.int .i64 j), .k (.int .i64 r), .k (.int .i64 i), .k (.bool false), .k (.bool false), .k (undef), .k (undef), .k (undef), .k (undef), .k (undef), .k (undef), .k (undef), .k (undef), .k (undef)] [] (by kernel_rfl) (by kernel_rfl) (by kernel_rfl) rfl rfl ?hs ?hC ?he
                    case hC =>
                      intro i hi
                      simp at hi
                    case hs =>
                      refine ⟨?_, ?_, ?_, ?_, ?_, ?_, ?_, ?_, ?_, ?_, ?_, ?_, ?_, ?_, trivial⟩
                      all_goals (
                        intro x w' hE hd
                        try simp [PhDeps, at_k, at_p, at_t, at_any, Region.binds] at hd
                        try ((with_reducible refine Exists.elim hd ?_); clear hd; intro y hd; obtain ⟨hd, hG⟩ := hd)
                        skip
                        first | simp only [frL, List.length_cons, List.length_nil, List.take_succ_cons, List.take_zero, Nat.reduceAdd, Nat.zero_add, List.setIfInBounds_toArray, List.set_cons_zero, List.set_cons_succ, hd] | simp only [frL, List.length_cons, List.length_nil, List.take_succ_cons, List.take_zero, Nat.reduceAdd, Nat.zero_add, List.setIfInBounds_toArray, List.set_cons_zero, List.set_cons_succ]
                        go_wp2
                        all_goals first
                          | ((with_reducible refine phK ?_ ?_); (focus rfl); (repeat (first | (with_reducible assumption) | (with_reducible exact Ext.refl _) | (with_reducible refine Ext.drew ?_) | (with_reducible refine Ext.drewN ?_ _) | (with_reducible refine Ext.alloc ?_ _) | (with_reducible refine Ext.trans ?_ (by with_reducible assumption)))))
                          | ((with_reducible refine phT rfl hG ?_); (repeat (first | (with_reducible assumption) | (with_reducible exact Ext.refl _) | (with_reducible refine Ext.drew ?_) | (with_reducible refine Ext.drewN ?_ _) | (with_reducible refine Ext.alloc ?_ _) | (with_reducible refine Ext.trans ?_ (by with_reducible assumption)))))
                          | ((with_reducible refine phU hG ?_); (repeat (first | (with_reducible assumption) | (with_reducible exact Ext.refl _) | (with_reducible refine Ext.drew ?_) | (with_reducible refine Ext.drewN ?_ _) | (with_reducible refine Ext.alloc ?_ _) | (with_reducible refine Ext.trans ?_ (by with_reducible assumption)))))
                          | (with_reducible exact phBox hE)
                          | (with_reducible exact phRow hE))
                    case he =>
                      intro x wu Eu hd
                      simp [PhEnd, at_k, at_p, at_t, at_any] at hd
                      simp only [frL, List.length_cons, List.length_nil, List.take_succ_cons, List.take_zero, Nat.reduceAdd, Nat.zero_add, List.setIfInBounds_toArray, List.set_cons_zero, List.set_cons_succ, hd, List.length_cons, List.length_nil, List.drop_succ_cons, List.drop_zero]
                      clear hd
                      have HT := hid (HT.out.ext Eu)
                      clear Eu z cx
                      go_wp2_with fail
                      go_roundw
                      case rel => exact ⟨j + 1, by omega, by go_num, HT⟩
                      case measure => simp [intOf] <;> omega
                · obtain rfl : j = D.length := by omega
                  obtain ⟨bm, c0, CL⟩ := hT.out.swap.close (by omega) (i := i) hi3
                  obtain ⟨n1, n2⟩ := opB_cls D hi3 D.length
                  have cn := clB_next D ht3 hkl
                  rw [HI.out] at cn
                  rw [n2, cn, n1] at CL
                  have CL := hid CL
                  clear n1 n2 cn hT
                  go_wp2_with fail
                  refine (CL.out).mono ?_
                  clear CL c0
                  rintro e w10 ⟨⟨m, rfl⟩, hT⟩
                  have lg := logB D ht3 (k := k + 1) (by omega)
                  by_cases hq : k = 2 ∧ 0 < D.length
                  · obtain ⟨rfl, hD⟩ := hq
                    obtain ⟨r, ST⟩ := hT.step (by omega) (by rw [lg, if_pos rfl, log3D_len]; exact hD)
                    have ST := hid ST
                    have qd : ((0 : Int) < (D.length : Int)) := by omega
                    clear hT lg
                    go_wp2_with fail
                    refine (ST.out).mono ?_
                    clear ST
                    rintro e w11 ⟨rfl, hT⟩
                    have HT := hid (hT.swap.more (show 2 * 13 + D.length + 1 ≤ 3 * 13 by omega))
                    clear hT
                    go_wp2_with fail
                    go_roundw
                    case rel => exact ⟨3, by omega, by go_num, by rw [if_pos ⟨rfl, hD⟩]; exact HT⟩
                    case measure => simp [intOf] <;> omega
                  · have hlen0 : (logM (cl3 (fun i => bk D i D.length) (qB t (k + 1)))).length = 0 := by
                      rw [lg]
                      split
                      · rw [log3D_len]; omega
                      · rfl
                    have ST := hid (hT.wait (by omega) hlen0.symm)
                    clear hT lg hlen0
                    by_cases hk2 : k = 2
                    · subst hk2
                      have hD : D.length = 0 := by omega
                      have qd : ¬ ((0 : Int) < (D.length : Int)) := by omega
                      have HDz := hid hD
                      clear hD hq
                      go_wp2_with fail
                      refine (ST.out).mono ?_
                      clear ST
                      rintro e w11 ⟨rfl, hT⟩
                      have HT := hid (hT.swap.more (show 2 * 13 + D.length + 1 ≤ 3 * 13 by omega))
                      clear hT
                      go_wp2_with fail
                      go_roundw
                      case rel => exact ⟨3, by omega, by go_num, by rw [if_neg (by have := HDz.out; omega)]; exact HT⟩
                      case measure => simp [intOf] <;> omega
                    · have qk2 : ((k : Int) == 2) = false := by simp; omega
                      go_wp2_with fail
                      refine (ST.out).mono ?_
                      clear ST
                      rintro e w11 ⟨rfl, hT⟩
                      have HT := hid (hT.swap.more (show k * 13 + D.length + 1 ≤ (k + 1) * 13 by omega))
                      clear hT
                      go_wp2_with fail
                      go_roundw
                      case rel => exact ⟨(k + 1), by omega, by go_num, by rw [if_neg (by omega)]; exact HT⟩
                      case measure => simp [intOf] <;> omega
            · obtain rfl : k = 3 := by omega
              have lgA := logB D (t := 0) (k := 3) (by omega) (by omega)
              have lgB := logB D ht3 (k := 3) (by omega)
              rw [if_pos rfl] at lgA lgB
              have HT := hid (show TI w b g ⟨C0, O0, S0, 0, []⟩ ⟨C1, O1, S0, 0, []⟩ (D.length + 3) (3 * 13) (cl3 (fun i => bk D i D.length) (qB 0 3)) (opA D 3) 0 (cl3 (fun i => bk D i D.length) (qB t 3)) (List.replicate 3 []) (min (0 + 1) D.length) (.slice aD D.length cD) vs D ws by
                have := hT.out
                rw [show (if 3 = 3 ∧ 0 < D.length then 1 else 0) = min (0 + 1) D.length by split <;> omega] at this
                exact this)
              clear hT
              go_wp2_with fail
              rw [show ((3 : Nat) : Int) = 3 from rfl]
              go_loopw [151] (fun jv wr => ∃ j : Nat, j ≤ D.length ∧ jv = .int .i64 j ∧ Hid (TI w b g ⟨C0, O0, S0, 0, []⟩ ⟨C1, O1, S0, 0, []⟩ (D.length + 3) (3 * 13) (cl3 (fun i => bk D i D.length) (qB 0 3)) (opA D 3) j (cl3 (fun i => bk D i D.length) (qB t 3)) (List.replicate 3 []) (min (j + 1) D.length) (.slice aD D.length cD) vs D wr)) (fun jv _ => D.length - (intOf jv).toNat)
              case atStart => exact ⟨0, Nat.zero_le _, rfl, HT⟩
              case round =>
                clear HT
                obtain ⟨wq, rfl⟩ : ∃ wq : World, wq = wr := ⟨_, rfl⟩
                obtain ⟨j, hj, rfl, hT⟩ := hrel
                by_cases hjl : j < D.length
                · obtain ⟨r, ST⟩ := hT.out.step (by omega) (by rw [lgA, log3D_len]; exact hjl)
                  have ST := hid ST
                  clear hT
                  go_wp2_with fail
                  refine (ST.out).mono ?_
                  clear ST
                  rintro e w10 ⟨rfl, hT⟩
                  have STB : ∃ (r2 : Bool) (er : Int), Hid (Calls Tryz.prog 14 #[.pointer (some ⟨g, 0, none⟩), .int .i64 0] w10 fun e w2 => e = .returned (.tuple #[.bool r2, .int .i64 er]) ∧ TI w b g ⟨C0, O0, S0, 0, []⟩ ⟨C1, O1, S0, 0, []⟩ (D.length + 3) (3 * 13) (cl3 (fun i => bk D i D.length) (qB 0 3)) (opA D 3) (j + 1) (cl3 (fun i => bk D i D.length) (qB t 3)) (List.replicate 3 []) (min (j + 1 + 1) D.length) (.slice aD D.length cD) vs D w2) := by
                    by_cases hq : j + 1 < D.length
                    · have hS := hT.swap
                      rw [show min (j + 1) D.length = j + 1 by omega] at hS
                      obtain ⟨r2, S2⟩ := hS.step (by omega) (by rw [lgB, log3D_len]; exact hq)
                      refine ⟨r2, 0, hid (S2.mono ?_)⟩
                      rintro e w2 ⟨h1, h2⟩
                      refine ⟨h1, ?_⟩
                      rw [show min (j + 1 + 1) D.length = j + 1 + 1 by omega]
                      exact h2.swap
                    · have hS := hT.swap
                      have S2 := hS.wait (by omega) (by rw [lgB, log3D_len]; omega)
                      refine ⟨false, 6, hid (S2.mono ?_)⟩
                      rintro e w2 ⟨h1, h2⟩
                      refine ⟨h1, ?_⟩
                      rw [show min (j + 1 + 1) D.length = min (j + 1) D.length by omega]
                      exact h2.swap
                  obtain ⟨r2, er, S2⟩ := STB
                  clear hT
                  go_wp2_with fail
                  refine (S2.out).mono ?_
                  clear S2
                  rintro e w11 ⟨rfl, hT⟩
                  have HT := hid hT
                  clear hT
                  go_wp2_with fail
                  go_roundw
                  case rel => exact ⟨j + 1, by omega, by go_num, HT⟩
                  case measure => simp [intOf] <;> omega
                · obtain rfl : j = D.length := by omega
                  have hT := hT.out
                  rw [show min (D.length + 1) D.length = D.length by omega] at hT
                  have XA := hT.all (by omega)
                  have YA := fun w' (q : Ext wq w') => (hT.ext q).swap.all (by omega)
                  have PA := fun w' (q : Ext wq w') => (hT.ext q).done (by omega)
                  have QA := fun w' (q : Ext wq w') => (hT.ext q).swap.done (by omega)
                  obtain ⟨gS, gO⟩ := goC_deeds (C := C0) (C' := C1) (O := O0) (O' := O1) (S := S0) (log3D_deed D) (show D.length ≤ (log3D D).length by rw [log3D_len]; exact Nat.le_refl _)
                  have gl := goC_oklen (C := C1) (O := O1) (S := S0) (X := log3D D) D.length
                  simp only [lgA, lgB, gS, gO] at XA YA PA QA
                  generalize goC ⟨C1, O1, S0, 0, []⟩ (log3D D) D.length = ck at XA YA PA QA gl
                  have HEq := hid hT.E
                  have XA := hid XA
                  have YA := hid YA
                  have PA := hid PA
                  have QA := hid QA
                  have GL := hid gl
                  clear hT gS gO lgA lgB gl
                  go_wp2_with fail
                  refine (XA.out).mono ?_
                  clear XA
                  rintro e w10 ⟨v10, rfl, o10, E10⟩
                  obtain ⟨a10, k10, rfl⟩ := own_form o10
                  have YA1 := hid (YA.out w10 E10)
                  have HO10 := hid (own_seg o10)
                  have HE10 := hid E10
                  clear o10 E10 YA
                  go_wp2_with fail
                  refine (YA1.out).mono ?_
                  clear YA1
                  rintro e w11 ⟨v11, rfl, o11, E11⟩
                  obtain ⟨a11, k11, rfl⟩ := own_form o11
                  have PA1 := hid (PA.out w11 (HE10.out.trans E11))
                  have HO10 := hid (HO10.out.ext E11)
                  have HO11 := hid (own_seg o11)
                  have HE11 := hid (HE10.out.trans E11)
                  clear o11 E11 PA HE10
                  go_wp2_with fail
                  refine (PA1.out).mono ?_
                  clear PA1
                  rintro e w12 ⟨v12, rfl, o12, E12⟩
                  obtain ⟨a12, k12, rfl⟩ := own_form o12
                  have QA1 := hid (QA.out w12 (HE11.out.trans E12))
                  have HO10 := hid (HO10.out.ext E12)
                  have HO11 := hid (HO11.out.ext E12)
                  have HO12 := hid (own_seg o12)
                  have HE12 := hid (HE11.out.trans E12)
                  clear o12 E12 QA HE11
                  go_wp2_with fail
                  refine (QA1.out).mono ?_
                  clear QA1
                  rintro e w13 ⟨v13, rfl, o13, E13⟩
                  obtain ⟨a13, k13, rfl⟩ := own_form o13
                  have EQ := hid (equal_Pq _ _ ck.S w13 (HO10.out.ext E13) (HO11.out.ext E13))
                  have HO12 := hid (HO12.out.ext E13)
                  have HO13 := hid (own_seg o13)
                  have HE13 := hid (HE12.out.trans E13)
                  clear o13 E13 HO10 HO11 HE12
                  go_wp2_with fail
                  refine (EQ.out).mono ?_
                  clear EQ
                  rintro e w14 ⟨rfl, E14⟩
                  have EQ2 := hid (equal_Bq _ _ ck.ok w14 (HO12.out.ext E14) (HO13.out.ext E14))
                  have HE14 := hid (HE13.out.trans E14)
                  clear E14 HO12 HO13 HE13
                  go_wp2_with fail
                  refine (EQ2.out).mono ?_
                  clear EQ2
                  rintro e w15 ⟨rfl, E15⟩
                  have HR := hid (HEq.out.trans (HE14.out.trans E15))
                  clear E15 HE14 HEq
                  have gl := GL.out
                  go_wp2
                  go_ret
                  exact ⟨rfl, HR.out⟩
end Go.Proofs.YtnepdfpooobmcaaGreat
