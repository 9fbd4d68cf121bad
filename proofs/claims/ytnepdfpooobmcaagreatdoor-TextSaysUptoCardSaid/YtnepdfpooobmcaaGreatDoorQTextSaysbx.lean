/- Contracts and lemmas for the proof of TextSays; each theorem states its own conditions. -/
import Derived.Test.YtnepdfpooobmcaaGreatDoorQTextSaysbs
import Derived.Test.YtnepdfpooobmcaaGreatDoorQTextSaysbv
import Derived.Test.YtnepdfpooobmcaaGreatDoorQTextSaysbw
set_option linter.unusedVariables false
set_option linter.unusedSimpArgs false
/- Contracts and lemmas for the proofs of this seat; each theorem states its own conditions. -/
namespace Go.Proofs.YtnepdfpooobmcaaGreatDoor
open Go.RowKit
/-! TextSays -/
theorem says_lit : mapRd ⟨#[48, 58, 109, 58, 49]⟩ = (0, [⟨#[109]⟩], [0, 1]) := by
  have h : MapOk [⟨#[109]⟩] [0, 1] := ok_of_mapErr (by decide +kernel)
  have e : bA (mapT [⟨#[109]⟩] [0, 1]) = ⟨#[48, 58, 109, 58, 49]⟩ := by
    have d0 : Lib.itoa 0 = [48] := by simp [Lib.itoa, Lib.decDigits]
    have d1 : Lib.itoa 1 = [49] := by simp [Lib.itoa, Lib.decDigits]
    simp [mapT, cutT, d0, d1, bA]
  rw [← e]
  exact mapRd_rt h
theorem dS_no {d : Ops} (h : deedE d ≠ 0) : dS d = ⟨#[]⟩ := by unfold dS; rw [if_neg h]
theorem dS_yes {d : Ops} (h : deedE d = 0) : dS d = bA (dT d) := by unfold dS; rw [if_pos h]
theorem mapS_no {C : List ByteArray} {O : List Int} (h : mapErr C O ≠ 0) : mapS C O = ⟨#[]⟩ := by unfold mapS; rw [if_neg h]
theorem mapS_yes {C : List ByteArray} {O : List Int} (h : mapErr C O = 0) : mapS C O = bA (mapT C O) := by unfold mapS; rw [if_pos h]
set_option maxRecDepth 100000 in
set_option maxHeartbeats 8000000 in
theorem tsays_walk (v vm : Value) (d : Ops) (C : List ByteArray) (O : List Int) (s : ByteArray) (w : World) (L : LaidT w) (hv : Seg w v 4 d.length (cO d)) (hsm : opsSm d) (hn : ∀ o ∈ d, -9223372036854775808 ≤ o.n ∧ o.n ≤ 9223372036854775807)
    (hm : IsMap w vm C O) (hk : ∀ k ∈ C, k.size ≤ 9223372036854775807) (hs : s.size ≤ 4000000000) :
    Calls Tryz.prog 3 #[.agg #[v], vm, .string s] w fun e w' => e = .returned (.bool true) ∧ Ext w w' := by
  have HL := hid L
  have TD := hid (fun w' (q : Ext w w') => tdeed_any v d w' (L.ext q) (hv.ext q) hsm hn)
  have TM := hid (fun w' (q : Ext w w') => tmap_any vm C O w' (L.ext q) (hm.ext q) hk)
  have RD := hid (fun w' (q : Ext w w') => treaddeed_any s w' (L.ext q) hs)
  have RM := hid (fun w' (q : Ext w w') => treadmap_any s w' (L.ext q) hs)
  have RL0 := fun w' (q : Ext w w') => treadmap_any ⟨#[48, 58, 109, 58, 49]⟩ w' (L.ext q) (by decide)
  rw [says_lit] at RL0
  have RL := hid (fun w' (q : Ext w w') => (RL0 w' q).mono fun e w2 h => show ∃ p6 q6 p7 q7, e = .returned (.tuple #[.agg #[.slice p6 1 q6, .slice p7 2 q7], .int .i64 0]) ∧ IsMap w2 (.agg #[.slice p6 1 q6, .slice p7 2 q7]) [⟨#[109]⟩] [0, 1] ∧ Ext w' w2 from by
    obtain ⟨v5, rfl, ⟨vc, vo, rfl, h6, h7⟩, E5⟩ := h
    obtain ⟨p6, q6, rfl⟩ := own_form h6
    obtain ⟨p7, q7, rfl⟩ := own_form h7
    exact ⟨p6, q6, p7, q7, rfl, ⟨_, _, rfl, own_seg h6, own_seg h7⟩, E5⟩)
  clear RL0
  have DE := hid (fun w' (q : Ext w w') => rdeed_any v d w' (hv.ext q) hsm)
  have ME := hid (fun w' (q : Ext w w') => rmap_any vm C O w' (hm.ext q) hk)
  have DT := hid (fun (ok : deedE d = 0) w' (q : Ext w w') => rtext_any v d w' (hv.ext q) (deed_ok ok))
  have MT := hid (fun (ok : mapErr C O = 0) w' (q : Ext w w') => rmaptext_any vm C O w' (hm.ext q) (ok_of_mapErr ok))
  have QD := hid (fun w' (q : Ext w w') => rreaddeed_any s w' (L.ext q) hs)
  have QM := hid (fun w' (q : Ext w w') => rreadmap_any s w' (L.ext q) hs)
  have HDN := hid (fun h => dS_no (d := d) h)
  have HDY := hid (fun h => dS_yes (d := d) h)
  have HMN := hid (fun h => mapS_no (C := C) (O := O) h)
  have HMY := hid (fun h => mapS_yes (C := C) (O := O) h)
  obtain ⟨av, kv, rfl⟩ := seg_form hv
  obtain ⟨a1, k1, a2, k2, rfl, m1, m2⟩ := hm.unpack
  generalize d.length = nd at *
  generalize C.length = nc at *
  generalize O.length = no at *
  obtain ⟨wb, hwb⟩ : ∃ wb : World, (w.alloc (.cells #[.slice av nd kv] 24)).alloc (.cells #[.slice a1 nc k1, .slice a2 no k2] 28) = wb := ⟨_, rfl⟩
  have B3 := hid (hwb ▸ heap_1 w (.cells #[.slice av nd kv] 24) (.cells #[.slice a1 nc k1, .slice a2 no k2] 28))
  have B4 := hid (hwb ▸ heap_2 w (.cells #[.slice av nd kv] 24) (.cells #[.slice a1 nc k1, .slice a2 no k2] 28))
  have HEb := hid (show Ext w wb from hwb ▸ ((Ext.refl w).alloc _).alloc _)
  have HWB := hid hwb
  obtain ⟨de, hde⟩ : ∃ de, deedE d = de := ⟨_, rfl⟩
  obtain ⟨me, hme⟩ : ∃ me, mapErr C O = me := ⟨_, rfl⟩
  rw [hde] at TD DE DT HDN HDY
  rw [hme] at TM ME MT HMN HMY
  obtain ⟨DD, hDD⟩ : ∃ DD, deedRd s = DD := ⟨_, rfl⟩
  obtain ⟨MM, hMM⟩ : ∃ MM, mapRd s = MM := ⟨_, rfl⟩
  rw [hDD] at RD QD
  rw [hMM] at RM QM
  obtain ⟨ed, D⟩ := DD
  obtain ⟨em, C', O'⟩ := MM
  clear hv hm m1 m2 hwb hDD hMM hde hme L
  generalize dS d = sd at *
  generalize mapS C O = sm at *
  generalize bA (dT d) = td at *
  generalize bA (mapT C O) = tm at *
  go_enter Tryz.func3, Tryz.ntmps3
  have c3 := blk1 B3.out
  go_wp2_with fail
  rw [HWB.out]
  go_wp2_with fail
  refine (TD.out _ HEb.out).mono ?_
  clear TD
  rintro r w1 ⟨rfl, E1⟩
  have c4 := blk2 (E1.heap B4.out)
  clear c3
  go_wp2_with fail
  refine (TM.out _ (HEb.out.trans E1)).mono ?_
  clear TM
  rintro r w2 ⟨rfl, E2⟩
  have HE2 := hid (E1.trans E2)
  clear c4 E1 E2
  go_wp2_with fail
  refine (RD.out _ (HEb.out.trans HE2.out)).mono ?_
  clear RD
  rintro r w3 ⟨v3, rfl, ho3, E3⟩
  obtain ⟨p3, q3, rfl⟩ := own_form ho3
  have HO3 := hid ho3
  have E3' := E3.alloc (.cells #[.slice p3 D.length q3] 24)
  have HB3 := hid (heap_alloc_new w3 (.cells #[.slice p3 D.length q3] 24))
  have HE3 := hid (HE2.out.trans E3')
  clear ho3 E3 E3' HE2
  go_wp2_with fail
  refine (RM.out _ (HEb.out.trans HE3.out)).mono ?_
  clear RM
  rintro r w4 ⟨v4, rfl, ho4, E4⟩
  obtain ⟨vc, vo, rfl, ho4, ho5⟩ := ho4
  obtain ⟨p4, q4, rfl⟩ := own_form ho4
  obtain ⟨p5, q5, rfl⟩ := own_form ho5
  have HO4 := hid (And.intro ho4 ho5)
  have HB4 := hid (heap_alloc_new w4 (.cells #[.slice p4 C'.length q4, .slice p5 O'.length q5] 28))
  have HE34 := hid (E4.alloc (.cells #[.slice p4 C'.length q4, .slice p5 O'.length q5] 28))
  have HE4 := hid (HE3.out.trans HE34.out)
  clear ho4 ho5 E4
  go_wp2_with fail
  refine (RL.out _ (HEb.out.trans HE4.out)).mono ?_
  clear RL
  rintro r w5 ⟨p6, q6, p7, q7, rfl, hm6, E5⟩
  have b15 := heap_alloc_new w5 (.cells #[.slice p6 1 q6, .slice p7 2 q7] 28)
  have c15 := blk2 b15
  have E15 := E5.alloc (.cells #[.slice p6 1 q6, .slice p7 2 q7] 28)
  have SM0 := sameMap_any (.agg #[.slice p6 1 q6, .slice p7 2 q7]) (.agg #[.slice (some ⟨w5.heap.size + 1, 0, none⟩) 1 1, .slice (some ⟨w5.heap.size + 2, 0, none⟩) 2 2]) [⟨#[109]⟩] [⟨#[109]⟩] [0, 1] [0, 1]
    (((w5.alloc (.cells #[.slice p6 1 q6, .slice p7 2 q7] 28)).alloc (.cells #[.string ⟨#[109]⟩] 9)).alloc (.cells #[.int .i64 0, .int .i64 1] 3))
    (hm6.ext ((((Ext.refl w5).alloc _).alloc _).alloc _)) (by
      refine ⟨_, _, rfl, ?_, ?_⟩
      · have hx := heap_1 (w5.alloc (.cells #[.slice p6 1 q6, .slice p7 2 q7] 28)) (.cells #[.string ⟨#[109]⟩] 9) (.cells #[.int .i64 0, .int .i64 1] 3)
        simp only [World.size_alloc] at hx
        exact seg_blk hx rfl (Nat.le_refl _) (by simp [maxLen])
      · have hx := heap_2 (w5.alloc (.cells #[.slice p6 1 q6, .slice p7 2 q7] 28)) (.cells #[.string ⟨#[109]⟩] 9) (.cells #[.int .i64 0, .int .i64 1] 3)
        simp only [World.size_alloc] at hx
        exact seg_blk hx rfl (Nat.le_refl _) (by simp [maxLen]))
  rw [show sameB [(⟨#[109]⟩ : ByteArray)] [⟨#[109]⟩] [0, 1] [0, 1] = true by simp [sameB]] at SM0
  have SM := hid SM0
  have HE5 := hid (HE4.out.trans ((E15.alloc (.cells #[.string ⟨#[109]⟩] 9)).alloc (.cells #[.int .i64 0, .int .i64 1] 3)))
  have HE45 := hid ((E15.alloc (.cells #[.string ⟨#[109]⟩] 9)).alloc (.cells #[.int .i64 0, .int .i64 1] 3))
  clear b15 E15 E5 hm6 SM0
  go_wp2_with fail
  refine (SM.out).mono ?_
  clear SM
  rintro r w6 ⟨rfl, E6⟩
  have HE6 := hid (HE5.out.trans E6)
  have HE46 := hid (HE45.out.trans E6)
  have c3 := blk1 (HE6.out.heap B3.out)
  clear c15 E6 HE5 HE45
  go_wp2_with fail
  refine (DE.out _ (HEb.out.trans HE6.out)).mono ?_
  clear DE
  rintro r w7 ⟨rfl, E7⟩
  have HE7 := hid (HE6.out.trans E7)
  have HE47 := hid (HE46.out.trans E7)
  clear c3 E7 HE6 HE46
  go_upto_if 60 with fail
  go_cut [] from 60 to 75 (fun wx => Ext w7 wx)
  case first =>
    have c3 := blk1 (HE7.out.heap B3.out)
    by_cases h0 : de = 0
    · have q0 : (de != 0) = false := by simp [h0]
      have hT := hid (DT.out h0 w7 (HEb.out.trans HE7.out))
      obtain rfl := HDY.out h0
      clear h0
      go_wp2_with fail
      refine (hT.out).mono ?_
      rintro r w8 ⟨rfl, E8⟩
      go_wp2
      go_meet
      exact E8
    · have q0 : (de != 0) = true := by simp [h0]
      obtain rfl := HDN.out h0
      clear h0
      go_wp2
      go_meet
      exact Ext.refl _
  case rest =>
    obtain ⟨w8, rfl⟩ : ∃ w8 : World, w8 = wc := ⟨_, rfl⟩
    have HE8 := hid (HE7.out.trans hcut)
    have HE48 := hid (HE47.out.trans hcut)
    have c4 := blk2 (HE8.out.heap B4.out)
    clear hcut HE7 HE47
    go_wp2_with fail
    refine (ME.out _ (HEb.out.trans HE8.out)).mono ?_
    clear ME
    rintro r w9 ⟨rfl, E9⟩
    have HE9 := hid (HE8.out.trans E9)
    have HE49 := hid (HE48.out.trans E9)
    clear c4 E9 HE8 HE48
    go_upto_if 79 with fail
    go_cut [] from 79 to 94 (fun wx => Ext w9 wx)
    case first =>
      have c4 := blk2 (HE9.out.heap B4.out)
      by_cases h0 : me = 0
      · have q0 : (me != 0) = false := by simp [h0]
        have hT := hid (MT.out h0 w9 (HEb.out.trans HE9.out))
        obtain rfl := HMY.out h0
        clear h0
        go_wp2_with fail
        refine (hT.out).mono ?_
        rintro r w8 ⟨rfl, E8⟩
        go_wp2
        go_meet
        exact E8
      · have q0 : (me != 0) = true := by simp [h0]
        obtain rfl := HMN.out h0
        clear h0
        go_wp2
        go_meet
        exact Ext.refl _
    case rest =>
      obtain ⟨wa, rfl⟩ : ∃ wa : World, wa = wc := ⟨_, rfl⟩
      have HEa := hid (HE9.out.trans hcut)
      have HE4a := hid (HE49.out.trans hcut)
      clear hcut HE9 HE49
      go_wp2_with fail
      refine (QD.out _ (HEb.out.trans HEa.out)).mono ?_
      clear QD
      rintro r w10 ⟨v10, rfl, ho10, E10⟩
      obtain ⟨p10, q10, rfl⟩ := own_form ho10
      have b19 := heap_alloc_new w10 (.cells #[.slice p10 D.length q10] 24)
      have E10' := E10.alloc (.cells #[.slice p10 D.length q10] 24)
      have HO10 := hid (own_ext ho10 ((Ext.refl w10).alloc (.cells #[.slice p10 D.length q10] 24)))
      have HB19 := hid b19
      have HE10 := hid (HEa.out.trans E10')
      have HE410 := hid (HE4a.out.trans E10')
      clear ho10 b19 E10 E10' HEa HE4a
      go_wp2_with fail
      refine (QM.out _ (HEb.out.trans HE10.out)).mono ?_
      clear QM
      rintro r w11 ⟨v11, rfl, ⟨vc, vo, rfl, ho11, ho12⟩, E11⟩
      obtain ⟨p11, q11, rfl⟩ := own_form ho11
      obtain ⟨p12, q12, rfl⟩ := own_form ho12
      have EX := (Ext.refl w11).alloc (.cells #[.slice p11 C'.length q11, .slice p12 O'.length q12] 28)
      have b21 := heap_alloc_new w11 (.cells #[.slice p11 C'.length q11, .slice p12 O'.length q12] 28)
      have E11' := E11.alloc (.cells #[.slice p11 C'.length q11, .slice p12 O'.length q12] 28)
      have HE11 := hid (HE410.out.trans E11')
      have c19 := blk1 (E11'.heap HB19.out)
      have c21 := blk2 b21
      have c11 := blk1 ((HE34.out.trans HE11.out).heap HB3.out)
      have c13 := blk2 (HE11.out.heap HB4.out)
      have HB21 := hid b21
      have E4X := (Ext.refl w4).alloc (.cells #[.slice p4 C'.length q4, .slice p5 O'.length q5] 28)
      have SD := hid (fun w' (q : Ext (w11.alloc (.cells #[.slice p11 C'.length q11, .slice p12 O'.length q12] 28)) w') => sameDeedT_any (.slice p3 D.length q3) (.slice p10 D.length q10) D D w' ((own_seg HO3.out).ext ((((Ext.refl w3).alloc (.cells #[.slice p3 D.length q3] 24)).trans HE34.out).trans (HE11.out.trans q))) ((own_seg HO10.out).ext (E11'.trans q)))
      rw [decide_eq_true rfl] at SD
      have SMM := hid (fun w' (q : Ext (w11.alloc (.cells #[.slice p11 C'.length q11, .slice p12 O'.length q12] 28)) w') => sameMap_any (.agg #[.slice p4 C'.length q4, .slice p5 O'.length q5]) (.agg #[.slice p11 C'.length q11, .slice p12 O'.length q12]) C' C' O' O' w' ⟨_, _, rfl, (own_seg HO4.out.1).ext (E4X.trans (HE11.out.trans q)), (own_seg HO4.out.2).ext (E4X.trans (HE11.out.trans q))⟩ ⟨_, _, rfl, (own_seg ho11).ext (EX.trans q), (own_seg ho12).ext (EX.trans q)⟩)
      rw [show sameB C' C' O' O' = true by simp [sameB]] at SMM
      have HEE := hid (HEb.out.trans (HE4.out.trans HE11.out))
      clear ho11 ho12 E11 EX b21 E4X HO3 HO4 HO10
      go_wp2_with fail
      refine (SD.out _ (Ext.refl _)).mono ?_
      clear SD
      rintro r w12 ⟨rfl, E12⟩
      have d13 := blk2 ((HE11.out.trans E12).heap HB4.out)
      have d21 := blk2 (E12.heap HB21.out)
      clear c19 c21 c11 c13
      go_wp2_with fail
      refine (SMM.out _ E12).mono ?_
      clear SMM
      rintro r w13 ⟨rfl, E13⟩
      go_wp2
      go_ret
      exact ⟨by first | rfl | simp, HEE.out.trans (E12.trans E13)⟩
end Go.Proofs.YtnepdfpooobmcaaGreatDoor
