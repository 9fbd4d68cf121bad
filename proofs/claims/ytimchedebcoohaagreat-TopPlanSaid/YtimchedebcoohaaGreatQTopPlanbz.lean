/- Contracts and lemmas for the proof of TopPlan; each theorem states its own conditions. -/
import Derived.Test.YtimchedebcoohaaGreatQTopPlanby
import Derived.BigQuiet
set_option linter.unusedVariables false
set_option linter.unusedSimpArgs false
/- Contracts and lemmas for the proofs of this seat; each theorem states its own conditions. -/
namespace Go.Proofs.YtimchedebcoohaaGreat
open Go.RowKit
set_option maxRecDepth 100000 in
set_option maxHeartbeats 16000000 in
theorem tplan_walk (z0 : Int) (v v2 vp vd vk : Value) (la l2 : List Int) (ps ds : List (List Int)) (lk : List Int) (w : World) (hv : Seg w v 1 la.length (cI la)) (hb : ∀ z ∈ la, -9223372036854775808 ≤ z ∧ z ≤ 9223372036854775807)
    (hv2 : Seg w v2 1 l2.length (cI l2)) (hb2 : ∀ z ∈ l2, -9223372036854775808 ≤ z ∧ z ≤ 9223372036854775807) (hvp : SegLL w vp ps) (hbp : ∀ p ∈ ps, ∀ z ∈ p, -9223372036854775808 ≤ z ∧ z ≤ 9223372036854775807) (hvd : SegLL w vd ds) (hvk : Seg w vk 1 lk.length (cI lk)) :
    Calls Tryz.prog 9 #[.int .i64 z0, v, v2, vp, vd, vk] w fun e w' => e = .returned (.bool true) ∧ Ext w w' := by
  have FD := fun w' (q : Ext w w') => rfed_any z0 0 v v2 vp vd la l2 ps ds w' (hv.ext q) hb (hv2.ext q) hb2 (hvp.ext q) hbp (hvd.ext q)
  rw [show (wi 0 4).toNat + 1 = 1 by decide +kernel] at FD
  generalize (wi z0 4).toNat + 1 = inp at FD
  have FD := hid FD
  have PW := hid (fun w' (q : Ext w w') => pairs_fn v2 l2 w' (hv2.ext q) hb2)
  have HVK := hid hvk
  obtain ⟨C0, hC0⟩ : ∃ C0, mkC la 6 = C0 := ⟨_, rfl⟩
  obtain ⟨O0, hO0⟩ : ∃ O0, mkO la 6 = O0 := ⟨_, rfl⟩
  have mok := mk_ok la
  have msm := mk_small la
  rw [hC0] at mok msm FD
  rw [hO0] at mok FD
  have MOK := hid (And.intro mok msm)
  clear hC0 hO0 mok msm hv hv2 hvp hbp hvd hvk
  go_enter Tryz.func9, Tryz.ntmps9
  go_wp2_with fail
  refine (rbegun_any _).mono ?_
  rintro e w1 ⟨rfl, E1⟩
  have FD1 := hid (FD.out w1 E1)
  have HE1 := hid E1
  clear FD E1
  go_wp2_with fail
  refine (FD1.out).mono ?_
  clear FD1
  rintro e w2 ⟨vL, S0, b, F, cl, op, d, w1', rfl, oS, lS, hSF, hFS, hL⟩
  have HX1 := hid (hFS.one (by omega) ⟨MOK.out.1, MOK.out.2, oS, by simp only; omega, rfl⟩ rfl)
  have HLK := hid (hL.beside hFS.cop.ty)
  have HFS := hid (hFS.ext hL.E)
  obtain ⟨aL, kL, rfl⟩ := hL.form
  have HOS := hid (And.intro oS hSF)
  have hLl : (logM cl).length ≤ 54 := by have h1 := log_many cl op; have h2 := hFS.bd.many; omega
  clear hFS hL oS hSF
  go_wp2_with fail
  go_loopw [16, 50] (fun av kv wr => ∃ (k : Nat) (F' : Nat → Prop) (d' : Nat → Nat) (us : List Value), k ≤ (logM cl).length ∧ kv = .int .i64 k ∧ k ≤ d' 0 ∧ Hid (FedS w1 wr b inp 1 54 ⟨C0, O0, S0, 0, []⟩ F' cl op d') ∧ Hid (EntsK wr F' (.slice aL (logM cl).length kL) (logM cl)) ∧ Hid (DsB wr w1.heap.size av us (dsTo (logM cl) k))) (fun _ kv _ => (logM cl).length - (intOf kv).toNat)
  case atStart => exact ⟨0, F, d, [], Nat.zero_le _, rfl, Nat.zero_le _, HFS, HLK, hid (DsB.nil _ _)⟩
  case round =>
    clear HFS HLK
    obtain ⟨wo, rfl⟩ : ∃ wo : World, wo = wr := ⟨_, rfl⟩
    obtain ⟨k, F1, d1, us, hk, rfl, hkd, hF, hK, hA⟩ := hrel
    by_cases hkl : k < (logM cl).length
    · obtain ⟨bX, oX, rfl, p1, p2⟩ := hK.out.seg.addr (by omega)
      obtain ⟨ev, hE, hoff, x0, x1, x2, x3⟩ := hK.out.at' hkl
      have hxo := HX1.out.log.ok (logM cl)[k] (List.getElem_mem hkl)
      have HDM := hid (fun h => dsTo_map (L := logM cl) hkl h)
      have HDD := hid (fun h => dsTo_deed (L := logM cl) hkl h)
      have hdl := dsTo_len (logM cl) k
      generalize (logM cl)[k] = xe at hE hxo HDM HDD
      generalize dsTo (logM cl) k = Dk at hA HDM HDD hdl
      obtain ⟨v1, b1, v2', v3⟩ := ev
      have hb1 : b1 = xe.im := hE.im
      subst hb1
      dsimp only at x0 x1 x2 x3 hoff
      obtain ⟨f1, g1, e1⟩ := own_form hE.ops
      obtain ⟨f2, g2, e2⟩ := own_form hE.cuts
      obtain ⟨f3, g3, e3⟩ := own_form hE.own
      dsimp only at e1 e2 e3
      subst e1; subst e2; subst e3
      obtain ⟨av5, kv5, rfl⟩ := own_form hA.out.row
      have EA := (Ext.refl wo).alloc (.cells #[.slice f1 xe.ops.length g1, .bool xe.im, .slice f2 xe.cuts.length g2, .slice f3 xe.own.length g3] 94)
      have bx := heap_alloc_new wo (.cells #[.slice f1 xe.ops.length g1, .bool xe.im, .slice f2 xe.cuts.length g2, .slice f3 xe.own.length g3] 94)
      obtain ⟨wA, hwA⟩ : ∃ wA, wo.alloc (.cells #[.slice f1 xe.ops.length g1, .bool xe.im, .slice f2 xe.cuts.length g2, .slice f3 xe.own.length g3] 94) = wA := ⟨_, rfl⟩
      obtain ⟨bxx, hbxx⟩ : ∃ bxx, wo.heap.size = bxx := ⟨_, rfl⟩
      have hnF : ¬ F1 bxx := fun q => by have := hF.out.cop.ty.lt q; omega
      rw [hwA] at EA bx
      rw [hbxx] at bx
      have HBX := hid bx
      have HEA := hid EA
      have HE := hid hE
      have HNF := hid hnF
      have hdi := hF.out.dl 0 (by omega)
      have HTY := hid (hF.out.cop.ext EA).ty
      clear EA bx hE hoff hnF hxo
      -- the copy goes on, or waits
      have STEP : ∃ (r : Bool) (er : Int), (er = 0 ∨ er = 6) ∧ Hid (Calls Tryz.prog 52 #[.pointer (some ⟨b, 0, none⟩), .int .i64 0] wA fun e w' => e = .returned (.tuple #[.bool r, .int .i64 er]) ∧ ∃ F' d', FedS w1 w' b inp 1 54 ⟨C0, O0, S0, 0, []⟩ F' cl op d' ∧ k + 1 ≤ d' 0 ∧ Kp F1 wA w' F') := by
        by_cases hl : d1 0 < (logM cl).length
        · refine ⟨okE (goC ⟨C0, O0, S0, 0, []⟩ (logM cl) (d1 0)) (logM cl)[d1 0], 0, .inl rfl, hid ?_⟩
          refine (step_kg HX1.out (hF.out.cop.ext HEA.out) (i := 0) (by omega) hl).mono ?_
          rintro e w' ⟨rfl, F', hC, K⟩
          refine ⟨rfl, F', _, ((hF.out.ext HEA.out).go (show d1 0 + 1 ≤ (logM cl).length from hl) hC K), ?_, K⟩
          unfold upD
          rw [if_pos rfl]; omega
        · refine ⟨false, 6, .inr rfl, hid ?_⟩
          refine (swait_kg HX1.out (hF.out.cop.ext HEA.out) (i := 0) (by omega) (by omega)).mono ?_
          rintro e w' ⟨rfl, E⟩
          exact ⟨rfl, F1, d1, (hF.out.ext HEA.out).ext E, by omega, Kp.of_ext E⟩
      obtain ⟨r, er, her, ST⟩ := STEP
      cases him : xe.im with
      | true =>
        have hdm := HDM.out him
        have HDX := hid hdm
        have HBX2 := HBX.out
        rw [him] at HBX2 x1 hwA
        have HBX := hid HBX2
        clear HDM HDD him hdm HBX2
        rcases her with rfl | rfl
        · go_wp2_with fail
          refine (ST.out).mono ?_
          clear ST hwA hbxx
          rintro e w7 ⟨rfl, F7, d7, hF7, hd7, K7⟩
          have y7 := blk4 (K7.heap HBX.out HNF.out)
          have HF7 := hid hF7
          have HK7 := hid ((hK.out.ext HEA.out).kp HTY.out K7)
          have HA7 := hid ((hA.out.ext HEA.out).kp HTY.out K7)
          clear hF7 K7
          go_wp2_with fail
          go_roundw
          case rel => exact ⟨k + 1, F7, d7, us, by omega, by go_num, hd7, HF7, HK7, hid (by rw [HDX.out]; exact HA7.out)⟩
          case measure => simp [intOf] <;> omega
        · go_wp2_with fail
          refine (ST.out).mono ?_
          clear ST hwA hbxx
          rintro e w7 ⟨rfl, F7, d7, hF7, hd7, K7⟩
          have y7 := blk4 (K7.heap HBX.out HNF.out)
          have HF7 := hid hF7
          have HK7 := hid ((hK.out.ext HEA.out).kp HTY.out K7)
          have HA7 := hid ((hA.out.ext HEA.out).kp HTY.out K7)
          clear hF7 K7
          go_wp2_with fail
          go_roundw
          case rel => exact ⟨k + 1, F7, d7, us, by omega, by go_num, hd7, HF7, HK7, hid (by rw [HDX.out]; exact HA7.out)⟩
          case measure => simp [intOf] <;> omega
      | false =>
        have hdm := HDD.out him
        have HDX := hid hdm
        have HBX2 := HBX.out
        rw [him] at HBX2 x1 hwA
        have HBX := hid HBX2
        clear HDM HDD him hdm HBX2
        rcases her with rfl | rfl
        · go_wp2_with fail
          refine (ST.out).mono ?_
          clear ST hwA hbxx
          rintro e w7 ⟨rfl, F7, d7, hF7, hd7, K7⟩
          have y7 := blk4 (K7.heap HBX.out HNF.out)
          have HF7 := hid hF7
          have HK7 := hid ((hK.out.ext HEA.out).kp HTY.out K7)
          have HA7 := hid ((hA.out.ext HEA.out).kp HTY.out K7)
          have hops := (HE.out.ext HEA.out).ops
          have HO7 := hid (K7.own hops (HTY.out.off hops (by decide)))
          have hz7 := hF7.E.size'
          clear hF7 K7 hops
          have p1' : Seg (w7.alloc (.cells #[.slice f1 xe.ops.length g1] 29)) (.slice (some ⟨w7.heap.size, 0, none⟩) 1 1) 1 1 [.slice f1 xe.ops.length g1] := seg_one (heap_alloc_new w7 _)
          have EB := (Ext.refl w7).alloc (.cells #[.slice f1 xe.ops.length g1] 29)
          have pO := own_ext HA7.out.row EB
          have pS : w1.heap.size ≤ (w7.alloc (.cells #[.slice f1 xe.ops.length g1] 29)).heap.size := Nat.le_trans hz7 EB.size'
          go_wp2_with (first | (at_builtin; refine (wpList_app rfl _ _ 38 rfl w1.heap.size 29 (.agg #[.slice none 0 0]) 1 24 Tryz.underlying38 infoDd rfl (by decide) (.slice av5 Dk.length kv5) Dk.length us rfl pO _ 1 [.slice f1 xe.ops.length g1] rfl p1' (one_deed _ _ _) (by omega) (by unfold maxLen; omega) pS ?_); intro v' w9 ho' hg))
          have HN := hid ((HA7.out.ext EB).snoc (own_ext HO7.out EB) ho' hg)
          have HF9 := hid ((HF7.out.ext EB).grown pO (Nat.le_refl _) hg)
          have HK9 := hid ((HK7.out.ext EB).grown pO hg)
          go_roundw
          case rel => exact ⟨k + 1, F7, d7, us ++ [.slice f1 xe.ops.length g1], by omega, by go_num, hd7, HF9, HK9, hid (by rw [HDX.out]; exact HN.out)⟩
          case measure => simp [intOf] <;> omega
        · go_wp2_with fail
          refine (ST.out).mono ?_
          clear ST hwA hbxx
          rintro e w7 ⟨rfl, F7, d7, hF7, hd7, K7⟩
          have y7 := blk4 (K7.heap HBX.out HNF.out)
          have HF7 := hid hF7
          have HK7 := hid ((hK.out.ext HEA.out).kp HTY.out K7)
          have HA7 := hid ((hA.out.ext HEA.out).kp HTY.out K7)
          have hops := (HE.out.ext HEA.out).ops
          have HO7 := hid (K7.own hops (HTY.out.off hops (by decide)))
          have hz7 := hF7.E.size'
          clear hF7 K7 hops
          have p1' : Seg (w7.alloc (.cells #[.slice f1 xe.ops.length g1] 29)) (.slice (some ⟨w7.heap.size, 0, none⟩) 1 1) 1 1 [.slice f1 xe.ops.length g1] := seg_one (heap_alloc_new w7 _)
          have EB := (Ext.refl w7).alloc (.cells #[.slice f1 xe.ops.length g1] 29)
          have pO := own_ext HA7.out.row EB
          have pS : w1.heap.size ≤ (w7.alloc (.cells #[.slice f1 xe.ops.length g1] 29)).heap.size := Nat.le_trans hz7 EB.size'
          go_wp2_with (first | (at_builtin; refine (wpList_app rfl _ _ 38 rfl w1.heap.size 29 (.agg #[.slice none 0 0]) 1 24 Tryz.underlying38 infoDd rfl (by decide) (.slice av5 Dk.length kv5) Dk.length us rfl pO _ 1 [.slice f1 xe.ops.length g1] rfl p1' (one_deed _ _ _) (by omega) (by unfold maxLen; omega) pS ?_); intro v' w9 ho' hg))
          have HN := hid ((HA7.out.ext EB).snoc (own_ext HO7.out EB) ho' hg)
          have HF9 := hid ((HF7.out.ext EB).grown pO (Nat.le_refl _) hg)
          have HK9 := hid ((HK7.out.ext EB).grown pO hg)
          go_roundw
          case rel => exact ⟨k + 1, F7, d7, us ++ [.slice f1 xe.ops.length g1], by omega, by go_num, hd7, HF9, HK9, hid (by rw [HDX.out]; exact HN.out)⟩
          case measure => simp [intOf] <;> omega
    · obtain rfl : k = (logM cl).length := by omega
      have hd0 := hF.out.dl 0 (by omega)
      have hde : d1 0 = (logM cl).length := by omega
      have AL := all_kg HX1.out hF.out.cop (i := 0) (by omega) hd0
      have DN := fun w' (q : Ext wo w') => done_kg HX1.out (hF.out.cop.ext q) (i := 0) (by omega) hd0
      rw [hde] at AL DN
      have gs := go_ser ⟨C0, O0, S0, 0, []⟩ (logM cl) (Nat.le_refl _)
      obtain ⟨gt1, gt2⟩ := go_tell ⟨C0, O0, S0, 0, []⟩ rfl rfl (logM cl) (Nat.le_refl _)
      have dok := dsTo_ok HX1.out.log.ok (Nat.le_refl (logM cl).length)
      have hdl := dsTo_len (logM cl) (logM cl).length
      have HMN := hid (fun j (hj : j < (logM cl).length) (h : (logM cl)[j].im = false) => (by have h1 := dsTo_mono (logM cl) (j := j + 1) (k := (logM cl).length) hj; rw [dsTo_deed hj h, List.length_append, List.length_singleton] at h1; exact h1 : (dsTo (logM cl) j).length + 1 ≤ (dsTo (logM cl) (logM cl).length).length))
      obtain ⟨ck, hck⟩ : ∃ ck, goC ⟨C0, O0, S0, 0, []⟩ (logM cl) (logM cl).length = ck := ⟨_, rfl⟩
      rw [hck] at AL DN gs gt1 gt2
      obtain ⟨D, hD⟩ : ∃ D, dsTo (logM cl) (logM cl).length = D := ⟨_, rfl⟩
      rw [hD] at hA gs gt2 dok hdl HMN
      rw [gs] at AL
      obtain ⟨hI, hlv, hln⟩ := playN_inv D S0 lk D.length (Nat.le_refl _)
      have hgone := live_none (show liveN (playN D S0 lk D.length).2.1 D.length = 0 by omega)
      obtain ⟨hm, hX, hT⟩ := play_end (fun d hd => (dok d hd).1) HOS.out.1 hI hgone
      have hnd := hI.nodup
      have hord := (adm_ord hnd hm).2 hI.adm
      have PL := fun w' (q : Ext wo w') vs' (hs : Seg w' vs' 2 S0.length (cP S0)) => play_ok vs' _ vk S0 D lk w' hs HOS.out.1 (by omega) ((hA.out.ext q).seg) (fun d hd => (dok d hd).1) (fun d hd => (dok d hd).2) (by omega) (HVK.out.ext (HE1.out.trans (hF.out.E.trans q)))
      rw [hX, hT] at PL
      have OK := fun w' (q : Ext wo w') vo' (hs : Seg w' vo' 1 (playN D S0 lk D.length).1.length (cN (playN D S0 lk D.length).1)) => order_ok _ vo' D (playN D S0 lk D.length).1 w' ((hA.out.ext q).seg) (fun d hd => (dok d hd).1) (fun d hd => (dok d hd).2) (by omega) hs hln hnd (fun i hi => (hm i).1 hi)
      rw [hln] at hord
      rw [hord] at OK
      generalize (playN D S0 lk D.length).1 = ord at PL OK hln
      have AL := hid AL
      have DN := hid DN
      have PL := hid PL
      have OK := hid OK
      have PW1 := hid (fun w' (q : Ext wo w') => PW.out w' (HE1.out.trans (hF.out.E.trans q)))
      have HGT := hid gt2
      have hTl := serB_len S0 D
      have HTL := hid hTl
      obtain ⟨aA, kA, rfl⟩ := own_form hA.out.row
      have HZ := hid (HE1.out.trans hF.out.E)
      have HKL := hid hK.out
      clear hI hlv hgone hX hT hm hnd hord hF hK hA gs gt2 dok hck hD hde hd0 hTl PW hkd
      go_wp2_with fail
      refine (AL.out).mono ?_
      clear AL
      rintro e w10 ⟨v10, rfl, o10, E10⟩
      obtain ⟨a10, k10, rfl⟩ := own_form o10
      have PW2 := hid (PW1.out w10 E10)
      have HO10 := hid (own_seg o10)
      have HE10 := hid E10
      clear o10 E10 PW1
      go_wp2_with fail
      refine (PW2.out).mono ?_
      clear PW2
      rintro e w11 ⟨vs', S', rfl, oS', _, hSF', hS', E11⟩
      obtain rfl : S' = S0 := store_ext oS' HOS.out.1 (fun x => by rw [hSF', HOS.out.2])
      have HE11 := hid (HE10.out.trans E11)
      have PL1 := hid (PL.out w11 HE11.out _ (own_seg hS'))
      obtain ⟨a11, k11, rfl⟩ := own_form hS'
      have HO11 := hid (HO10.out.ext E11)
      clear oS' hSF' hS' E11 PL HE10 HO10
      go_wp2_with fail
      refine (PL1.out).mono ?_
      clear PL1
      rintro e w12 ⟨v4, v5, v6, rfl, o4, o5, o6, E12⟩
      have HE12 := hid (HE11.out.trans E12)
      have OK1 := hid (OK.out w12 HE12.out v6 (by rw [hln]; exact own_seg o6))
      obtain ⟨a4, k4, rfl⟩ := own_form o4
      obtain ⟨a5, k5, rfl⟩ := own_form o5
      obtain ⟨a6, k6, rfl⟩ := own_form o6
      have HO4 := hid (own_seg o4)
      have HO5 := hid (own_seg o5)
      have HO10 := hid (HO11.out.ext E12)
      clear o4 o5 o6 E12 OK HE11 HO11
      go_wp2_with fail
      refine (OK1.out).mono ?_
      clear OK1
      rintro e w13 ⟨rfl, E13⟩
      have HE13 := hid (HE12.out.trans E13)
      have DN1 := DN.out w13 HE13.out
      rw [gt1] at DN1
      have DN1 := hid DN1
      have HO4 := hid (HO4.out.ext E13)
      have HO5 := hid (HO5.out.ext E13)
      have HO10 := hid (HO10.out.ext E13)
      clear E13 DN HE12
      go_wp2_with fail
      refine (DN1.out).mono ?_
      clear DN1
      rintro e w14 ⟨v14, rfl, o14, E14⟩
      obtain ⟨a14, k14, rfl⟩ := own_form o14
      have HE14 := hid (HE13.out.trans E14)
      have EQ := hid (equal_Pq _ _ (serS S' D) w14 (HO10.out.ext E14) (HO4.out.ext E14))
      have HO14 := hid (own_seg o14)
      have HO5 := hid (HO5.out.ext E14)
      have qn : (((logM cl).length : Int) != ((logM cl).length : Int)) = false := by simp
      clear o14 E14 HE13 HO10 HO4
      have GT1 := hid gt1
      clear gt1 hln
      go_wp2_with fail
      refine (EQ.out).mono ?_
      clear EQ
      rintro e w15 ⟨rfl, E15⟩
      have HE15 := hid (HE14.out.trans E15)
      have HO14 := hid (HO14.out.ext E15)
      have HO5 := hid (HO5.out.ext E15)
      obtain ⟨wP, hwP⟩ : ∃ wP : World, wP = w15 := ⟨_, rfl⟩
      subst hwP
      clear E15 HE14
      go_wp2_with fail
      go_loopw [31, 133] (fun kv iv wr => ∃ i : Nat, i ≤ (logM cl).length ∧ iv = .int .i64 i ∧ kv = .int .i64 ((dsTo (logM cl) i).length : Nat) ∧ Ext wP wr) (fun _ iv _ => (logM cl).length - (intOf iv).toNat)
      case atStart => exact ⟨0, Nat.zero_le _, rfl, rfl, Ext.refl _⟩
      case round =>
        obtain ⟨wy, rfl⟩ : ∃ wy : World, wy = wr := ⟨_, rfl⟩
        obtain ⟨i, hi, rfl, rfl, Ei⟩ := hrel
        by_cases hil : i < (logM cl).length
        · have EK := HKL.out.ext (HE15.out.trans Ei)
          obtain ⟨bX, oX, rfl, p1, p2⟩ := HKL.out.seg.addr (by omega)
          obtain ⟨ev, hE, x0, x1, x2, x3⟩ := EK.at hil
          have HDM := hid (fun h => dsTo_map (L := logM cl) hil h)
          have HDD := hid (fun h => dsTo_deed (L := logM cl) hil h)
          have HG1 := hid (fun h => HGT.out i hil hil h)
          have HM1 := hid (fun h => HMN.out i hil h)
          generalize (logM cl)[i] = xe at hE HDM HDD HG1 HM1
          obtain ⟨v1, b1, v2', v3⟩ := ev
          have hb1 : b1 = xe.im := hE.im
          subst hb1
          dsimp only at x0 x1 x2 x3
          obtain ⟨f1, g1, e1⟩ := own_form hE.ops
          obtain ⟨f2, g2, e2⟩ := own_form hE.cuts
          obtain ⟨f3, g3, e3⟩ := own_form hE.own
          dsimp only at e1 e2 e3
          subst e1; subst e2; subst e3
          have HEi := hid Ei
          clear EK hE Ei
          cases him : xe.im with
          | true =>
            have HDX := hid (HDM.out him)
            rw [him] at x1
            clear HDM HDD HG1 HM1 him
            go_wp2_with fail
            go_roundw
            case rel => exact ⟨i + 1, by omega, by go_num, by rw [HDX.out], HEi.out.alloc _⟩
            case measure => simp [intOf] <;> omega
          | false =>
            have HDX := hid (HDD.out him)
            have hg := HG1.out him
            have hm1 := HM1.out him
            rw [him] at x1
            clear HDM HDD HG1 HM1 him
            have hdi := dsTo_len (logM cl) i
            obtain ⟨kk, hkk⟩ : ∃ kk, (dsTo (logM cl) i).length = kk := ⟨_, rfl⟩
            rw [hkk] at hg hm1 hdi
            obtain ⟨r, hr⟩ : ∃ r, (serB S' D)[kk]'(by rw [HTL.out]; omega) = r := ⟨_, rfl⟩
            have hr2 : (serB S' D)[kk]? = some r := by rw [List.getElem?_eq_getElem (by rw [HTL.out]; omega), hr]
            rw [hr2] at hg
            obtain ⟨bo, oo, rfl, _, q1, q2, hco⟩ := seg_cells HO5.out (by omega)
            obtain ⟨bt, ot, rfl, _, q3, q4, hct⟩ := seg_cells HO14.out (by omega)
            unfold maxLen at q2 q4
            have EA := (Ext.refl wy).alloc (.cells #[.slice f1 xe.ops.length g1, .bool false, .slice f2 xe.cuts.length g2, .slice f3 xe.own.length g3] 94)
            have y1 := (HEi.out.trans EA).cell (hco kk (.bool r) (by show ((serB S' D).map Value.bool)[kk]? = _; rw [List.getElem?_map, hr2]; rfl))
            have y2 := (HEi.out.trans EA).cell (hct i (.bool r) (by rw [List.getElem?_map, hg]; rfl))
            have HKK := hid hkk
            have HEA := hid (HEi.out.trans EA)
            have qb : (r != r) = false := by simp
            simp only [hkk]
            clear hco hct hg hr hr2 hkk EA
            go_wp2_with fail
            refine wp_region_ph [.k (.slice (some ⟨bt, ot, none⟩) (logM cl).length k14), .k (.int .i64 i), .k (.pointer (some ⟨bt, ot + i, none⟩)), .k (.bool r), .k (.slice (some ⟨bo, oo, none⟩) D.length k5), .k (.int .i64 kk), .k (.pointer (some ⟨bo, oo + kk, none⟩)), .k (.bool r), .k (.bool false)] [] (by kernel_rfl) (by kernel_rfl) (by kernel_rfl) rfl rfl ?hs ?hC ?he
            case hC =>
              intro i hi
              simp at hi
            case hs =>
              refine ⟨?_, ?_, ?_, ?_, ?_, ?_, ?_, ?_, ?_, trivial⟩
              all_goals (
                intro x w' hE hd
                try simp [PhDeps, at_k, at_p, at_t, at_any, Region.binds] at hd
                try ((with_reducible refine Exists.elim hd ?_); clear hd; intro y hd; obtain ⟨hd, hG⟩ := hd)
                have d1 := hE.cell y1
                have d2 := hE.cell y2
                first | simp only [frL, List.length_cons, List.length_nil, List.take_succ_cons, List.take_zero, Nat.reduceAdd, Nat.zero_add, List.setIfInBounds_toArray, List.set_cons_zero, List.set_cons_succ, hd] | simp only [frL, List.length_cons, List.length_nil, List.take_succ_cons, List.take_zero, Nat.reduceAdd, Nat.zero_add, List.setIfInBounds_toArray, List.set_cons_zero, List.set_cons_succ]
                go_wp2
                all_goals first
                  | ((with_reducible refine phK ?_ ?_); (focus rfl); (repeat (first | (with_reducible assumption) | (with_reducible exact Ext.refl _) | (with_reducible refine Ext.drew ?_) | (with_reducible refine Ext.drewN ?_ _) | (with_reducible refine Ext.alloc ?_ _) | (with_reducible refine Ext.trans ?_ (by with_reducible assumption)))))
                  | ((with_reducible refine phT rfl hG ?_); (repeat (first | (with_reducible assumption) | (with_reducible exact Ext.refl _) | (with_reducible refine Ext.drew ?_) | (with_reducible refine Ext.drewN ?_ _) | (with_reducible refine Ext.alloc ?_ _) | (with_reducible refine Ext.trans ?_ (by with_reducible assumption)))))
                  | ((with_reducible refine phU hG ?_); (repeat (first | (with_reducible assumption) | (with_reducible exact Ext.refl _) | (with_reducible refine Ext.drew ?_) | (with_reducible refine Ext.drewN ?_ _) | (with_reducible refine Ext.alloc ?_ _) | (with_reducible refine Ext.trans ?_ (by with_reducible assumption)))))
                  | (with_reducible exact phBox hE)
                  | (with_reducible exact phRow hE))
            case he =>
              intro x wq Eq hd
              simp [PhEnd, at_k, at_p, at_t, at_any] at hd
              simp only [frL, List.length_cons, List.length_nil, List.take_succ_cons, List.take_zero, Nat.reduceAdd, Nat.zero_add, List.setIfInBounds_toArray, List.set_cons_zero, List.set_cons_succ, hd, List.length_cons, List.length_nil, List.drop_succ_cons, List.drop_zero]
              clear hd
              have HEq := hid (HEA.out.trans Eq)
              clear Eq y1 y2
              go_wp2_with fail
              go_roundw
              case rel => exact ⟨i + 1, by omega, by go_num, by rw [HDX.out, List.length_append, HKK.out]; go_num, HEq.out⟩
              case measure => simp [intOf] <;> omega
        · have HEF := hid (HZ.out.trans (HE15.out.trans Ei))
          clear Ei
          go_wp2
          go_ret
          exact ⟨rfl, HEF.out⟩
end Go.Proofs.YtimchedebcoohaaGreat
