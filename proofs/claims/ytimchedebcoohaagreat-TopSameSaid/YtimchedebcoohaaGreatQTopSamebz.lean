/- Contracts and lemmas for the proof of TopSame; each theorem states its own conditions. -/
import Derived.Test.YtimchedebcoohaaGreatQTopSamebx
import Derived.Test.YtimchedebcoohaaGreatQTopSameby
import Derived.BigQuiet
set_option linter.unusedVariables false
set_option linter.unusedSimpArgs false
/- Contracts and lemmas for the proofs of this seat; each theorem states its own conditions. -/
namespace Go.Proofs.YtimchedebcoohaaGreat
open Go.RowKit
set_option maxRecDepth 100000 in
set_option maxHeartbeats 16000000 in
theorem tsame_walk (z0 z1 : Int) (v v2 vp vd : Value) (la l2 : List Int) (ps ds : List (List Int)) (w : World) (hv : Seg w v 1 la.length (cI la)) (hb : ∀ z ∈ la, -9223372036854775808 ≤ z ∧ z ≤ 9223372036854775807)
    (hv2 : Seg w v2 1 l2.length (cI l2)) (hb2 : ∀ z ∈ l2, -9223372036854775808 ≤ z ∧ z ≤ 9223372036854775807) (hvp : SegLL w vp ps) (hbp : ∀ p ∈ ps, ∀ z ∈ p, -9223372036854775808 ≤ z ∧ z ≤ 9223372036854775807) (hvd : SegLL w vd ds) :
    Calls Tryz.prog 6 #[.int .i64 z0, .int .i64 z1, v, v2, vp, vd] w fun e w' => e = .returned (.bool true) ∧ Ext w w' := by
  obtain ⟨i1, hc1, hc2, hc3⟩ := wi_nat (z := z1) (n := 4) (by omega)
  have hc1 : wi z1 4 = (i1 : Int) := hc1
  have hc2 : (wi z1 4).toNat = i1 := hc2
  have WI1 := fun w' => within_any z1 4 w' (by omega) (by omega)
  rw [hc1] at WI1
  have WI1 := hid WI1
  have FD := fun w' (q : Ext w w') => rfed_any z0 z1 v v2 vp vd la l2 ps ds w' (hv.ext q) hb (hv2.ext q) hb2 (hvp.ext q) hbp (hvd.ext q)
  rw [hc2] at FD
  generalize (wi z0 4).toNat + 1 = inp at FD
  have FD := hid FD
  have PW := hid (fun w' (q : Ext w w') => pairs_fn v2 l2 w' (hv2.ext q) hb2)
  have KW := fun w' (q : Ext w w') => kMap_any v la w' (hv.ext q) hb
  obtain ⟨C0, hC0⟩ : ∃ C0, mkC la 6 = C0 := ⟨_, rfl⟩
  obtain ⟨O0, hO0⟩ : ∃ O0, mkO la 6 = O0 := ⟨_, rfl⟩
  have mok := mk_ok la
  have msm := mk_small la
  rw [hC0] at KW mok msm FD
  rw [hO0] at KW mok FD
  have KW := hid KW
  have MOK := hid (And.intro mok msm)
  clear hc1 hc2 hC0 hO0 mok msm hv hv2 hvp hbp hvd
  go_enter Tryz.func6, Tryz.ntmps6
  go_wp2_with fail
  refine (rbegun_any _).mono ?_
  rintro e w1 ⟨rfl, E1⟩
  have FD1 := hid (FD.out w1 E1)
  have HE1 := hid E1
  clear FD E1
  go_wp2_with fail
  refine (FD1.out).mono ?_
  clear FD1
  rintro e w2 ⟨vL, S0, b, F, cl, op, d, w1', rfl, oS, lS, hSF, hFS, hL⟩
  have HX1 := hid (hFS.one (by omega) ⟨MOK.out.1, MOK.out.2, oS, by simp only; omega, rfl⟩ rfl)
  have hTY := hFS.cop.ty
  have HLK := hid (hL.beside hTY)
  have HFS := hid (hFS.ext hL.E)
  obtain ⟨aL, kL, rfl⟩ := hL.form
  have HOS := hid (And.intro oS hSF)
  have HTY := hid HFS.out.cop.ty
  have PW2 := hid (PW.out w2 (HE1.out.trans HFS.out.E))
  have HEW := hid (HE1.out.trans HFS.out.E)
  have hLl := HX1.out.log.len
  clear hFS hL hTY oS hSF PW
  go_wp2_with fail
  refine (PW2.out).mono ?_
  clear PW2
  rintro e w3 ⟨vs', S', rfl, oS', _, hSF', hS', E3⟩
  obtain rfl : S' = S0 := store_ext oS' HOS.out.1 (fun x => by rw [hSF', HOS.out.2])
  obtain ⟨as', cs', rfl⟩ := own_form hS'
  have KW1 := hid (KW.out w3 (HEW.out.trans E3))
  have HS' := hid hS'
  have HE3 := hid E3
  clear oS' hSF' hS' E3 KW
  go_wp2_with fail
  refine (KW1.out).mono ?_
  clear KW1
  rintro e w4 ⟨vm', rfl, om', E4⟩
  obtain ⟨um1, um2, rfl, oo1, oo2⟩ := om'
  obtain ⟨au1, ku1, rfl⟩ := own_form oo1
  obtain ⟨au2, ku2, rfl⟩ := own_form oo2
  have bM0 := heap_alloc_new w4 (.cells #[.slice au1 C0.length ku1, .slice au2 O0.length ku2] 26)
  have EM := (Ext.refl w4).alloc (.cells #[.slice au1 C0.length ku1, .slice au2 O0.length ku2] 26)
  obtain ⟨wM, hwM⟩ : ∃ wM, w4.alloc (.cells #[.slice au1 C0.length ku1, .slice au2 O0.length ku2] 26) = wM := ⟨_, rfl⟩
  obtain ⟨bM, hbM⟩ : ∃ bM, w4.heap.size = bM := ⟨_, rfl⟩
  rw [hwM] at bM0 EM
  rw [hbM] at bM0
  have hbMl : w2.heap.size ≤ bM := by have := (HE3.out.trans E4).size'; omega
  have hoff0 : Off F (.slice au2 O0.length ku2) := fun k hk hf => by
    have h1 := own_ge oo2 k hk
    have h2 := HTY.out.lt hf
    have h3 := HE3.out.size'
    omega
  have HO0 := hid hoff0
  have ONE := hid (show OneS wM w2.heap.size bM (.slice as' S'.length cs') (.slice none 0 0) (.slice au1 C0.length ku1) (.slice au2 O0.length ku2) (goC ⟨C0, O0, S', 0, []⟩ (logM cl) 0) from
    ⟨own_ext (own_ext (own_base HS'.out (Nat.zero_le _)) E4) EM, bM0, own_ext (own_base oo1 (Nat.zero_le _)) EM, own_ext (own_base oo2 (Nat.zero_le _)) EM, World.ownsRow_nil _ _ _ _⟩)
  have HEM := hid (HE3.out.trans (E4.trans EM))
  clear bM0 EM E4 oo1 oo2 HS' HE3 hoff0
  go_wp2_with fail
  clear hwM hbM
  obtain ⟨S0, rfl⟩ : ∃ S : Prs, S = S' := ⟨_, rfl⟩
  obtain ⟨wz, rfl⟩ : ∃ wq : World, wq = w2 := ⟨_, rfl⟩
  go_loopw [16, 18, 59] (fun sv ov kv wr => ∃ (k : Nat) (u1 u2 : Value), k ≤ (logM cl).length ∧ kv = .int .i64 k ∧ Hid (OneS wr wz.heap.size bM sv ov u1 u2 (goC ⟨C0, O0, S0, 0, []⟩ (logM cl) k)) ∧ Off F u2 ∧ Ext wz wr) (fun _ _ kv _ => (logM cl).length - (intOf kv).toNat)
  case atStart => exact ⟨0, _, _, Nat.zero_le _, rfl, ONE, HO0.out, HEM.out⟩
  case round =>
    clear ONE HEM HO0
    obtain ⟨wo, rfl⟩ : ∃ wo : World, wo = wr := ⟨_, rfl⟩
    obtain ⟨k, u1, u2, hk, rfl, hOne, hu2, Ek⟩ := hrel
    by_cases hkl : k < (logM cl).length
    · have hkX : k < (logM cl).length := by omega
      obtain ⟨bX, oX, rfl, p1, p2⟩ := HLK.out.seg.addr (by omega)
      obtain ⟨ev, hE, hoff, x0, x1, x2, x3⟩ := HLK.out.at' hkX
      replace x0 := Ek.cell x0
      replace x1 := Ek.cell x1
      replace x2 := Ek.cell x2
      replace x3 := Ek.cell x3
      have hxo := HX1.out.log.ok (logM cl)[k] (List.getElem_mem hkX)
      have hgo := goC_one (c := ⟨C0, O0, S0, 0, []⟩) hkX
      obtain ⟨h1, _, h3', h4', _⟩ := goC_le HX1.out.ok rfl HX1.out.log.ok HX1.out.log.len (by omega) (show k ≤ (logM cl).length by omega)
      generalize (logM cl)[k] = xe at hE hxo hgo
      generalize goC ⟨C0, O0, S0, 0, []⟩ (logM cl) k = ck at hOne hgo h1 h3' h4'
      obtain ⟨v1, b1, v2', v3⟩ := ev
      have hb1 : b1 = xe.im := hE.im
      subst hb1
      dsimp only at x0 x1 x2 x3 hoff
      have hE := hE.ext Ek
      obtain ⟨f1, g1, e1⟩ := own_form hE.ops
      obtain ⟨f2, g2, e2⟩ := own_form hE.cuts
      obtain ⟨f3, g3, e3⟩ := own_form hE.own
      dsimp only at e1 e2 e3
      subst e1; subst e2; subst e3
      obtain ⟨a5, c5, rfl⟩ := own_form hOne.out.s
      obtain ⟨a6, c6, eov⟩ := own_form hOne.out.ok
      obtain ⟨nk, hnk⟩ : ∃ nk, ck.ok.length = nk := ⟨_, rfl⟩
      rw [hnk] at eov h4'
      subst eov
      have HNK := hid hnk
      clear hnk
      have EA := (Ext.refl wo).alloc (.cells #[.slice f1 xe.ops.length g1, .bool xe.im, .slice f2 xe.cuts.length g2, .slice f3 xe.own.length g3] 94)
      have bx := heap_alloc_new wo (.cells #[.slice f1 xe.ops.length g1, .bool xe.im, .slice f2 xe.cuts.length g2, .slice f3 xe.own.length g3] 94)
      cases him : xe.im with
      | true =>
        rw [doE_map him] at hgo
        rw [him] at EA bx x1
        obtain ⟨wA, hwA⟩ : ∃ wA, wo.alloc (.cells #[.slice f1 xe.ops.length g1, .bool true, .slice f2 xe.cuts.length g2, .slice f3 xe.own.length g3] 94) = wA := ⟨_, rfl⟩
        obtain ⟨bxx, hbxx⟩ : ∃ bxx, wo.heap.size = bxx := ⟨_, rfl⟩
        rw [hwA] at EA bx
        rw [hbxx] at bx
        have k0 := blk4 bx
        have yM := blk2 (EA.heap hOne.out.box)
        have hM1 := (hOne.out.ext EA).map (hE.ext EA).cuts (hE.ext EA).own
        have E1 := ((Ek.trans EA).setCell (p := ⟨bM, 0, none⟩) hbMl (.slice f2 xe.cuts.length g2)).setCell (p := ⟨bM, 1, none⟩) hbMl (.slice f3 xe.own.length g3)
        obtain ⟨wN, hwN⟩ : ∃ wN, (wA.setCell ⟨bM, 0, none⟩ (.slice f2 xe.cuts.length g2)).setCell ⟨bM, 1, none⟩ (.slice f3 xe.own.length g3) = wN := ⟨_, rfl⟩
        dsimp only at hM1
        rw [hwN] at hM1 E1
        have HM1 := hid hM1
        have HE1 := hid E1
        have HGO := hid hgo
        have HIM := hid him
        clear hM1 E1 hgo hE EA bx him h1
        have pB : Seg (wN.alloc (.cells #[.bool true] 4)) (.slice (some ⟨wN.heap.size, 0, none⟩) 1 1) 1 1 [.bool true] := seg_one (heap_alloc_new wN _)
        have EB := (Ext.refl wN).alloc (.cells #[.bool true] 4)
        have hM2 := hid (HM1.out.ext EB)
        have pO := hM2.out.ok
        dsimp only at pO
        rw [HNK.out] at pO
        have pS : wz.heap.size ≤ (wN.alloc (.cells #[.bool true] 4)).heap.size := Nat.le_trans HE1.out.size' EB.size'
        go_wp2_with (first | (at_builtin; refine (wpList_app rfl _ _ 49 rfl wz.heap.size 4 (.bool false) 1 1 Tryz.underlying49 infoB rfl (by decide) (.slice a6 nk c6) nk (ck.ok.map Value.bool) rfl pO _ 1 [.bool true] rfl pB (one_bools [true]) (by omega) (by unfold maxLen; omega) pS ?_); intro v' w12 ho' hg))
        have hT := hid (hM2.out.tell (m := ck.dn + 1) (by rw [HNK.out]; exact ho') hg)
        go_roundw
        case rel => exact ⟨k + 1, _, _, by omega, by go_num, hid (by rw [← HGO.out]; exact hT.out), hoff, (HE1.out.trans EB).grown hg (fun q hq => own_ge pO q hq)⟩
        case measure => simp [intOf] <;> omega
      | false =>
        rw [doE_deed him] at hgo
        rw [him] at EA bx x1
        obtain ⟨wA, hwA⟩ : ∃ wA, wo.alloc (.cells #[.slice f1 xe.ops.length g1, .bool false, .slice f2 xe.cuts.length g2, .slice f3 xe.own.length g3] 94) = wA := ⟨_, rfl⟩
        obtain ⟨bxx, hbxx⟩ : ∃ bxx, wo.heap.size = bxx := ⟨_, rfl⟩
        rw [hwA] at EA bx
        rw [hbxx] at bx
        have k0 := blk4 bx
        have RN := run_ok _ _ ck.S xe.ops wA (own_seg (own_ext hOne.out.s EA)) (own_seg (hE.ext EA).ops) h1.sto (ent_deed hxo him) (fun o ho => (hxo.sz.ops o ho).2) (by omega)
        obtain ⟨r, hr⟩ : ∃ r, runB ck.S xe.ops = r := ⟨_, rfl⟩
        rw [hr] at RN hgo
        have RN := hid RN
        have HGO := hid hgo
        have HIM := hid him
        have HEA := hid EA
        clear hgo hE EA bx him h1 hr
        go_wp2_with fail
        refine (RN.out).mono ?_
        clear RN hwA hbxx
        rintro e w11 ⟨v11, rfl, o11, E11⟩
        obtain ⟨a11, c11, rfl⟩ := own_form o11
        have hO2 := hOne.out.ext (HEA.out.trans E11)
        have HM1 := hid (show OneS w11 wz.heap.size bM (.slice a11 (runS ck.S xe.ops).length c11) (.slice a6 nk c6) u1 u2 ⟨ck.C, ck.O, runS ck.S xe.ops, ck.dn, ck.ok⟩ from ⟨own_base o11 (Nat.zero_le _), hO2.box, hO2.cuts, hO2.own, hO2.ok⟩)
        have HE1 := hid (Ek.trans (HEA.out.trans E11))
        clear o11 hO2 E11
        have pB : Seg (w11.alloc (.cells #[.bool r] 4)) (.slice (some ⟨w11.heap.size, 0, none⟩) 1 1) 1 1 [.bool r] := seg_one (heap_alloc_new w11 _)
        have EB := (Ext.refl w11).alloc (.cells #[.bool r] 4)
        have hM2 := hid (HM1.out.ext EB)
        have pO := hM2.out.ok
        dsimp only at pO
        rw [HNK.out] at pO
        have pS : wz.heap.size ≤ (w11.alloc (.cells #[.bool r] 4)).heap.size := Nat.le_trans HE1.out.size' EB.size'
        go_wp2_with (first | (at_builtin; refine (wpList_app rfl _ _ 49 rfl wz.heap.size 4 (.bool false) 1 1 Tryz.underlying49 infoB rfl (by decide) (.slice a6 nk c6) nk (ck.ok.map Value.bool) rfl pO _ 1 [.bool r] rfl pB (one_bools [r]) (by omega) (by unfold maxLen; omega) pS ?_); intro v' w12 ho' hg))
        have hT := hid (hM2.out.tell (m := ck.dn + 1) (by rw [HNK.out]; exact ho') hg)
        go_roundw
        case rel => exact ⟨k + 1, _, _, by omega, by go_num, hid (by rw [← HGO.out]; exact hT.out), hu2, (HE1.out.trans EB).grown hg (fun q hq => own_ge pO q hq)⟩
        case measure => simp [intOf] <;> omega
    · obtain rfl : k = (logM cl).length := by omega
      obtain ⟨ck, hck⟩ : ∃ ck, goC ⟨C0, O0, S0, 0, []⟩ (logM cl) (logM cl).length = ck := ⟨_, rfl⟩
      obtain ⟨g1, g2, g3, g4, g5⟩ := goC_le HX1.out.ok HX1.out.dn HX1.out.log.ok HX1.out.log.len (by omega) (Nat.le_refl _)
      rw [hck] at hOne g1 g2 g3 g4
      have HCK := hid hck
      have G1 := hid g1
      obtain ⟨a5, c5, rfl⟩ := own_form hOne.out.s
      obtain ⟨a6, c6, rfl⟩ := own_form hOne.out.ok
      have HK0 := hid (show OneK wo F wz.heap.size bM (.slice a5 ck.S.length c5) (.slice a6 ck.ok.length c6) u1 u2 ck from ⟨hOne.out, hu2, fun q hq hf => by
        have h1 := own_ge hOne.out.ok q hq
        have h2 := HTY.out.lt hf
        omega⟩)
      have HF0 := hid (HFS.out.ext Ek)
      have WI2 := hid (WI1.out wo)
      have qi1 : (1 : Int) + (i1 : Int) = ((i1 + 1 : Nat) : Int) := by omega
      clear hck hOne hu2 Ek HTY HLK HFS g1 g2 WI1
      go_wp2_with fail
      refine (WI2.out).mono ?_
      clear WI2
      rintro e w' ⟨rfl, rfl⟩
      obtain ⟨wo, rfl⟩ : ∃ wq : World, wq = wo := ⟨_, rfl⟩
      go_wp2_with fail
      clear qi1
      go_loopw [85] (fun iv wr => ∃ (i : Nat) (F' : Nat → Prop) (d' : Nat → Nat), i ≤ i1 + 1 ∧ iv = .int .i64 i ∧ Hid (FedS w1 wr b inp (i1 + 1) 54 ⟨C0, O0, S0, 0, []⟩ F' cl op d') ∧ Hid (OneK wr F' wz.heap.size bM (.slice a5 ck.S.length c5) (.slice a6 ck.ok.length c6) u1 u2 ck)) (fun iv _ => i1 + 1 - (intOf iv).toNat)
      case atStart => exact ⟨0, F, d, Nat.zero_le _, rfl, HF0, HK0⟩
      case round =>
        clear HF0 HK0
        obtain ⟨wo, rfl⟩ : ∃ wo : World, wo = wr := ⟨_, rfl⟩
        obtain ⟨i, F1, d1, hi, rfl, hF, hK⟩ := hrel
        by_cases hil : i < i1 + 1
        · have hil' : ((i : Int) < (i1 : Int) + 1) := by omega
          go_wp2_with fail
          go_loopw [25] (fun _ wr => ∃ (F' : Nat → Prop) (d' : Nat → Nat), Hid (FedS w1 wr b inp (i1 + 1) 54 ⟨C0, O0, S0, 0, []⟩ F' cl op d') ∧ Hid (OneK wr F' wz.heap.size bM (.slice a5 ck.S.length c5) (.slice a6 ck.ok.length c6) u1 u2 ck)) (fun _ wr => muC b i (logM cl).length wr)
          case atStart => exact ⟨F1, d1, hF, hK⟩
          case round =>
            clear hF hK
            obtain ⟨wx, rfl⟩ : ∃ wx : World, wx = wr := ⟨_, rfl⟩
            obtain ⟨F2, d2, hF, hK⟩ := hrel
            have hdi := hF.out.dl i hil
            by_cases hl : d2 i < (logM cl).length
            · have ST := step_kg HX1.out hF.out.cop hil hl
              generalize okE _ _ = r at ST
              have ST := hid ST
              have HM0 := hid (muC_kd HX1.out hF.out.cop hil hdi)
              have HTY := hid hF.out.cop.ty
              go_wp2_with fail
              refine (ST.out).mono ?_
              clear ST
              rintro e w7 ⟨rfl, F7, hC7, K7⟩
              have HR := hid (hF.out.go (show d2 i + 1 ≤ (logM cl).length from hl) hC7 K7)
              have HKr := hid (hK.out.kp HTY.out K7)
              have HM7 := hid (muC_kd HX1.out HR.out.cop hil (HR.out.dl i hil))
              clear hC7 K7
              go_wp2_with fail
              go_roundw
              case rel => exact ⟨F7, _, HR, HKr⟩
              case measure =>
                rw [HM0.out, HM7.out]
                have : upD d2 i (d2 i + 1) i = d2 i + 1 := by unfold upD; rw [if_pos rfl]
                rw [this]; omega
            · have hde : d2 i = (logM cl).length := by omega
              have ST := hid (swait_kg HX1.out hF.out.cop hil hde)
              have AL := fun w' (q : Ext wx w') => all_kg HX1.out (hF.out.cop.ext q) hil hdi
              have DN := fun w' (q : Ext wx w') => done_kg HX1.out (hF.out.cop.ext q) hil hdi
              have PT := fun w' (q : Ext wx w') j hj => part_kg HX1.out (hF.out.cop.ext q) hil hdi j hj
              rw [hde, HCK.out] at AL DN PT
              have AL := hid AL
              have DN := hid DN
              have PT := hid PT
              clear hl hde hdi
              go_wp2_with fail
              refine (ST.out).mono ?_
              clear ST
              rintro e w7 ⟨rfl, E7⟩
              have AL1 := hid (AL.out w7 E7)
              have HE7 := hid E7
              clear AL E7
              go_wp2_with fail
              refine (AL1.out).mono ?_
              clear AL1
              rintro e w8 ⟨v8, rfl, o8, E8⟩
              obtain ⟨a8, c8, rfl⟩ := own_form o8
              have HE8 := hid (HE7.out.trans E8)
              have DN1 := hid (DN.out w8 HE8.out)
              have HO8 := hid (own_seg o8)
              clear DN o8 E8 HE7
              go_wp2_with fail
              refine (DN1.out).mono ?_
              clear DN1
              rintro e w9 ⟨v9, rfl, o9, E9⟩
              obtain ⟨a9, c9, rfl⟩ := own_form o9
              have HE9 := hid (HE8.out.trans E9)
              have EQ1 := hid (equal_Pq _ _ ck.S w9 (HO8.out.ext E9) ((own_seg hK.out.one.s).ext HE9.out))
              have HO9 := hid (own_seg o9)
              clear HO8 o9 E9 HE8
              go_wp2_with fail
              refine (EQ1.out).mono ?_
              clear EQ1
              rintro e w10 ⟨rfl, E10⟩
              have HE10 := hid (HE9.out.trans E10)
              have EQ2 := equal_Bool _ _ ck.ok ck.ok w10 (HO9.out.ext E10) ((own_seg hK.out.one.ok).ext HE10.out)
              rw [decide_eq_true (rfl : ck.ok = ck.ok)] at EQ2
              have EQ2 := hid EQ2
              clear HO9 E10 HE9
              go_wp2_with fail
              refine (EQ2.out).mono ?_
              clear EQ2
              rintro e w11 ⟨rfl, n11, rfl⟩
              have HE11 := hid (HE10.out.drewN n11)
              clear HE10
              obtain ⟨wP, hwP⟩ : ∃ wP, w10.drewN n11 = wP := ⟨_, rfl⟩
              rw [hwP] at HE11
              have HU0 := hid (upto_zero G1.out.map ck.S)
              go_wp2_with fail
              go_loopw [30, 128] (fun jv iv wr => ∃ p : Nat, p ≤ 4 ∧ iv = .int .i64 p ∧ Hid (wr.ownsRow 0 33 2 jv (uptoP ck.C ck.O ck.S p).length (cP (uptoP ck.C ck.O ck.S p))) ∧ Ext wP wr) (fun _ iv _ => 4 - (intOf iv).toNat)
              case atStart => exact ⟨0, by omega, rfl, hid (by rw [HU0.out]; exact World.ownsRow_nil _ _ _ _), by first | exact Ext.refl _ | (rw [hwP]; exact Ext.refl _)⟩
              case round =>
                clear hwP
                obtain ⟨wy, rfl⟩ : ∃ wy : World, wy = wr := ⟨_, rfl⟩
                obtain ⟨p, hp, rfl, hJ, Ep⟩ := hrel
                by_cases hp4 : p < 4
                · have hp4' : ((p : Int) < 4) := by omega
                  have EE := HE11.out.trans Ep
                  have PT1 := hid (PT.out wy EE p hp4)
                  have HXM := hid (fun w' (q : Ext wy w') => blk2 ((EE.trans q).heap hK.out.one.box))
                  have SP := hid (fun w' (q : Ext wy w') => part_ok (.agg #[u1, u2]) (.slice a5 ck.S.length c5) ck.C ck.O ck.S (p : Int) w' (hK.out.one.is.ext (EE.trans q)) G1.out.map G1.out.sm ((own_seg hK.out.one.s).ext (EE.trans q)) G1.out.sto (by omega) (by omega) (by omega))
                  have hul := upto_len ck.C ck.O ck.S p
                  have hul2 := upto_len ck.C ck.O ck.S (p + 1)
                  have hfl : (uptoP ck.C ck.O ck.S (p + 1)).length ≤ ck.S.length := List.length_filter_le _ _
                  obtain ⟨aj, kj, rfl⟩ := own_form hJ.out
                  have HEp := hid Ep
                  have HUJ := hid (upto_join (C := ck.C) (O := ck.O) G1.out.sto p)
                  have HUO := hid (And.intro (storeOk_filter G1.out.sto (fun x => decide (whose ck.C ck.O x.1 < (p : Int)))) (par_ok G1.out.sto ck.C ck.O p))
                  clear EE Ep
                  go_wp2_with fail
                  refine (PT1.out).mono ?_
                  clear PT1
                  rintro e w13 ⟨v13, rfl, o13, E13⟩
                  obtain ⟨a13, c13, rfl⟩ := own_form o13
                  have SP1 := hid (SP.out w13 E13)
                  have xM := HXM.out w13 E13
                  have HO13 := hid (own_seg o13)
                  have HE13 := hid E13
                  clear SP HXM o13 E13
                  go_wp2_with fail
                  refine (SP1.out).mono ?_
                  clear SP1 xM
                  rintro e w14 ⟨v14, rfl, o14, E14⟩
                  obtain ⟨a14, c14, rfl⟩ := own_form o14
                  have HE14 := hid (HE13.out.trans E14)
                  have JK := join_ok (.slice aj (uptoP ck.C ck.O ck.S p).length kj) (.slice a13 (parP ck.C ck.O ck.S p).length c13) (uptoP ck.C ck.O ck.S p) (parP ck.C ck.O ck.S p) w14 ((own_seg hJ.out).ext HE14.out) (HO13.out.ext E14) HUO.out.1 HUO.out.2 (by show (uptoP ck.C ck.O ck.S p).length + (partP ck.C ck.O ck.S (p : Int)).length ≤ _; omega) HUJ.out.1
                  rw [show joinP (uptoP ck.C ck.O ck.S p) (parP ck.C ck.O ck.S p) = uptoP ck.C ck.O ck.S (p + 1) from HUJ.out.2] at JK
                  have JK := hid JK
                  have HO13 := hid (HO13.out.ext E14)
                  have HO14 := hid (show Seg w14 _ 2 (parP ck.C ck.O ck.S p).length (cP (parP ck.C ck.O ck.S p)) from own_seg o14)
                  clear o14 E14 HE13
                  go_wp2_with fail
                  refine (JK.out).mono ?_
                  clear JK
                  rintro e w15 ⟨v15, rfl, o15, E15⟩
                  obtain ⟨a15, c15, rfl⟩ := own_form o15
                  have EQ3 := hid (equal_Pq _ _ (parP ck.C ck.O ck.S p) w15 (HO13.out.ext E15) (HO14.out.ext E15))
                  have HE15 := hid (HE14.out.trans E15)
                  have HO15 := hid (own_base o15 (Nat.zero_le _))
                  clear o15 E15 HE14 HO13 HO14
                  go_wp2_with fail
                  refine (EQ3.out).mono ?_
                  clear EQ3
                  rintro e w16 ⟨rfl, E16⟩
                  have HJ2 := hid (own_ext HO15.out E16)
                  have HE16 := hid (HEp.out.trans (HE15.out.trans E16))
                  clear HO15 E16
                  go_wp2_with fail
                  go_roundw
                  case rel => exact ⟨p + 1, by omega, by go_num, HJ2, HE16.out⟩
                  case measure => simp [intOf] <;> omega
                · obtain rfl : p = 4 := by omega
                  have hJ4 := hJ.out
                  rw [upto_four G1.out.map] at hJ4
                  obtain ⟨aj, kj, rfl⟩ := own_form hJ4
                  have EE := HE11.out.trans Ep
                  have EQ4 := hid (equal_Pq _ _ ck.S wy (own_seg hJ4) ((own_seg hK.out.one.s).ext EE))
                  have HEE := hid EE
                  clear hJ hJ4 EE Ep
                  go_wp2_with fail
                  refine (EQ4.out).mono ?_
                  clear EQ4
                  rintro e w17 ⟨rfl, E17⟩
                  have HR := hid (hF.out.ext (HEE.out.trans E17))
                  have HKr := hid (hK.out.ext (HEE.out.trans E17))
                  clear E17
                  go_wp2_with fail
                  go_roundw
                  case rel => exact ⟨i + 1, F2, d2, by omega, by go_num, HR, HKr⟩
                  case measure => simp [intOf] <;> omega
        · have hil' : ¬ ((i : Int) < (i1 : Int) + 1) := by omega
          have HEF := hid (HE1.out.trans hF.out.E)
          clear hF hK
          go_wp2
          go_ret
          exact ⟨rfl, HEF.out⟩
end Go.Proofs.YtimchedebcoohaaGreat
