/- Contracts and lemmas for the proof of TopMoves; each theorem states its own conditions. -/
import Derived.Test.YtnepdfpooobmcaaGreatQTopMovesby
import Derived.BigQuiet
set_option linter.unusedVariables false
set_option linter.unusedSimpArgs false
/- Contracts and lemmas for the proofs of this seat; each theorem states its own conditions. -/
namespace Go.Proofs.YtnepdfpooobmcaaGreat
open Go.RowKit
set_option maxRecDepth 100000 in
set_option maxHeartbeats 16000000 in
theorem tmoves_walk (z0 : Int) (v v2 vp vd : Value) (la l2 : List Int) (ps ds : List (List Int)) (w : World) (hv : Seg w v 1 la.length (cI la)) (hb : ∀ z ∈ la, -9223372036854775808 ≤ z ∧ z ≤ 9223372036854775807)
    (hv2 : Seg w v2 1 l2.length (cI l2)) (hb2 : ∀ z ∈ l2, -9223372036854775808 ≤ z ∧ z ≤ 9223372036854775807) (hvp : SegLL w vp ps) (hbp : ∀ p ∈ ps, ∀ z ∈ p, -9223372036854775808 ≤ z ∧ z ≤ 9223372036854775807) (hvd : SegLL w vd ds) :
    Calls Tryz.prog 4 #[.int .i64 z0, v, v2, vp, vd] w fun e w' => e = .returned (.bool true) ∧ Ext w w' := by
  have FD := fun w' (q : Ext w w') => rfed_anyA z0 0 v v2 vp vd la l2 ps ds w' (hv.ext q) hb (hv2.ext q) hb2 (hvp.ext q) hbp (hvd.ext q)
  rw [show (wi 0 4).toNat + 1 = 1 by decide +kernel] at FD
  generalize (wi z0 4).toNat + 1 = inp at FD
  have FD := hid FD
  have PW := hid (fun w' (q : Ext w w') => pairs_fn v2 l2 w' (hv2.ext q) hb2)
  have KM := fun w' (q : Ext w w') => kMap_any v la w' (hv.ext q) hb
  obtain ⟨C0, hC0⟩ : ∃ C0, mkC la 6 = C0 := ⟨_, rfl⟩
  obtain ⟨O0, hO0⟩ : ∃ O0, mkO la 6 = O0 := ⟨_, rfl⟩
  have mok := mk_ok la
  have msm := mk_small la
  rw [hC0] at mok msm FD KM
  rw [hO0] at mok FD KM
  have KM := hid KM
  have MOK := hid (And.intro mok msm)
  clear hC0 hO0 mok msm hv hv2 hvp hbp hvd
  go_enter Tryz.func4, Tryz.ntmps4
  go_wp2_with fail
  refine (rbegun_any _).mono ?_
  rintro e w1 ⟨rfl, E1⟩
  have FD1 := hid (FD.out w1 E1)
  have HE1 := hid E1
  clear FD E1
  go_wp2_with fail
  refine (FD1.out).mono ?_
  clear FD1
  rintro e w2 ⟨vL, S0, b0, F0, cl, op, d0, w1', rfl, oS0, lS0, hSF0, hFS, hL⟩
  have hXok := hFS.ok.log
  have hXg := hFS.gd.log
  have hXl : (logM cl).length ≤ 54 := by have h1 := log_many cl op; have h2 := hFS.bd.many; omega
  have E1' := hFS.E
  generalize logM cl = X at hL hXok hXg hXl
  obtain ⟨aL, kL, rfl⟩ := hL.form
  have HL := hid hL
  have HX := hid (And.intro hXok hXg)
  have HW1 := hid (Nat.le_trans HE1.out.size' E1'.size')
  have KM1 := hid (KM.out w2 (HE1.out.trans (E1'.trans hL.E)))
  have HE2 := hid (HE1.out.trans (E1'.trans hL.E))
  clear hFS hL hXok hXg E1' HE1 KM oS0 lS0 hSF0
  go_wp2_with fail
  refine (KM1.out).mono ?_
  clear KM1
  rintro e w3 ⟨vm, rfl, om, E3⟩
  have hm := om.is
  obtain ⟨am, km, ao, ko, rfl, _, _⟩ := hm.unpack
  have PW1 := hid (PW.out w3 (HE2.out.trans E3))
  have HM := hid hm
  have HE3 := hid E3
  clear om hm E3
  go_wp2_with fail
  refine (PW1.out).mono ?_
  clear PW1
  rintro e w4 ⟨vs0, S0, rfl, oS, lS, hSF, hS, E4⟩
  obtain ⟨as0, cs0, rfl⟩ := own_form hS
  have CN := hid (cnew_okN 1 1 (by omega) (by omega) (by omega) (by omega) (.agg #[.slice am C0.length km, .slice ao O0.length ko]) (.slice as0 S0.length cs0) C0 O0 S0 w4 (HM.out.ext E4) MOK.out.1 MOK.out.2 (own_seg hS) oS (by omega))
  have HOK := hid (show CopOk 30 ⟨C0, O0, S0, 0, []⟩ from ⟨MOK.out.1, MOK.out.2, oS, by simp only; omega, rfl⟩)
  have HSR := hid (And.intro oS (And.intro lS hSF))
  have HE4 := hid (HE3.out.trans E4)
  clear hS oS lS hSF E4 HM HE3 MOK
  go_wp2_with fail
  refine (CN.out).mono ?_
  clear CN
  rintro e w5 ⟨b, F, rfl, hC, hF, E5⟩
  have PW1 := hid (PW.out w5 (HE2.out.trans (HE4.out.trans E5)))
  have HT := hid (show ∃ A es, TMo w w4 w5 F A b ⟨C0, O0, S0, 0, []⟩ X es 0 (.slice aL X.length kL) by
    obtain ⟨A, g, z⟩ := hC
    obtain ⟨es, h1, h2, h3, h4⟩ := HL.out
    have E24 := HE4.out
    have E25 := E24.trans E5
    have hw : w.heap.size ≤ w1'.heap.size := HW1.out
    have h24 := E24.size'
    refine ⟨A, es, g, z, hF, HE2.out.trans E25, own_base (own_ext h2 E25) hw, fun q hq => ?_, h1.1, fun j e x _ p q => ?_, fun e he => ?_, h4⟩
    · have := (h2.lt q hq).2; omega
    · exact ((h1.2 j e x p q).ext E25).low hw
    · obtain ⟨j, hj, rfl⟩ := List.mem_iff_getElem.1 he
      have hE := h1.2 j es[j] _ (List.getElem?_eq_getElem hj) (List.getElem?_eq_getElem (show j < X.length by have := h1.1; omega))
      exact ⟨fun q hq => by have := (hE.ops.lt q hq).2; omega, fun q hq => by have := (hE.cuts.lt q hq).2; omega, fun q hq => by have := (hE.own.lt q hq).2; omega⟩)
  have H45 := hid (And.intro E5.size' (HE2.out.trans HE4.out).size')
  have HE5 := hid (HE2.out.trans (HE4.out.trans E5))
  clear hC hF E5 HE4 HE2 HL PW
  go_wp2_with fail
  refine (PW1.out).mono ?_
  clear PW1
  rintro e w6 ⟨vs1, S', rfl, oS', _, hSF', hS', E6⟩
  obtain rfl : S' = S0 := store_ext oS' HSR.out.1 (fun x => by rw [hSF', HSR.out.2.2])
  obtain ⟨as1, cs1, rfl⟩ := own_form hS'
  have TT := hid (total_ok (.slice as1 S'.length cs1) S' w6 (own_seg hS') (store_small oS') (by have := HSR.out.2.1; omega) (storeErr_ok oS'))
  have HE6 := hid E6
  clear hS' oS' hSF' E6
  go_wp2_with fail
  refine (TT.out).mono ?_
  clear TT
  rintro e w7 ⟨rfl, E7⟩
  obtain ⟨S0, rfl⟩ : ∃ S : Prs, S = S' := ⟨_, rfl⟩
  have HT := hid (show ∃ A es, TMo w w4 w7 F A b ⟨C0, O0, S0, 0, []⟩ X es 0 (.slice aL X.length kL) by
    obtain ⟨A, es, h⟩ := HT.out
    exact ⟨A, es, h.ext (HE6.out.trans E7)⟩)
  have H47 := hid (Nat.le_trans H45.out.1 (HE6.out.trans E7).size')
  have H4 := hid H45.out.2
  clear E7 HE6 H45 HE5
  obtain ⟨tt, htt⟩ : ∃ tt, totTo S0 = tt := ⟨_, rfl⟩
  rw [htt]
  have HTT := hid htt
  clear htt
  go_wp2_with fail
  go_loopw [68] (fun kv wr => ∃ (k : Nat) (F : Nat → Prop), k ≤ X.length ∧ kv = .int .i64 k ∧ w4.heap.size ≤ wr.heap.size ∧ Hid (∃ A es, TMo w w4 wr F A b ⟨C0, O0, S0, 0, []⟩ X es k (.slice aL X.length kL))) (fun kv _ => X.length - (intOf kv).toNat)
  case atStart => exact ⟨0, F, Nat.zero_le _, rfl, H47.out, HT⟩
  case round =>
    clear HT H47
    obtain ⟨wo, rfl⟩ : ∃ wo : World, wo = wr := ⟨_, rfl⟩
    obtain ⟨k, F1, hk, rfl, hsz, hT⟩ := hrel
    by_cases hkl : k < X.length
    · obtain ⟨A, es, hM⟩ := hT.out
      obtain ⟨bX, oX, rfl, _, p1, p2, hcX⟩ := seg_cells (own_seg hM.row) (by omega)
      unfold maxLen at p2
      have hje : k < es.length := by have := hM.len; omega
      obtain ⟨x0, x1, x2, x3⟩ := cEn_at es hje
      replace x0 := hcX _ _ x0
      replace x1 : wo.cell? ⟨bX, oX + k * 4 + 1, none⟩ = _ := hcX _ _ x1
      replace x2 : wo.cell? ⟨bX, oX + k * 4 + 2, none⟩ = _ := hcX _ _ x2
      replace x3 : wo.cell? ⟨bX, oX + k * 4 + 3, none⟩ = _ := hcX _ _ x3
      have hE := hM.ents k es[k] X[k] (Nat.le_refl _) (List.getElem?_eq_getElem hje) (List.getElem?_eq_getElem hkl)
      have hek : es[k]? = some es[k] := List.getElem?_eq_getElem hje
      have hxk : X[k]? = some X[k] := List.getElem?_eq_getElem hkl
      have hyo := mvE_ok (HX.out.1 X[k] (List.getElem_mem hkl)) (HX.out.2 X[k] (List.getElem_mem hkl))
      have hop8 := (HX.out.1 X[k] (List.getElem_mem hkl)).sm.ops
      have HMY := hid (fun (wr w1 w' : World) (F' : Nat → Prop) (h : TMo w w4 wr F1 A b ⟨C0, O0, S0, 0, []⟩ X es k (.slice (some ⟨bX, oX, none⟩) X.length kL)) => h.add (w1 := w1) (w' := w') (F' := F') hkl)
      generalize X[k] = xe at hE hxk hyo HMY hop8
      generalize es[k] = ev at x0 x1 x2 x3 hE hek
      obtain ⟨v1, b1, v2', v3⟩ := ev
      have hb1 : b1 = xe.im := hE.im
      subst hb1
      dsimp only at x0 x1 x2 x3
      have hops := hE.ops
      obtain ⟨f1, g1, e1⟩ := own_form hE.ops
      obtain ⟨f2, g2, e2⟩ := own_form hE.cuts
      obtain ⟨f3, g3, e3⟩ := own_form hE.own
      dsimp only at e1 e2 e3 hops
      subst e1; subst e2; subst e3
      have EA := (Ext.refl wo).alloc (.cells #[.slice f1 xe.ops.length g1, .bool xe.im, .slice f2 xe.cuts.length g2, .slice f3 xe.own.length g3] 47)
      have bx := heap_alloc_new wo (.cells #[.slice f1 xe.ops.length g1, .bool xe.im, .slice f2 xe.cuts.length g2, .slice f3 xe.own.length g3] 47)
      obtain ⟨wA, hwA⟩ : ∃ wA, wo.alloc (.cells #[.slice f1 xe.ops.length g1, .bool xe.im, .slice f2 xe.cuts.length g2, .slice f3 xe.own.length g3] 47) = wA := ⟨_, rfl⟩
      obtain ⟨bxx, hbxx⟩ : ∃ bxx, wo.heap.size = bxx := ⟨_, rfl⟩
      rw [hwA] at EA bx
      rw [hbxx] at bx
      have k0 := blk4 bx
      have HBX := hid bx
      have HEA := hid EA
      have HMA := hid (hM.ext EA)
      have HY := hid hyo
      have HEK := hid (And.intro hek hxk)
      have hopA := own_ext hops EA
      have hszA : w4.heap.size ≤ wA.heap.size := Nat.le_trans hsz EA.size'
      have HSA := hid hszA
      have HKL := hid hkl
      by_cases hd0 : 0 < xe.ops.length
      · obtain ⟨g, rfl, hg1, hg2, hg3, hg4⟩ := own_pos hopA hd0
        have HOP := hid hopA
        have hgx : g ≠ bxx := by
          have := (hops.lt g rfl).2
          omega
        clear hM hcX hE hek hxk hyo hops EA bx hopA hsz hszA hT
        go_wp2_with fail
        go_loopw [76] (fun jv w2 => ∃ j : Nat, j ≤ xe.ops.length ∧ jv = .int .i64 j ∧ Hid (MIq wA w.heap.size g g1 xe.ops j w2)) (fun jv _ => xe.ops.length - (intOf jv).toNat)
        case atStart => exact ⟨0, Nat.zero_le _, rfl, hid ⟨by rw [mqs_zero]; exact HOP.out, World.grownBy.refl _ _⟩⟩
        case round =>
          obtain ⟨wi, rfl⟩ : ∃ wi : World, wi = wr := ⟨_, rfl⟩
          obtain ⟨j, hj, rfl, hM⟩ := hrel
          have hb2 := grown_heap hM.out.2 HBX.out (by intro e; injection e with e; exact hgx e)
          have c8 := blk4 hb2
          by_cases hjl : j < xe.ops.length
          · have hm := mqs_len xe.ops j
            obtain ⟨_, _, he, _, _, _, hcc⟩ := seg_cells (own_seg hM.out.1) (by omega)
            injection he with he; injection he with he1 he2
            subst he1; subst he2
            have hget : (mqs xe.ops j)[j]'(by omega) = xe.ops[j] := by have := mqs_at hjl; rwa [List.getElem?_eq_getElem (by omega), Option.some.injEq] at this
            obtain ⟨y0, y1, y2, y3⟩ := seg_op hcc (k := j) (by omega)
            rw [hget, Nat.zero_add] at y0 y2
            rw [show j * 4 + 1 + 1 = j * 4 + 2 from rfl] at y2
            clear hcc y1 y3 hget hm
            have f0 := own_free hM.out.1 (j * 4)
            have f2 := own_free hM.out.1 (j * 4 + 2)
            obtain ⟨m1, m2⟩ := miq_step hM.out hjl
            have M1 := hid m1
            have M2 := hid m2
            obtain ⟨n1, n2⟩ := miq_mid hM.out hjl
            clear m1 m2
            generalize hko : xe.ops[j].kind = kd at y0 M1 M2
            generalize xe.ops[j].from_ = fr at y2 n1
            clear hko hb2
            by_cases h4 : kd = 4
            · have R := hid (M1.out (.inl h4))
              have q4 : (kd != 4) = false := by simp [h4]
              subst h4
              clear M1 M2 n1 n2
              go_wp2_with fail
              go_roundw
              case rel => exact ⟨j + 1, by omega, by go_num, R⟩
              case measure => simp [intOf] <;> omega
            · have q4 : (kd != 4) = true := by simp [h4]
              by_cases h5 : kd = 5
              · have R := hid (M1.out (.inr h5))
                have q5 : (kd != 5) = false := by simp [h5]
                clear h4 h5 M1 M2 n1 n2
                go_wp2_with fail
                go_roundw
                case rel => exact ⟨j + 1, by omega, by go_num, R⟩
                case measure => simp [intOf] <;> omega
              · have R := hid (M2.out (fun q => q.elim h4 h5))
                have q5 : (kd != 5) = true := by simp [h5]
                clear h4 h5 M1 M2
                go_wp2_with fail
                go_roundw
                case rel => exact ⟨j + 1, by omega, by go_num, R⟩
                case measure => simp [intOf] <;> omega
          · obtain rfl : j = xe.ops.length := by omega
            have TU := HMA.out.turn HEK.out.1 HEK.out.2 rfl hd0 hM.out
            have HSZ := hid (Nat.le_trans HSA.out hM.out.2.size)
            clear hM hb2 HBX HOP
            have AD := hid (fun w' (q : Ext wi w') => cadd_oneE (TU.1.ext q) (.slice (some ⟨g, 0, none⟩) xe.ops.length g1, xe.im, .slice f2 xe.cuts.length g2, .slice f3 xe.own.length g3) (mvE xe) (TU.2.1.seg.ext q) HY.out (by rw [List.length_take]; have := HKL.out; omega))
            have c0 := TU.1.cells.1
            have HTU := hid TU
            clear TU
            go_wp2_with fail
            refine wp_region_ph [.k (.pointer (some ⟨b, 0, none⟩)), .k (.pointer (some ⟨b, 0, none⟩)), .k (.pointer (some ⟨b, 0, none⟩)), .k (.pointer (some ⟨A.bm, 0, none⟩)), .k (.agg #[.slice (some ⟨g, 0, none⟩) xe.ops.length g1, .bool xe.im, .slice f2 xe.cuts.length g2, .slice f3 xe.own.length g3])] [] (by kernel_rfl) (by kernel_rfl) (by kernel_rfl) rfl rfl ?hs ?hC ?he
            case hC =>
              intro i hi
              simp at hi
            case hs =>
              refine ⟨?_, ?_, ?_, ?_, ?_, trivial⟩
              all_goals (
                intro x w' hE hd
                try simp [PhDeps, at_k, at_p, at_t, at_any, Region.binds] at hd
                try ((with_reducible refine Exists.elim hd ?_); clear hd; intro y hd; obtain ⟨hd, hG⟩ := hd)
                have d1 := hE.cell c0
                have d2 := hE.cell c8.1
                have d3 := hE.cell c8.2.1
                have d4 := hE.cell c8.2.2.1
                have d5 := hE.cell c8.2.2.2
                first | simp only [frL, List.length_cons, List.length_nil, List.take_succ_cons, List.take_zero, Nat.reduceAdd, Nat.zero_add, List.setIfInBounds_toArray, List.set_cons_zero, List.set_cons_succ, hd] | simp only [frL, List.length_cons, List.length_nil, List.take_succ_cons, List.take_zero, Nat.reduceAdd, Nat.zero_add, List.setIfInBounds_toArray, List.set_cons_zero, List.set_cons_succ]
                go_wp2
                all_goals first
                  | ((with_reducible refine phK ?_ ?_); (focus rfl); (repeat (first | (with_reducible assumption) | (with_reducible exact Ext.refl _) | (with_reducible refine Ext.drew ?_) | (with_reducible refine Ext.drewN ?_ _) | (with_reducible refine Ext.alloc ?_ _) | (with_reducible refine Ext.trans ?_ (by with_reducible assumption)))))
                  | ((with_reducible refine phT rfl hG ?_); (repeat (first | (with_reducible assumption) | (with_reducible exact Ext.refl _) | (with_reducible refine Ext.drew ?_) | (with_reducible refine Ext.drewN ?_ _) | (with_reducible refine Ext.alloc ?_ _) | (with_reducible refine Ext.trans ?_ (by with_reducible assumption)))))
                  | ((with_reducible refine phU hG ?_); (repeat (first | (with_reducible assumption) | (with_reducible exact Ext.refl _) | (with_reducible refine Ext.drew ?_) | (with_reducible refine Ext.drewN ?_ _) | (with_reducible refine Ext.alloc ?_ _) | (with_reducible refine Ext.trans ?_ (by with_reducible assumption)))))
                  | (with_reducible exact phBox hE)
                  | (with_reducible exact phRow hE))
            case he =>
              intro x wq Eq hd
              simp [PhEnd, at_k, at_p, at_t, at_any] at hd
              simp only [frL, List.length_cons, List.length_nil, List.take_succ_cons, List.take_zero, Nat.reduceAdd, Nat.zero_add, List.setIfInBounds_toArray, List.set_cons_zero, List.set_cons_succ, hd, List.length_cons, List.length_nil, List.drop_succ_cons, List.drop_zero]
              clear hd
              have AD1 := hid (AD.out wq Eq)
              have HEq := hid Eq
              clear AD c0 c8 Eq
              go_wp2_with fail
              refine (AD1.out).mono ?_
              clear AD1
              rintro e w7 ⟨rfl, F2, hC2, K2⟩
              have K2 := Kp.after HEq.out K2
              have hz7 := K2.size
              have HR := hid (HMY.out wA wi w7 F2 HMA.out HTU.out.2.2.1 HTU.out.1.ty HTU.out.2.2.2.1 HTU.out.2.2.2.2 hC2 K2 (by have := HSZ.out; omega) H4.out)
              have HS7 := hid (show w4.heap.size ≤ w7.heap.size by have := HSZ.out; omega)
              clear hC2 K2 hz7
              go_wp2_with fail
              go_roundw
              case rel => exact ⟨k + 1, F2, by omega, by go_num, HS7.out, hid (by obtain ⟨A', h⟩ := HR.out; exact ⟨A', es, h⟩)⟩
              case measure => simp [intOf] <;> omega
      · have hnl : xe.ops = [] := List.length_eq_zero_iff.1 (by omega)
        have hme : mvE xe = xe := by
          obtain ⟨o1, o2, o3, o4⟩ := xe
          simp only at hnl
          subst hnl
          rfl
        have q0 : ¬ ((0 : Int) < (xe.ops.length : Int)) := by omega
        have HTU0 := hid (show CopG wA F1 b A [[]] [(mvY X).take k] (List.replicate 1 ⟨C0, O0, S0, 0, []⟩) ∧ EntSt w.heap.size wA (.slice f1 xe.ops.length g1, xe.im, .slice f2 xe.cuts.length g2, .slice f3 xe.own.length g3) (mvE xe) ∧ Ext w wA ∧ wA.ownsRow w.heap.size 47 4 (.slice (some ⟨bX, oX, none⟩) X.length kL) X.length (cEn es) ∧ (∀ j e x, k + 1 ≤ j → es[j]? = some e → X[j]? = some x → EntSt w.heap.size wA e x) by
          rw [hme]
          exact ⟨HMA.out.g, hE.ext EA, HMA.out.E, HMA.out.row, fun j e x hj p q => HMA.out.ents j e x (by omega) p q⟩)
        clear hM hcX hE hek hxk hyo hops EA bx hopA hsz hszA hT hd0 hnl hme
        go_wp2_with fail
        go_loopw [76] (fun jv w2 => jv = .int .i64 0 ∧ wA = w2) (fun _ _ => 0)
        case atStart => exact ⟨rfl, rfl⟩
        case round =>
          obtain ⟨rfl, rfl⟩ := hrel
          have c8 := blk4 HBX.out
          have TU := HTU0.out
          have HSZ := HSA
          clear HBX HTU0
          have AD := hid (fun w' (q : Ext wA w') => cadd_oneE (TU.1.ext q) (.slice f1 xe.ops.length g1, xe.im, .slice f2 xe.cuts.length g2, .slice f3 xe.own.length g3) (mvE xe) (TU.2.1.seg.ext q) HY.out (by rw [List.length_take]; have := HKL.out; omega))
          have c0 := TU.1.cells.1
          have HTU := hid TU
          clear TU
          go_wp2_with fail
          refine wp_region_ph [.k (.pointer (some ⟨b, 0, none⟩)), .k (.pointer (some ⟨b, 0, none⟩)), .k (.pointer (some ⟨b, 0, none⟩)), .k (.pointer (some ⟨A.bm, 0, none⟩)), .k (.agg #[.slice f1 xe.ops.length g1, .bool xe.im, .slice f2 xe.cuts.length g2, .slice f3 xe.own.length g3])] [] (by kernel_rfl) (by kernel_rfl) (by kernel_rfl) rfl rfl ?hs ?hC ?he
          case hC =>
            intro i hi
            simp at hi
          case hs =>
            refine ⟨?_, ?_, ?_, ?_, ?_, trivial⟩
            all_goals (
              intro x w' hE hd
              try simp [PhDeps, at_k, at_p, at_t, at_any, Region.binds] at hd
              try ((with_reducible refine Exists.elim hd ?_); clear hd; intro y hd; obtain ⟨hd, hG⟩ := hd)
              have d1 := hE.cell c0
              have d2 := hE.cell c8.1
              have d3 := hE.cell c8.2.1
              have d4 := hE.cell c8.2.2.1
              have d5 := hE.cell c8.2.2.2
              first | simp only [frL, List.length_cons, List.length_nil, List.take_succ_cons, List.take_zero, Nat.reduceAdd, Nat.zero_add, List.setIfInBounds_toArray, List.set_cons_zero, List.set_cons_succ, hd] | simp only [frL, List.length_cons, List.length_nil, List.take_succ_cons, List.take_zero, Nat.reduceAdd, Nat.zero_add, List.setIfInBounds_toArray, List.set_cons_zero, List.set_cons_succ]
              go_wp2
              all_goals first
                | ((with_reducible refine phK ?_ ?_); (focus rfl); (repeat (first | (with_reducible assumption) | (with_reducible exact Ext.refl _) | (with_reducible refine Ext.drew ?_) | (with_reducible refine Ext.drewN ?_ _) | (with_reducible refine Ext.alloc ?_ _) | (with_reducible refine Ext.trans ?_ (by with_reducible assumption)))))
                | ((with_reducible refine phT rfl hG ?_); (repeat (first | (with_reducible assumption) | (with_reducible exact Ext.refl _) | (with_reducible refine Ext.drew ?_) | (with_reducible refine Ext.drewN ?_ _) | (with_reducible refine Ext.alloc ?_ _) | (with_reducible refine Ext.trans ?_ (by with_reducible assumption)))))
                | ((with_reducible refine phU hG ?_); (repeat (first | (with_reducible assumption) | (with_reducible exact Ext.refl _) | (with_reducible refine Ext.drew ?_) | (with_reducible refine Ext.drewN ?_ _) | (with_reducible refine Ext.alloc ?_ _) | (with_reducible refine Ext.trans ?_ (by with_reducible assumption)))))
                | (with_reducible exact phBox hE)
                | (with_reducible exact phRow hE))
          case he =>
            intro x wq Eq hd
            simp [PhEnd, at_k, at_p, at_t, at_any] at hd
            simp only [frL, List.length_cons, List.length_nil, List.take_succ_cons, List.take_zero, Nat.reduceAdd, Nat.zero_add, List.setIfInBounds_toArray, List.set_cons_zero, List.set_cons_succ, hd, List.length_cons, List.length_nil, List.drop_succ_cons, List.drop_zero]
            clear hd
            have AD1 := hid (AD.out wq Eq)
            have HEq := hid Eq
            clear AD c0 c8 Eq
            go_wp2_with fail
            refine (AD1.out).mono ?_
            clear AD1
            rintro e w7 ⟨rfl, F2, hC2, K2⟩
            have K2 := Kp.after HEq.out K2
            have hz7 := K2.size
            have HR := hid (HMY.out wA wA w7 F2 HMA.out HTU.out.2.2.1 HTU.out.1.ty HTU.out.2.2.2.1 HTU.out.2.2.2.2 hC2 K2 (by have := HSZ.out; omega) H4.out)
            have HS7 := hid (show w4.heap.size ≤ w7.heap.size by have := HSZ.out; omega)
            clear hC2 K2 hz7
            go_wp2_with fail
            go_roundw
            case rel => exact ⟨k + 1, F2, by omega, by go_num, HS7.out, hid (by obtain ⟨A', h⟩ := HR.out; exact ⟨A', es, h⟩)⟩
            case measure => simp [intOf] <;> omega
    · obtain rfl : k = X.length := by omega
      have hYo := mvY_ok HX.out.1 HX.out.2
      have hYk := mvY_kind HX.out.2
      have hYl := mvY_len X
      obtain ⟨A, es, hM⟩ := hT.out
      have hG := hM.g
      rw [List.take_of_length_le (by rw [hYl]; exact Nat.le_refl _)] at hG
      have hE := hM.E
      have hF := hM.low
      generalize mvY X = Y at hYo hYk hYl hG
      have c0 := hG.cells.1
      have CL := hid (cclose_one hG)
      have HX1 := hid (show OneX ⟨C0, O0, S0, 0, []⟩ Y from ⟨HOK.out, rfl, hYo, by omega⟩)
      have HTO := hid (fun (q : Nat) (hq : q ≤ Y.length) => goC_tot HOK.out hYo hYk hq)
      have HYL := hid hYl
      have HEF := hid (And.intro hE (fun q hq => Nat.le_trans H4.out (hF q hq)))
      clear hYo hYk hYl hG hE hF hM hT
      go_wp2_with fail
      refine (CL.out).mono ?_
      clear CL c0
      rintro e w6 ⟨rfl, F6, hC6, K6⟩
      rw [kd_rep _ Y] at hC6
      have HC6 := hid hC6
      have HEF := hid (K6.low HEF.out.1 HEF.out.2)
      clear hC6 K6
      go_wp2_with fail
      go_loopw [123] (fun kv wr => ∃ (k : Nat) (F : Nat → Prop), k ≤ X.length ∧ kv = .int .i64 k ∧ Hid (CopSt wr F b [[Y]] [[]] (KD ⟨C0, O0, S0, 0, []⟩ Y 1 fun _ => k)) ∧ Hid (Ext w wr ∧ ∀ q, F q → w.heap.size ≤ q)) (fun kv _ => X.length - (intOf kv).toNat)
      case atStart => exact ⟨0, F6, Nat.zero_le _, rfl, HC6, HEF⟩
      case round =>
        clear HC6 HEF
        obtain ⟨wq, rfl⟩ : ∃ wq : World, wq = wr := ⟨_, rfl⟩
        obtain ⟨k, F7, hk, rfl, hC, hEF⟩ := hrel
        by_cases hkl : k < X.length
        · have ST := hid (step_kd HX1.out hC.out (i := 0) (by omega) (by have := HYL.out; omega))
          go_wp2_with fail
          refine (ST.out).mono ?_
          clear ST
          rintro e w8 ⟨rfl, F8, hC8, K8⟩
          have hC9 : CopSt w8 F8 b [[Y]] [[]] (KD ⟨C0, O0, S0, 0, []⟩ Y 1 fun _ => k + 1) := by
            rw [kd_congr _ Y (n := 1) (d := upD (fun _ => k) 0 (k + 1)) (d' := fun _ => k + 1) (fun i hi => by unfold upD; rw [if_pos (by omega)])] at hC8
            exact hC8
          have AL := hid (all_kd HX1.out hC9 (i := 0) (by omega) (by have := HYL.out; omega))
          have HC9 := hid hC9
          have HEF8 := hid (K8.low hEF.out.1 hEF.out.2)
          have hto := HTO.out (k + 1) (by have := HYL.out; omega)
          obtain ⟨o1, o2, o3, o4, o5⟩ := goC_le HX1.out.ok HX1.out.dn HX1.out.x HX1.out.len (by omega) (show k + 1 ≤ Y.length by have := HYL.out; omega)
          generalize goC ⟨C0, O0, S0, 0, []⟩ Y (k + 1) = ck at AL hto o1 o3
          have HO := hid (And.intro o1 o3)
          have HTO1 := hid hto
          clear hC8 hC9 K8 hC hEF hto o1 o2 o3 o4 o5
          go_wp2_with fail
          refine (AL.out).mono ?_
          clear AL
          rintro e w9 ⟨v9, rfl, ho9, E9⟩
          obtain ⟨a9, k9, rfl⟩ := own_form ho9
          have TT := total_ok (.slice a9 ck.S.length k9) ck.S w9 (own_seg ho9) (store_small HO.out.1.sto) (by have := HO.out.2; omega) (storeErr_ok HO.out.1.sto)
          rw [HTO1.out, HTT.out] at TT
          have TT := hid TT
          have HC9 := hid (HC9.out.ext E9)
          have HEF9 := hid (And.intro (HEF8.out.1.trans E9) HEF8.out.2)
          clear ho9 E9 HEF8
          go_wp2_with fail
          refine (TT.out).mono ?_
          clear TT
          rintro e w10 ⟨rfl, E10⟩
          have HC10 := hid (HC9.out.ext E10)
          have HEF10 := hid (And.intro (HEF9.out.1.trans E10) HEF9.out.2)
          clear E10 HC9 HEF9
          go_wp2_with fail
          go_roundw
          case rel => exact ⟨k + 1, F8, by omega, by go_num, HC10, HEF10⟩
          case measure => simp [intOf] <;> omega
        · go_wp2
          go_ret
          exact ⟨rfl, hEF.out.1⟩
end Go.Proofs.YtnepdfpooobmcaaGreat
