/- Contracts and lemmas for the proof of TopLog; each theorem states its own conditions. -/
import Derived.Test.YtddghaoejnbkaaaGreatDoorQTopLogbt
import Derived.Test.YtddghaoejnbkaaaGreatDoorQTopLogbi
import Derived.Test.YtddghaoejnbkaaaGreatDoorQTopLogay
import Derived.Test.YtddghaoejnbkaaaGreatDoorQTopLogah
import Derived.Test.YtddghaoejnbkaaaGreatDoorQTopLogbu
import Derived.Test.YtddghaoejnbkaaaGreatDoorQTopLogbl
import Derived.Test.YtddghaoejnbkaaaGreatDoorQTopLogbv
import Derived.Test.YtddghaoejnbkaaaGreatDoorQTopLogbx
import Derived.Test.YtddghaoejnbkaaaGreatDoorQTopLogby
import Derived.BigQuiet
import Derived.Test.YtddghaoejnbkaaaGreatDoorRows
import Derived.Test.YtddghaoejnbkaaaGreatDoorQTopLogap
import Derived.Test.YtddghaoejnbkaaaGreatDoorQTopLogbq
import Derived.Deep.SlicePairs
import Derived.Test.YtddghaoejnbkaaaGreatDoorQTopLogbg
import Derived.Test.YtddghaoejnbkaaaGreatDoorQTopLogag
import Derived.Deep.Strs
import Derived.Deep.Matrix
import Derived.Lib.SmallJoins
import Derived.Test.YtddghaoejnbkaaaGreatDoorQTopLogai
import Derived.Stop.LaidErr
import Derived.Lib.LaidTab
import Derived.Shelf.Vars
set_option linter.unusedVariables false
set_option linter.unusedSimpArgs false
/- Contracts and lemmas for the proofs of this seat; each theorem states its own conditions. -/
namespace Go.Proofs.YtddghaoejnbkaaaGreatDoor
open Go.RowKit
/-! copies that go on: their contracts -/
end Go.Proofs.YtddghaoejnbkaaaGreatDoor

/- Contracts and lemmas for the proofs of this seat; each theorem states its own conditions. -/
namespace Go.Proofs.YtddghaoejnbkaaaGreatDoor
open Go.RowKit
end Go.Proofs.YtddghaoejnbkaaaGreatDoor

/- Contracts and lemmas for the proofs of this seat; each theorem states its own conditions. -/
namespace Go.Proofs.YtddghaoejnbkaaaGreatDoor
open Go.RowKit
/-! what lies beside copies that go on; rotop.begun -/
structure OneK (w : World) (F : Nat → Prop) (B bM : Nat) (sv ov u1 u2 : Value) (c : Cop) : Prop where
  one : OneS w B bM sv ov u1 u2 c
  own : Off F u2
  ok : Off F ov
theorem OneK.ext {w w' : World} {F : Nat → Prop} {B bM : Nat} {sv ov u1 u2 : Value} {c : Cop} (h : OneK w F B bM sv ov u1 u2 c) (E : Ext w w') : OneK w' F B bM sv ov u1 u2 c := ⟨h.one.ext E, h.own, h.ok⟩
theorem OneK.kp {w w' : World} {F F' : Nat → Prop} {B bM : Nat} {sv ov u1 u2 : Value} {c : Cop} (h : OneK w F B bM sv ov u1 u2 c) (ty : TyS w F cTy) (k : Kp F w w' F') : OneK w' F' B bM sv ov u1 u2 c :=
  ⟨⟨k.own h.one.s (ty.off h.one.s (by decide)), k.heap h.one.box (tyS_not ty h.one.box (by decide)), k.own h.one.cuts (ty.off h.one.cuts (by decide)), k.own h.one.own h.own, k.own h.one.ok h.ok⟩, k.off h.one.own h.own, k.off h.one.ok h.ok⟩
theorem rb_lit : keyB ⟨#[97]⟩ = true ∧ (withP [] ⟨#[97]⟩ 1).length = 1 := by decide +kernel
set_option maxRecDepth 100000 in
theorem rbegun_any (w : World) : Calls Tryz.prog 7 #[] w fun e w' => e = .returned (.bool true) ∧ Ext w w' := by
  have PO := put_ok' (.slice none 0 0) [] ⟨#[97]⟩ 1 w (Seg.nil _ _) (by simp) (store_ok (by decide +kernel)) rb_lit.1 (by omega)
  rw [rb_lit.2] at PO
  have PO := hid PO
  go_enter Tryz.func7, Tryz.ntmps7
  go_wp2_with fail
  refine (PO.out).mono ?_
  clear PO
  rintro e w1 ⟨v', rfl, o, E⟩
  obtain ⟨a, c, rfl⟩ := own_form o
  clear o
  go_wp2
  go_ret
  exact ⟨rfl, E⟩
end Go.Proofs.YtddghaoejnbkaaaGreatDoor

/- Contracts and lemmas for the proofs of this seat; each theorem states its own conditions. -/
namespace Go.Proofs.YtddghaoejnbkaaaGreatDoor
open Go.RowKit
set_option maxRecDepth 100000 in
set_option maxHeartbeats 16000000 in
theorem toplog_walk (z0 : Int) (v v2 vp vd : Value) (la l2 : List Int) (ps ds : List (List Int)) (cut : Int) (w : World) (LT : LaidT w) (hv : Seg w v 1 la.length (cI la)) (hb : ∀ z ∈ la, -9223372036854775808 ≤ z ∧ z ≤ 9223372036854775807)
    (hv2 : Seg w v2 1 l2.length (cI l2)) (hb2 : ∀ z ∈ l2, -9223372036854775808 ≤ z ∧ z ≤ 9223372036854775807) (hvp : SegLL w vp ps) (hbp : ∀ p ∈ ps, ∀ z ∈ p, -9223372036854775808 ≤ z ∧ z ≤ 9223372036854775807) (hvd : SegLL w vd ds) :
    Calls Tryz.prog 3 #[.int .i64 z0, v, v2, vp, vd, .int .i64 cut] w fun e w' => e = .returned (.bool true) ∧ Ext w w' := by
  have FD := fun w' (q : Ext w w') => rfed_anyA z0 0 v v2 vp vd la l2 ps ds w' (hv.ext q) hb (hv2.ext q) hb2 (hvp.ext q) hbp (hvd.ext q)
  rw [show (wi 0 4).toNat + 1 = 1 by decide +kernel] at FD
  generalize (wi z0 4).toNat + 1 = inp at FD
  have FD := hid FD
  have PW := hid (fun w' (q : Ext w w') => pairs_fn v2 l2 w' (hv2.ext q) hb2)
  have KM := fun w' (q : Ext w w') => kMap_any v la w' (hv.ext q) hb
  obtain ⟨C0, hC0⟩ : ∃ C0, mkC la 6 = C0 := ⟨_, rfl⟩
  obtain ⟨O0, hO0⟩ : ∃ O0, mkO la 6 = O0 := ⟨_, rfl⟩
  have mok := mk_ok la
  have msm := mk_small la
  rw [hC0] at mok msm FD KM
  rw [hO0] at mok FD KM
  have KM := hid KM
  have MOK := hid (And.intro mok msm)
  have LT := hid LT
  clear hC0 hO0 mok msm hv hv2 hvp hbp hvd
  go_enter Tryz.func3, Tryz.ntmps3
  go_wp2_with fail
  refine (rbegun_any _).mono ?_
  rintro e w1 ⟨rfl, E1⟩
  have FD1 := hid (FD.out w1 E1)
  have HE1 := hid E1
  clear FD E1
  go_wp2_with fail
  refine (FD1.out).mono ?_
  clear FD1
  rintro e w2 ⟨vL, S0, b0, F0, cl, op, d0, w1', rfl, oS0, lS0, hSF0, hFS, hL⟩
  have hXok := hFS.ok.log
  have hXg := hFS.gd.log
  have hXl : (logM cl).length ≤ 54 := by have h1 := log_many cl op; have h2 := hFS.bd.many; omega
  have E1' := hFS.E
  generalize logM cl = X at hL hXok hXg hXl
  obtain ⟨aL, kL, rfl⟩ := hL.form
  have HE2 := hid (HE1.out.trans (E1'.trans hL.E))
  have HLK := hid (show ∀ (F : Nat → Prop) (w' : World), Ext w2 w' → (∀ q, F q → w2.heap.size ≤ q) → EntsK w' F (.slice aL X.length kL) X by
    obtain ⟨es, h1, h2, _, _⟩ := hL
    exact fun F w' q hF => ents_beside h1 h2 q hF)
  have HX := hid hXok
  have HXL := hid (show ∀ x ∈ X, EntL x from fun x hx => entL_of (hXok x hx) (hXg x hx))
  have KM1 := hid (KM.out w2 HE2.out)
  clear hFS hL hXok hXg E1' HE1 oS0 lS0 hSF0
  go_wp2_with fail
  refine (KM1.out).mono ?_
  clear KM1
  rintro e w3 ⟨vm, rfl, om, E3⟩
  have hm := om.is
  obtain ⟨am, km, ao, ko, rfl, _, _⟩ := hm.unpack
  have PW1 := hid (PW.out w3 (HE2.out.trans E3))
  have HM := hid hm
  have HE3 := hid E3
  clear om hm E3
  go_wp2_with fail
  refine (PW1.out).mono ?_
  clear PW1
  rintro e w4 ⟨vs0, S0, rfl, oS, lS, hSF, hS, E4⟩
  obtain ⟨as0, cs0, rfl⟩ := own_form hS
  have CN := hid (cnew_okN 1 1 (by omega) (by omega) (by omega) (by omega) (.agg #[.slice am C0.length km, .slice ao O0.length ko]) (.slice as0 S0.length cs0) C0 O0 S0 w4 (HM.out.ext E4) MOK.out.1 MOK.out.2 (own_seg hS) oS (by omega))
  have HOK := hid (show CopOk 30 ⟨C0, O0, S0, 0, []⟩ from ⟨MOK.out.1, MOK.out.2, oS, by simp only; omega, rfl⟩)
  have HSR := hid (And.intro oS (And.intro lS hSF))
  have HE4 := hid (HE3.out.trans E4)
  clear hS oS lS hSF E4 HM HE3
  go_wp2_with fail
  refine (CN.out).mono ?_
  clear CN
  rintro e w5 ⟨b, F, rfl, hC, hF, E5⟩
  have HT := hid (show TLa w w5 F b ⟨C0, O0, S0, 0, []⟩ X 0 (.slice aL X.length kL) from ⟨hC.st, HLK.out F w5 (HE4.out.trans E5) (fun q hq => Nat.le_trans HE4.out.size' (hF q hq)), HE2.out.trans (HE4.out.trans E5), fun q hq => Nat.le_trans (HE2.out.trans HE4.out).size' (hF q hq)⟩)
  clear hC hF E5 HE4 HE2 HLK
  go_wp2_with fail
  go_loopw [18, 69] (fun sv kv wr => ∃ (k : Nat) (F : Nat → Prop), k ≤ X.length ∧ kv = .int .i64 k ∧ sv = .string (logS X k) ∧ Hid (TLa w wr F b ⟨C0, O0, S0, 0, []⟩ X k (.slice aL X.length kL))) (fun _ kv _ => X.length - (intOf kv).toNat)
  case atStart => exact ⟨0, F, Nat.zero_le _, rfl, by rw [logS_zero], HT⟩
  case round =>
    clear HT
    obtain ⟨wo, rfl⟩ : ∃ wo : World, wo = wr := ⟨_, rfl⟩
    obtain ⟨k, F1, hk, rfl, rfl, hT⟩ := hrel
    by_cases hkl : k < X.length
    · obtain ⟨⟨A, hG⟩, hK, hE, hF⟩ := hT.out
      obtain ⟨bX, oX, rfl, p1, p2⟩ := hK.seg.addr (by omega)
      obtain ⟨ev, hev, x0, x1, x2, x3⟩ := hK.at hkl
      have hxo := HX.out X[k] (List.getElem_mem hkl)
      have hxl := HXL.out X[k] (List.getElem_mem hkl)
      have HST := hid (logS_succ hkl hxl.ok)
      have HIN := hid (tlA_succ hkl)
      have z1 := logS_size HXL.out hk
      have z2 := entS_size hxl
      have HKK := hid hK
      generalize X[k] = xe at hev hxo hxl HST HIN z2
      obtain ⟨v1, b1, v2', v3⟩ := ev
      have hb1 : b1 = xe.im := hev.im
      subst hb1
      dsimp only at x0 x1 x2 x3
      have hsg := hev.seg
      obtain ⟨f1, g1, e1⟩ := own_form hev.ops
      obtain ⟨f2, g2, e2⟩ := own_form hev.cuts
      obtain ⟨f3, g3, e3⟩ := own_form hev.own
      dsimp only at e1 e2 e3
      subst e1; subst e2; subst e3
      have EA := (Ext.refl wo).alloc (.cells #[.slice f1 xe.ops.length g1, .bool xe.im, .slice f2 xe.cuts.length g2, .slice f3 xe.own.length g3] 42)
      have bx := heap_alloc_new wo (.cells #[.slice f1 xe.ops.length g1, .bool xe.im, .slice f2 xe.cuts.length g2, .slice f3 xe.own.length g3] 42)
      obtain ⟨wA, hwA⟩ : ∃ wA, wo.alloc (.cells #[.slice f1 xe.ops.length g1, .bool xe.im, .slice f2 xe.cuts.length g2, .slice f3 xe.own.length g3] 42) = wA := ⟨_, rfl⟩
      obtain ⟨bxx, hbxx⟩ : ∃ bxx, wo.heap.size = bxx := ⟨_, rfl⟩
      rw [hwA] at EA bx
      rw [hbxx] at bx
      have k0 := blk4 bx
      have HBX := hid bx
      have TE := tentry_any _ xe wA (LT.out.ext (hE.trans EA)) (hsg.ext EA) hxl.sz hxl.n
      rw [hxl.ok] at TE
      have TE := hid TE
      have HEA := hid EA
      have HE := hid hE
      have HF := hid hF
      have HG := hid hG
      have HSG := hid hsg
      have HXO := hid hxo
      have HKL := hid hkl
      have z3 : ¬ 9223372036854775807 < (logS X k).size + (entS xe).size := by omega
      generalize entS xe = t at TE HST z2 z3
      clear hev hxo hxl hK hE hF hG hsg EA bx hT
      go_wp2_with fail
      refine (TE.out).mono ?_
      clear TE
      rintro r w4 ⟨rfl, E4⟩
      have E04 := HEA.out.trans E4
      have hG4 := HG.out.ext E04
      have c0 := hG4.cells.1
      have c8 := blk4 (E4.heap HBX.out)
      have AD := hid (fun w' (q : Ext w4 w') => cadd_oneE (hG4.ext q) (.slice f1 xe.ops.length g1, xe.im, .slice f2 xe.cuts.length g2, .slice f3 xe.own.length g3) xe (HSG.out.ext (E04.trans q)) HXO.out (by rw [List.length_map, List.length_take]; have := HKL.out; omega))
      have HE04 := hid E04
      have HTY := hid hG4.ty
      clear hG4 E04 E4 HBX HSG HEA HG k0
      go_wp2_with fail
      refine wp_region_ph [.k (.int .i64 0), .k (.bool false), .k (.bool false), .k (.pointer (some ⟨b, 0, none⟩)), .k (.pointer (some ⟨b, 0, none⟩)), .k (.pointer (some ⟨b, 0, none⟩)), .k (.pointer (some ⟨A.bm, 0, none⟩)), .k (.agg #[.slice f1 xe.ops.length g1, .bool xe.im, .slice f2 xe.cuts.length g2, .slice f3 xe.own.length g3])] [] (by kernel_rfl) (by kernel_rfl) (by kernel_rfl) rfl rfl ?hs ?hC ?he
      case hC =>
        intro i hi
        simp at hi
      case hs =>
        refine ⟨?_, ?_, ?_, ?_, ?_, ?_, ?_, ?_, trivial⟩
        all_goals (
          intro x w' hE hd
          try simp [PhDeps, at_k, at_p, at_t, at_any, Region.binds] at hd
          try ((with_reducible refine Exists.elim hd ?_); clear hd; intro y hd; obtain ⟨hd, hG⟩ := hd)
          have d1 := hE.cell c0
          have d2 := hE.cell c8.1
          have d3 := hE.cell c8.2.1
          have d4 := hE.cell c8.2.2.1
          have d5 := hE.cell c8.2.2.2
          first | simp only [frL, List.length_cons, List.length_nil, List.take_succ_cons, List.take_zero, Nat.reduceAdd, Nat.zero_add, List.setIfInBounds_toArray, List.set_cons_zero, List.set_cons_succ, hd] | simp only [frL, List.length_cons, List.length_nil, List.take_succ_cons, List.take_zero, Nat.reduceAdd, Nat.zero_add, List.setIfInBounds_toArray, List.set_cons_zero, List.set_cons_succ]
          go_wp2
          all_goals first
            | ((with_reducible refine phK ?_ ?_); (focus rfl); (repeat (first | (with_reducible assumption) | (with_reducible exact Ext.refl _) | (with_reducible refine Ext.drew ?_) | (with_reducible refine Ext.drewN ?_ _) | (with_reducible refine Ext.alloc ?_ _) | (with_reducible refine Ext.trans ?_ (by with_reducible assumption)))))
            | ((with_reducible refine phT rfl hG ?_); (repeat (first | (with_reducible assumption) | (with_reducible exact Ext.refl _) | (with_reducible refine Ext.drew ?_) | (with_reducible refine Ext.drewN ?_ _) | (with_reducible refine Ext.alloc ?_ _) | (with_reducible refine Ext.trans ?_ (by with_reducible assumption)))))
            | ((with_reducible refine phU hG ?_); (repeat (first | (with_reducible assumption) | (with_reducible exact Ext.refl _) | (with_reducible refine Ext.drew ?_) | (with_reducible refine Ext.drewN ?_ _) | (with_reducible refine Ext.alloc ?_ _) | (with_reducible refine Ext.trans ?_ (by with_reducible assumption)))))
            | (with_reducible exact phBox hE)
            | (with_reducible exact phRow hE))
      case he =>
        intro x wq Eq hd
        simp [PhEnd, at_k, at_p, at_t, at_any] at hd
        simp only [frL, List.length_cons, List.length_nil, List.take_succ_cons, List.take_zero, Nat.reduceAdd, Nat.zero_add, List.setIfInBounds_toArray, List.set_cons_zero, List.set_cons_succ, hd, List.length_cons, List.length_nil, List.drop_succ_cons, List.drop_zero]
        clear hd
        have AD1 := hid (AD.out wq Eq)
        have HEq := hid (HE04.out.trans Eq)
        have HTQ := hid (HTY.out.ext Eq)
        clear AD c0 c8 Eq HTY
        go_wp2_with fail
        refine (AD1.out).mono ?_
        clear AD1
        rintro e w7 ⟨rfl, F2, hC2, K2⟩
        have HR := hid (show TLa w w7 F2 b ⟨C0, O0, S0, 0, []⟩ X (k + 1) (.slice (some ⟨bX, oX, none⟩) X.length kL) by
          have E' := K2.low (HE.out.trans HEq.out) HF.out
          exact ⟨by rw [HIN.out]; exact hC2.st, (HKK.out.ext HEq.out).kp HTQ.out K2, E'.1, E'.2⟩)
        clear hC2 K2
        go_wp2_with fail
        go_roundw
        case rel => exact ⟨k + 1, F2, by omega, by go_num, by rw [HST.out], HR⟩
        case measure => simp [intOf] <;> omega
    · obtain rfl : k = X.length := by omega
      obtain ⟨⟨A, hG⟩, _, hE, hF⟩ := hT.out
      rw [List.take_length] at hG
      have c0 := hG.cells.1
      have CL := hid (cclose_oneE hG)
      have HEF := hid (And.intro hE hF)
      have hTs := logS_size HXL.out (Nat.le_refl X.length)
      have hTd : (logS X X.length).data.toList = logT X := by rw [logS_all, bA_toL]
      generalize logS X X.length = T at hTs hTd ⊢
      have HTD := hid hTd
      clear hG hE hF hT hTd
      go_wp2_with fail
      refine (CL.out).mono ?_
      clear CL c0
      rintro e w6 ⟨rfl, F6, ⟨A6, hG6, _⟩, K6⟩
      obtain ⟨E6, hF6⟩ := K6.low HEF.out.1 HEF.out.2
      have HG6 := hid hG6
      have HE6 := hid E6
      have HF6 := hid hF6
      clear hG6 K6 E6 hF6 HEF
      by_cases hbig : 20000 < T.size
      · have q : (20000 : Int) < (T.size : Int) := by omega
        clear hbig
        go_wp2
        go_ret
        exact ⟨rfl, HE6.out⟩
      · have q : ¬ (20000 : Int) < (T.size : Int) := by omega
        have q1 : decide ((20000 : Int) < (T.size : Int)) = false := decide_eq_false q
        have hTl : (logT X).length = T.size := by rw [← HTD.out, toL_len]
        obtain ⟨k, hk1, hk2⟩ : ∃ k : Nat, wi cut ((T.size : Int) + 1) = k ∧ k ≤ T.size := ⟨(wi cut ((T.size : Int) + 1)).toNat, by have := wi_lo (k := cut) (n := (T.size : Int) + 1) (by omega); omega, by have := wi_hi (k := cut) (n := (T.size : Int) + 1) (by omega); have := wi_lo (k := cut) (n := (T.size : Int) + 1) (by omega); omega⟩
        have WI := fun w' => within_any cut ((T.size : Int) + 1) w' (by omega) (by omega)
        rw [hk1] at WI
        have WI := hid WI
        obtain ⟨m, r, h1, h2, h3, h4, h5⟩ := lgAll_cut (c := k) HXL.out (by omega) (by omega)
        have hTk : (T.extract 0 k).data.toList = (logT X).take k := by rw [ext_to, HTD.out]
        have T2a := fun w' (q : Ext w w') => tlog_any (T.extract 0 k) w' (LT.out.ext q) (by simp; omega)
        rw [hTk, h5] at T2a
        obtain ⟨n, hnn⟩ : ∃ n, (logT (X.take m)).length = n := ⟨_, rfl⟩
        rw [hnn] at T2a
        have T2 := hid T2a
        clear T2a
        have HIB := hid (show ((X.take m).map bareE).map plainE = tlB X m from rfl)
        have HYO := hid (show ∀ y ∈ (X.take m).map bareE, EntOk y from fun y hy => by
          obtain ⟨x, hx, rfl⟩ := List.mem_map.1 hy
          exact bareE_ok (HX.out x (List.mem_of_mem_take hx)))
        have hml : ((X.take m).map bareE).length = m := by rw [List.length_map, List.length_take]; omega
        have HM1 := hid h1
        clear h1 h2 h3 h4 h5 hTl hTk hnn hk1 hbig
        generalize (X.take m).map bareE = Y at T2 HIB HYO hml
        subst hml
        go_wp2_with fail
        refine (WI.out _).mono ?_
        clear WI
        rintro r w7 ⟨rfl, rfl⟩
        go_wp2_with fail
        refine (T2.out _ HE6.out).mono ?_
        clear T2
        rintro r w8 ⟨v8, rfl, hlg⟩
        obtain ⟨a8, k8, rfl⟩ := hlg.form
        have HE68 := hid hlg.E
        have HE8 := hid (HE6.out.trans hlg.E)
        have HLG := hid hlg
        have KM1 := hid (KM.out w8 HE8.out)
        have qm : ¬ ((X.length : Int) < (Y.length : Int)) := by have := HM1.out; omega
        have qm1 : decide ((X.length : Int) < (Y.length : Int)) = false := decide_eq_false qm
        have qm2 : decide (X.length < Y.length) = false := decide_eq_false (by omega)
        clear hlg HE6 KM
        go_wp2_with fail
        refine (KM1.out).mono ?_
        clear KM1
        rintro e w9 ⟨vm2, rfl, om2, E9⟩
        have hm2 := om2.is
        obtain ⟨am2, km2, ao2, ko2, rfl, _, _⟩ := hm2.unpack
        have PW1 := hid (PW.out w9 (HE8.out.trans E9))
        have HM := hid hm2
        have HE9 := hid E9
        clear om2 hm2 E9 PW
        go_wp2_with fail
        refine (PW1.out).mono ?_
        clear PW1
        rintro e w10 ⟨vs1, S', rfl, oS', _, hSF', hS', E10⟩
        obtain rfl : S' = S0 := store_ext oS' HSR.out.1 (fun x => by rw [hSF', HSR.out.2.2])
        obtain ⟨as1, cs1, rfl⟩ := own_form hS'
        have CN := hid (cnew_okN 1 1 (by omega) (by omega) (by omega) (by omega) (.agg #[.slice am2 C0.length km2, .slice ao2 O0.length ko2]) (.slice as1 S'.length cs1) C0 O0 S' w10 (HM.out.ext E10) MOK.out.1 MOK.out.2 (own_seg hS') oS' (by have := HSR.out.2.1; omega))
        have HE10 := hid (HE9.out.trans E10)
        clear hS' oS' hSF' E10 HM HE9
        go_wp2_with fail
        refine (CN.out).mono ?_
        clear CN
        rintro e w11 ⟨g, G, rfl, hC', hG', E11⟩
        have HT := hid (TLb.start (HG6.out.ext (HE68.out.trans HE10.out)) hC' hG' E11 (HE8.out.trans HE10.out) HF6.out (HLG.out.ext HE10.out))
        obtain ⟨S0, rfl⟩ : ∃ S : Prs, S = S' := ⟨_, rfl⟩
        clear hC' hG' E11 HG6 HE68 HE10 HE8 HF6 HLG HSR MOK
        go_wp2_with fail
        go_loopw [141] (fun jv wr => ∃ j : Nat, j ≤ Y.length ∧ jv = .int .i64 j ∧ Hid (TLb w w10 b g ⟨C0, O0, S0, 0, []⟩ (X.map plainE) Y j (.slice a8 Y.length k8) wr)) (fun jv _ => Y.length - (intOf jv).toNat)
        case atStart => exact ⟨0, Nat.zero_le _, rfl, HT⟩
        case round =>
          clear HT
          obtain ⟨wo, rfl⟩ : ∃ wo : World, wo = wr := ⟨_, rfl⟩
          obtain ⟨j, hj, rfl, hT⟩ := hrel
          by_cases hjl : j < Y.length
          · have hE := hT.out.ents
            obtain ⟨bY, oY, rfl, p1, p2⟩ := hE.addr (by omega)
            obtain ⟨ev, hev, x0, x1, x2, x3⟩ := hE.at hjl
            obtain ⟨bm, c0, AD⟩ := hT.out.add hjl (by have := HM1.out; omega) HYO.out
            have AD := fun w' (q : Ext wo w') => AD w' ev q (hev.ext q)
            generalize Y[j] = xe at hev
            obtain ⟨v1, b1, v2', v3⟩ := ev
            dsimp only at x0 x1 x2 x3
            obtain ⟨f1, g1, e1⟩ := seg_form hev.ops
            obtain ⟨f2, g2, e2⟩ := seg_form hev.cuts
            obtain ⟨f3, g3, e3⟩ := seg_form hev.own
            dsimp only at e1 e2 e3
            subst e1; subst e2; subst e3
            have EA := (Ext.refl wo).alloc (.cells #[.slice f1 xe.ops.length g1, .bool b1, .slice f2 xe.cuts.length g2, .slice f3 xe.own.length g3] 42)
            have bx := heap_alloc_new wo (.cells #[.slice f1 xe.ops.length g1, .bool b1, .slice f2 xe.cuts.length g2, .slice f3 xe.own.length g3] 42)
            obtain ⟨wA, hwA⟩ : ∃ wA, wo.alloc (.cells #[.slice f1 xe.ops.length g1, .bool b1, .slice f2 xe.cuts.length g2, .slice f3 xe.own.length g3] 42) = wA := ⟨_, rfl⟩
            obtain ⟨bxx, hbxx⟩ : ∃ bxx, wo.heap.size = bxx := ⟨_, rfl⟩
            rw [hwA] at EA bx
            rw [hbxx] at bx
            have c8 := blk4 bx
            have c0 := EA.cell c0
            have AD := hid (fun w' (q : Ext wA w') => AD w' (EA.trans q))
            clear hE hev EA bx hT
            go_wp2_with fail
            refine wp_region_ph [.k (.pointer (some ⟨g, 0, none⟩)), .k (.pointer (some ⟨g, 0, none⟩)), .k (.pointer (some ⟨g, 0, none⟩)), .k (.pointer (some ⟨bm, 0, none⟩)), .k (.agg #[.slice f1 xe.ops.length g1, .bool b1, .slice f2 xe.cuts.length g2, .slice f3 xe.own.length g3])] [] (by kernel_rfl) (by kernel_rfl) (by kernel_rfl) rfl rfl ?hs ?hC ?he
            case hC =>
              intro i hi
              simp at hi
            case hs =>
              refine ⟨?_, ?_, ?_, ?_, ?_, trivial⟩
              all_goals (
                intro x w' hE hd
                try simp [PhDeps, at_k, at_p, at_t, at_any, Region.binds] at hd
                try ((with_reducible refine Exists.elim hd ?_); clear hd; intro y hd; obtain ⟨hd, hG⟩ := hd)
                have d1 := hE.cell c0
                have d2 := hE.cell c8.1
                have d3 := hE.cell c8.2.1
                have d4 := hE.cell c8.2.2.1
                have d5 := hE.cell c8.2.2.2
                first | simp only [frL, List.length_cons, List.length_nil, List.take_succ_cons, List.take_zero, Nat.reduceAdd, Nat.zero_add, List.setIfInBounds_toArray, List.set_cons_zero, List.set_cons_succ, hd] | simp only [frL, List.length_cons, List.length_nil, List.take_succ_cons, List.take_zero, Nat.reduceAdd, Nat.zero_add, List.setIfInBounds_toArray, List.set_cons_zero, List.set_cons_succ]
                go_wp2
                all_goals first
                  | ((with_reducible refine phK ?_ ?_); (focus rfl); (repeat (first | (with_reducible assumption) | (with_reducible exact Ext.refl _) | (with_reducible refine Ext.drew ?_) | (with_reducible refine Ext.drewN ?_ _) | (with_reducible refine Ext.alloc ?_ _) | (with_reducible refine Ext.trans ?_ (by with_reducible assumption)))))
                  | ((with_reducible refine phT rfl hG ?_); (repeat (first | (with_reducible assumption) | (with_reducible exact Ext.refl _) | (with_reducible refine Ext.drew ?_) | (with_reducible refine Ext.drewN ?_ _) | (with_reducible refine Ext.alloc ?_ _) | (with_reducible refine Ext.trans ?_ (by with_reducible assumption)))))
                  | ((with_reducible refine phU hG ?_); (repeat (first | (with_reducible assumption) | (with_reducible exact Ext.refl _) | (with_reducible refine Ext.drew ?_) | (with_reducible refine Ext.drewN ?_ _) | (with_reducible refine Ext.alloc ?_ _) | (with_reducible refine Ext.trans ?_ (by with_reducible assumption)))))
                  | (with_reducible exact phBox hE)
                  | (with_reducible exact phRow hE))
            case he =>
              intro x wq Eq hd
              simp [PhEnd, at_k, at_p, at_t, at_any] at hd
              simp only [frL, List.length_cons, List.length_nil, List.take_succ_cons, List.take_zero, Nat.reduceAdd, Nat.zero_add, List.setIfInBounds_toArray, List.set_cons_zero, List.set_cons_succ, hd, List.length_cons, List.length_nil, List.drop_succ_cons, List.drop_zero]
              clear hd
              have AD1 := hid (AD.out wq Eq)
              clear AD c0 c8 Eq
              go_wp2_with fail
              refine (AD1.out).mono ?_
              clear AD1
              rintro e w12 ⟨rfl, hT⟩
              have HT := hid hT
              clear hT
              go_wp2_with fail
              go_roundw
              case rel => exact ⟨j + 1, by omega, by go_num, HT⟩
              case measure => simp [intOf] <;> omega
          · obtain rfl : j = Y.length := by omega
            obtain ⟨bm, c0, CL⟩ := hT.out.close
            have CL := hid CL
            clear hT
            go_wp2_with fail
            refine (CL.out).mono ?_
            clear CL c0
            rintro e w12 ⟨rfl, hT⟩
            have HT := hid (show TLc w w10 b g ⟨C0, O0, S0, 0, []⟩ (tlA X) (tlB X Y.length) 0 0 w12 by rw [← HIB.out]; exact hT)
            clear hT
            go_wp2_with fail
            go_loopw [165] (fun jv wr => ∃ j : Nat, j ≤ Y.length ∧ jv = .int .i64 j ∧ Hid (TLc w w10 b g ⟨C0, O0, S0, 0, []⟩ (tlA X) (tlB X Y.length) j j wr)) (fun jv _ => Y.length - (intOf jv).toNat)
            case atStart => exact ⟨0, Nat.zero_le _, rfl, HT⟩
            case round =>
              clear HT
              obtain ⟨wo, rfl⟩ : ∃ wo : World, wo = wr := ⟨_, rfl⟩
              obtain ⟨j, hj, rfl, hT⟩ := hrel
              have lA := tlA_len X
              have lB := tlB_len HM1.out
              by_cases hjl : j < Y.length
              · have hm1 := HM1.out
                have SA := hT.out.stepA HOK.out rfl (tlA_ok HX.out) (by omega) (by omega)
                have EQ := ok_tlB (⟨C0, O0, S0, 0, []⟩ : Cop) HX.out hm1 hjl (by omega) (by omega)
                have SB := fun w' (h : TLc w w10 b g ⟨C0, O0, S0, 0, []⟩ (tlA X) (tlB X Y.length) (j + 1) j w') => h.stepB HOK.out rfl (tlB_ok HX.out Y.length) (by omega) (by omega)
                rw [EQ] at SB
                generalize okE _ _ = r at SA SB
                have SA := hid SA
                have SB := hid SB
                clear EQ lA lB hm1 hT
                go_wp2_with fail
                refine (SA.out).mono ?_
                clear SA
                rintro e w13 ⟨rfl, hT⟩
                have SB1 := hid (SB.out w13 hT)
                clear hT SB
                go_wp2_with fail
                refine (SB1.out).mono ?_
                clear SB1
                rintro e w14 ⟨rfl, hT⟩
                have HT := hid hT
                have qr : (r != r) = false := by simp
                clear hT
                go_wp2_with fail
                go_roundw
                case rel => exact ⟨j + 1, by omega, by go_num, HT⟩
                case measure => simp [intOf] <;> omega
              · obtain rfl : j = Y.length := by omega
                have hm1 := HM1.out
                have XA := hT.out.allA HOK.out rfl (tlA_ok HX.out) (by omega) (by omega)
                have YA := fun w' (q : Ext wo w') => (hT.out.ext q).allB HOK.out rfl (tlB_ok HX.out Y.length) (by omega) (by omega)
                rw [go_tlB _ HX.out hm1 (Nat.le_refl _)] at YA
                have HEq := hid hT.out.E
                generalize goC _ (tlA X) Y.length = ck at XA YA
                have XA := hid XA
                have YA := hid YA
                clear lA lB hm1 hT
                go_wp2_with fail
                refine (XA.out).mono ?_
                clear XA
                rintro e w15 ⟨v15, rfl, o15, E15⟩
                obtain ⟨a15, k15, rfl⟩ := own_form o15
                have YA1 := hid (YA.out w15 E15)
                have HO15 := hid (own_seg o15)
                have HE15 := hid E15
                clear o15 E15 YA
                go_wp2_with fail
                refine (YA1.out).mono ?_
                clear YA1
                rintro e w16 ⟨v16, rfl, o16, E16⟩
                obtain ⟨a16, k16, rfl⟩ := own_form o16
                have EQ := hid (equal_Pq _ _ ck.S w16 (HO15.out.ext E16) (own_seg o16))
                have HE16 := hid (HE15.out.trans E16)
                clear o16 E16 HO15 HE15
                go_wp2_with fail
                refine (EQ.out).mono ?_
                clear EQ
                rintro e w17 ⟨rfl, E17⟩
                have HR := hid (HEq.out.trans (HE16.out.trans E17))
                clear E17 HE16 HEq
                go_wp2
                go_ret
                exact ⟨rfl, HR.out⟩
end Go.Proofs.YtddghaoejnbkaaaGreatDoor

/- Contracts and lemmas for the proofs of this seat; each theorem states its own conditions. -/
namespace Go.Proofs.YtddghaoejnbkaaaGreatDoor
open Go.RowKit Go.Deep
/-! what a row tells of a slice of pairs -/
theorem bulk_one {H : Type} (d : DataW H) : 1 ≤ Rows.uptoBulk d := by
  cases d with
  | lit l => cases l <;> simp [Rows.uptoBulk]
  | nil => simp [Rows.uptoBulk]
  | ptr d => simp [Rows.uptoBulk]
  | slice elems spare => simp [Rows.uptoBulk]
  | agg parts => simp [Rows.uptoBulk]
  | iface t d => simp [Rows.uptoBulk]
  | map entries => simp [Rows.uptoBulk]
  | held h => simp [Rows.uptoBulk]
theorem bulk_map {H : Type} {α : Type} {c : Nat} {f : α → DataW H} : ∀ {l : List α}, (∀ a ∈ l, c ≤ Rows.uptoBulk (f a)) → c * l.length ≤ Rows.uptoBulkAll (l.map f)
  | [], _ => by simp [Rows.uptoBulkAll]
  | a :: l, h => by
    have h1 := h a (by simp)
    have h2 := bulk_map (l := l) fun b hb => h b (by simp [hb])
    simp only [List.map_cons, Rows.uptoBulkAll, List.length_cons, Nat.mul_succ]
    omega
end Go.Proofs.YtddghaoejnbkaaaGreatDoor

/- Contracts and lemmas for the proofs of this seat; each theorem states its own conditions. -/
namespace Go.Proofs.YtddghaoejnbkaaaGreatDoor
open Go.RowKit Go.Deep Go.WideShapes Go.ChangeShapes
/-! what a row tells of numbers, of rows of numbers, of names and of a map -/
def IntW (l : List Int) : Prop := ∀ z ∈ l, -9223372036854775808 ≤ z ∧ z ≤ 9223372036854775807
theorem segI_of_trod {H : Type} {enc : TypeId × Value → H} {W : World} {base : Nat} {held : Bool} {fuel : Nat} {v : Value} {x : DataW H × List MemPlace}
    (h : DataW.trod enc Tryz.prog W base (fun _ => true) held fuel 22 [v] = some x) :
    ∃ a len cap, ∃ l : List Int, v = .slice a len cap ∧ Seg W (.slice a len cap) 1 l.length (cI l) ∧ IntW l ∧ l.length + 1 ≤ Rows.uptoBulk x.1 := by
  rcases open_ints Tryz.underlying22 Tryz.underlying3 (by kernel_rfl) h with ⟨hcs, rfl⟩ | ⟨ad, len, cap, zs, hcs, _, hl, hm, hz, rfl, hcell, hwz⟩
  · injection hcs with hcs _
    exact ⟨none, 0, 0, [], hcs, Seg.nil _ _, by simp [IntW], by simp [Rows.uptoBulk]⟩
  · injection hcs with hcs _
    simp only [if_true] at hz
    obtain ⟨s1, s2, s3⟩ := seg_of_row (w := W) (a := some ad) (len := len) (cap := cap) (zs := zs) (.inr ⟨ad, rfl, hl, hm, hz, hcell, hwz⟩)
    refine ⟨some ad, len, cap, zs.take len, hcs, s1, s2, ?_⟩
    have hb := bulk_map (c := 1) (H := H) (f := fun n : Int => DataW.lit (.int .i64 n)) (l := zs.take len) (fun i _ => bulk_one _)
    simp only [Rows.uptoBulk, lits]
    omega
theorem segI_of_trod' {H : Type} {enc : TypeId × Value → H} {W : World} {base : Nat} {held : Bool} {fuel : Nat} {a : Option Addr} {len cap : Nat} {x : DataW H × List MemPlace}
    (h : DataW.trod enc Tryz.prog W base (fun _ => true) held fuel 22 [.slice a len cap] = some x) :
    ∃ l : List Int, Seg W (.slice a len cap) 1 l.length (cI l) ∧ IntW l ∧ l.length + 1 ≤ Rows.uptoBulk x.1 := by
  obtain ⟨a', len', cap', l, e, h1, h2, h3⟩ := segI_of_trod h
  exact ⟨l, by rw [e]; exact h1, h2, h3⟩
set_option maxRecDepth 10000 in
theorem segLL_of_trod {H : Type} {enc : TypeId × Value → H} {W : World} {base : Nat} {held : Bool} {fuel : Nat} {a : Option Addr} {len cap : Nat} {x : DataW H × List MemPlace}
    (h : DataW.trod enc Tryz.prog W base (fun _ => true) held fuel 23 [.slice a len cap] = some x) :
    ∃ ls : List (List Int), SegLL W (.slice a len cap) ls ∧ (∀ l ∈ ls, IntW l) ∧ ls.length + 1 ≤ Rows.uptoBulk x.1 := by
  rcases open_int_rows Tryz.underlying23 Tryz.underlying22 Tryz.underlying3 (by kernel_rfl) (by kernel_rfl) h with ⟨hcs, rfl⟩ | ⟨ad, len', cap', A, L, C, Z, hcs, _, hl, hm, rfl, hx⟩
  · injection hcs with hcs _
    injection hcs with e1 e2 e3
    subst e1; subst e2; subst e3
    exact ⟨[], segll_nil _, by simp, by simp [Rows.uptoBulk]⟩
  · injection hcs with hcs _
    injection hcs with e1 e2 e3
    subst e1; subst e2; subst e3
    obtain ⟨ls, g1, g2, g3⟩ := segll_of_rows hl hm hx
    refine ⟨ls, g1, g3, ?_⟩
    have hb := bulk_map (c := 1) (H := H) (f := fun r => intRow .i64 (A r) (L r) (Z r)) (l := List.range len) (fun i _ => bulk_one _)
    simp only [List.length_range] at hb
    simp only [Rows.uptoBulk]
    omega
end Go.Proofs.YtddghaoejnbkaaaGreatDoor

/- Contracts and lemmas for the proofs of this seat; each theorem states its own conditions. -/
namespace Go.Proofs.YtddghaoejnbkaaaGreatDoor
open Go.RowKit
/-! what a row's laid variables give -/
theorem rowE (u : TypeId) (h : Tryz.prog.typeName? 3 u = some "*errors.errorString") : u = 337 :=
  typeName_ptr_named (nm := "errors.errorString") (by rw [show "*" ++ "errors.errorString" = "*errors.errorString" by decide]; kernel_rfl) (by kernel_rfl) (by decide) u (by rw [show "*" ++ "errors.errorString" = "*errors.errorString" by decide]; exact h)
theorem cell_of_var {P : Program} {w : World} {n : String} {g : Nat} {v : Value} (hg : P.globalNamed n = some g) (h : w.var? P n = some #[v]) : w.cell? ⟨g, 0, none⟩ = some v := by
  unfold World.var? at h
  rw [hg, Option.bind_some] at h
  cases hh : w.heap[g]? with
  | none => simp [hh] at h
  | some o =>
    rw [hh] at h
    cases o with
    | cells cs t f =>
      simp only [Option.some.injEq] at h
      subst h
      simp [World.cell?, hh]
    | _ => simp at h
theorem laidT_of {W : World} {a b c d : DataW Unit} {t1 t2 : List UInt8} (hL : laidMet Tryz.prog [("math/bits.deBruijn32tab", a), ("math/bits.deBruijn64tab", b), ("internal/strconv.uint64pow10", Lib.tabData .u64 Lib.pow10Tab), ("unicode/utf8.acceptRanges", c), ("strconv.ErrRange", .iface "*errors.errorString" (.ptr (.agg [.lit (.string t1)]))), ("strconv.ErrSyntax", .iface "*errors.errorString" (.ptr (.agg [.lit (.string t2)]))), ("unicode/utf8.first", d)] W)
    (hS : W.ShapedOpen Tryz.prog) : LaidT W := by
  obtain ⟨a1, s1, hv1, _, _, _⟩ := laid_sentinel (g := 3) hL.tail.tail.tail.tail (by kernel_rfl) (by kernel_rfl) Tryz.underlying221 rowE Tryz.underlying337 Tryz.underlying339 rfl rfl Tryz.underlying9 (by kernel_rfl) (by kernel_rfl)
  obtain ⟨a2, s2, hv2, _, _, _⟩ := laid_sentinel (g := 2) hL.tail.tail.tail.tail.tail (by kernel_rfl) (by kernel_rfl) Tryz.underlying221 rowE Tryz.underlying337 Tryz.underlying339 rfl rfl Tryz.underlying9 (by kernel_rfl) (by kernel_rfl)
  refine ⟨Lib.tabIs_of_head (g := 1) (by kernel_rfl) (by kernel_rfl) Tryz.underlying310 Tryz.underlying156 (by kernel_rfl) (by kernel_rfl) hL.tail.tail, ⟨_, _, cell_of_var (by kernel_rfl) hv2⟩, ⟨_, _, cell_of_var (by kernel_rfl) hv1⟩, ?_⟩
  exact cell_of_shapedOpen_int (zero := #[.int .i64 0]) (t := 3) (k := .i64) hS (by decide) (by kernel_rfl) rfl (by kernel_rfl) (by kernel_rfl) Tryz.underlying3
end Go.Proofs.YtddghaoejnbkaaaGreatDoor
