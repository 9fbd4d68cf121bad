/- Contracts and lemmas for the proof of TopLog; each theorem states its own conditions. -/
import Derived.Test.YtddghaoejnbkaaaGreatDoorQTopLogbu
import Derived.Test.YtddghaoejnbkaaaGreatDoorQTopLogbs
import Derived.Test.YtddghaoejnbkaaaGreatDoorQTopLogbt
import Derived.Test.YtddghaoejnbkaaaGreatDoorQTopLogbh
import Derived.BigQuiet
set_option linter.unusedVariables false
set_option linter.unusedSimpArgs false
/- Contracts and lemmas for the proofs of this seat; each theorem states its own conditions. -/
namespace Go.Proofs.YtddghaoejnbkaaaGreatDoor
open Go.RowKit
/-! rotop.fed: copies to which came, at several inputs, deeds and maps -/
structure DsK (w : World) (v : Value) (vs : List Value) (D : List Ops) : Prop where
  row : w.ownsRow 0 40 1 v D.length vs
  len : vs.length = D.length
  own : ∀ (i : Nat) (u : Value) (d : Ops), vs[i]? = some u → D[i]? = some d → w.ownsRow 0 125 4 u d.length (cO d)
theorem DsK.ext {w w' : World} {v : Value} {vs : List Value} {D : List Ops} (h : DsK w v vs D) (E : Ext w w') : DsK w' v vs D := ⟨own_ext h.row E, h.len, fun i u d a b => own_ext (h.own i u d a b) E⟩
theorem DsK.kp {w w' : World} {F F' : Nat → Prop} {v : Value} {vs : List Value} {D : List Ops} (h : DsK w v vs D) (ty : TyS w F cTy) (k : Kp F w w' F') : DsK w' v vs D :=
  ⟨k.own h.row (ty.off h.row (by decide)), h.len, fun i u d a b => k.own (h.own i u d a b) (ty.off (h.own i u d a b) (by decide))⟩
structure MapY (C : List ByteArray) (O : List Int) (v : Value) (w : World) : Prop where
  is : IsMap w v C O
def MapE (C : List ByteArray) (O : List Int) (v : Value) (w : World) : Prop := ∃ a1 k1 a2 k2, v = .agg #[.slice none 0 0, .bool true, .slice a1 C.length k1, .slice a2 O.length k2] ∧ IsMap w (.agg #[.slice a1 C.length k1, .slice a2 O.length k2]) C O
theorem map_ok (p : List Int) : EntOk ⟨[], true, mkC p 6, mkO p 6⟩ := by
  have m := mk_ok p
  refine ⟨⟨by simp, ?_, ?_⟩, ⟨fun o ho => by simp at ho, mk_small _⟩, ?_⟩
  · have := m.few; simp only; omega
  · have := m.few; have := m.len; simp only; omega
  · unfold entE; rw [if_pos rfl]; exact mapErr_ok m
theorem deedG_ok {d : Ops} (g : DeedG d) : EntOk ⟨d, false, [], []⟩ := by
  refine ⟨⟨?_, by simp, by simp⟩, ⟨opsSm_ok g.ok g.sm, by simp⟩, ?_⟩
  · have := g.hi; simp only; omega
  · unfold entE; rw [if_neg (by simp)]; exact deedE_ok g.ok
set_option maxRecDepth 100000 in
set_option maxHeartbeats 16000000 in
theorem rfed_anyA (z0 z1 : Int) (v v2 vp vd : Value) (la l2 : List Int) (ps ds : List (List Int)) (w : World) (hv : Seg w v 1 la.length (cI la)) (hb : ∀ z ∈ la, -9223372036854775808 ≤ z ∧ z ≤ 9223372036854775807)
    (hv2 : Seg w v2 1 l2.length (cI l2)) (hb2 : ∀ z ∈ l2, -9223372036854775808 ≤ z ∧ z ≤ 9223372036854775807) (hvp : SegLL w vp ps) (hbp : ∀ p ∈ ps, ∀ z ∈ p, -9223372036854775808 ≤ z ∧ z ≤ 9223372036854775807) (hvd : SegLL w vd ds) :
    Calls Tryz.prog 8 #[.int .i64 z0, .int .i64 z1, v, v2, vp, vd] w fun e w' => ∃ (vL : Value) (S0 : Prs) (b : Nat) (F : Nat → Prop) (cl : List (List Bat)) (op : List Bat) (d : Nat → Nat) (w1 : World),
      e = .returned (.tuple #[.pointer (some ⟨b, 0, none⟩), vL, .bool true]) ∧ StoreOk S0 ∧ S0.length ≤ 30 ∧ (∀ x, valP S0 x = (pF l2 (min l2.length 30) x).getD 0) ∧ FedS w w1 b ((wi z0 4).toNat + 1) ((wi z1 4).toNat + 1) 54 ⟨mkC la 6, mkO la 6, S0, 0, []⟩ F cl op d ∧ LogRA w1 (logM cl) vL w' := by
  obtain ⟨i0, ha1, ha2, ha3⟩ := wi_nat (z := z0) (n := 4) (by omega)
  obtain ⟨i1, hc1, hc2, hc3⟩ := wi_nat (z := z1) (n := 4) (by omega)
  have ha1 : wi z0 4 = (i0 : Int) := ha1
  have hc1 : wi z1 4 = (i1 : Int) := hc1
  have ha2 : (wi z0 4).toNat = i0 := ha2
  have hc2 : (wi z1 4).toNat = i1 := hc2
  rw [ha2, hc2]
  have WI0 := within_any z0 4 w (by omega) (by omega)
  have WI1 := within_any z1 4 w (by omega) (by omega)
  rw [ha1] at WI0
  rw [hc1] at WI1
  have WI0 := hid WI0
  have WI1 := hid WI1
  clear ha1 hc1 ha2 hc2
  have KM := hid (kMap_any v la w hv hb)
  have PW := hid (fun w' (q : Ext w w') => pairs_fn v2 l2 w' (hv2.ext q) hb2)
  have DW := hid (fun w' (q : Ext w w') => deeds_any vd ds 20 w' (hvd.ext q) (by omega))
  have mok := mk_ok la
  have msm := mk_small la
  obtain ⟨C0, hC0⟩ : ∃ C0, mkC la 6 = C0 := ⟨_, rfl⟩
  obtain ⟨O0, hO0⟩ : ∃ O0, mkO la 6 = O0 := ⟨_, rfl⟩
  rw [hC0] at mok msm KM ⊢
  rw [hO0] at mok KM ⊢
  clear hC0 hO0 hv hv2 hvd
  obtain ⟨aP, cP', us, rfl, l1, l2', l3, l4, l5⟩ := hvp.in
  unfold maxLen at l2'
  have HUS := hid l3
  have L4 := hid l4
  have L5 := hid l5
  have HBP := hid hbp
  clear l3 l4 l5 hvp hbp
  obtain ⟨N, hN, hN1, hN2⟩ : ∃ N : Nat, min (ps.length : Int) 50 = (N : Int) ∧ N ≤ 50 ∧ N ≤ ps.length := ⟨min ps.length 50, by omega, by omega, by omega⟩
  have hNt : ((N : Int)).toNat = N := by omega
  have hNm : max (N : Int) 0 = (N : Int) := by omega
  have hNc : N ≤ cP' := by omega
  have qi0 : (1 : Int) + (i0 : Int) = ((i0 + 1 : Nat) : Int) := by omega
  have qi1 : (1 : Int) + (i1 : Int) = ((i1 + 1 : Nat) : Int) := by omega
  go_enter Tryz.func8, Tryz.ntmps8
  go_wp2_with fail
  refine (WI0.out).mono ?_
  clear WI0
  rintro e w' ⟨rfl, rfl⟩
  obtain ⟨w, rfl⟩ : ∃ wq : World, wq = w := ⟨_, rfl⟩
  go_wp2_with fail
  refine (WI1.out).mono ?_
  clear WI1
  rintro e w' ⟨rfl, rfl⟩
  obtain ⟨w, rfl⟩ : ∃ wq : World, wq = w := ⟨_, rfl⟩
  go_wp2_with fail
  refine (KM.out).mono ?_
  clear KM
  rintro e w2 ⟨vm, rfl, om, E2⟩
  have hm := om.is
  obtain ⟨am, km, ao, ko, rfl, _, _⟩ := hm.unpack
  have PW1 := hid (PW.out w2 E2)
  have HM := hid hm
  have HE2 := hid E2
  clear om hm PW E2
  go_wp2_with fail
  refine (PW1.out).mono ?_
  clear PW1
  rintro e w3 ⟨vs0, S0, rfl, oS, lS, hSF, hS, E3⟩
  obtain ⟨as0, cs0, rfl⟩ := own_form hS
  have CN := hid (cnew_ok (i0 + 1) (i1 + 1) (by omega) (by omega) (by omega) (by omega) (.agg #[.slice am C0.length km, .slice ao O0.length ko]) (.slice as0 S0.length cs0) C0 O0 S0 w3 (HM.out.ext E3) mok msm (own_seg hS) oS (by omega))
  have HOK := hid (show CopOk 30 ⟨C0, O0, S0, 0, []⟩ from ⟨mok, msm, oS, by simp only; omega, rfl⟩)
  have HSR := hid (And.intro oS (And.intro lS hSF))
  have HE3 := hid (HE2.out.trans E3)
  clear hS oS hSF E3 mok msm HM HE2
  go_wp2_with fail
  refine (CN.out).mono ?_
  clear CN
  rintro e w4 ⟨b, F, rfl, hC, hF, E4⟩
  have DW1 := hid (DW.out w4 (HE3.out.trans E4))
  have HC := hid hC
  have hFl := fun q (hq : F q) => Nat.le_trans HE3.out.size' (hF q hq)
  have HF := hid hFl
  have HE4 := hid (HE3.out.trans E4)
  clear hC hF hFl E4 DW HE3
  go_wp2_with fail
  refine (DW1.out).mono ?_
  clear DW1
  rintro e w5 ⟨vD, vs, D, rfl, hrow, hown, hdg, hdl, E5⟩
  have hlen := hown.len
  have hDK : DsK w5 vD vs D := ⟨by rw [← hlen]; exact own_base hrow (Nat.zero_le _), hlen, fun i u d a b => own_base (hown.own i u d a b) (Nat.zero_le _)⟩
  obtain ⟨aD, cD, e1⟩ := own_form hrow
  rw [hlen] at e1
  subst e1
  have HFS := hid (FedS.start (n := i1 + 1) (c := ⟨C0, O0, S0, 0, []⟩) (show 1 ≤ i0 + 1 by omega) (HC.out.ext E5) (HE4.out.trans E5) HF.out)
  have HDK := hid hDK
  have HDG := hid hdg
  clear hrow hown hlen hDK hdg E5 HC HE4 HF
  go_wp2_with fail
  clear hN hNt hNm qi0 qi1
  go_loopw [18, 53] (fun nv jv wr => ∃ (j nx : Nat) (F : Nat → Prop) (cl : List (List Bat)) (op : List Bat) (d : Nat → Nat), j ≤ N ∧ jv = .int .i64 j ∧ nx ≤ D.length ∧ nv = .int .i64 nx ∧ Hid (FedS w wr b (i0 + 1) (i1 + 1) j ⟨C0, O0, S0, 0, []⟩ F cl op d) ∧ Hid (DsK wr (.slice aD D.length cD) vs D)) (fun _ jv _ => N - (intOf jv).toNat)
  case atStart => exact ⟨0, 0, F, _, _, _, Nat.zero_le _, rfl, Nat.zero_le _, rfl, HFS, HDK⟩
  case round =>
    clear HFS HDK
    obtain ⟨wo, rfl⟩ : ∃ wo : World, wo = wr := ⟨_, rfl⟩
    obtain ⟨j, nx, F1, cl, op, d, hj, rfl, hnx, rfl, hS, hK⟩ := hrel
    by_cases hjl : j < N
    · obtain ⟨bP, oP, rfl, hcP⟩ := L4.out (by omega)
      have hju : j < us.length := by have := HUS.out; omega
      have cu := hS.out.E.cell (hcP j us[j] (List.getElem?_eq_getElem hju))
      have sg := L5.out j us[j] ps[j] (List.getElem?_eq_getElem hju) (List.getElem?_eq_getElem (by omega))
      have hbd := HBP.out ps[j] (List.getElem_mem (by omega))
      generalize ps[j]'(by omega) = p at sg hbd
      obtain ⟨ap, kp, hup⟩ := seg_form sg
      rw [hup] at cu sg
      clear hcP hup
      have HSG := hid sg
      have HBD := hid hbd
      clear sg hbd
      by_cases h3 : p.length < 3
      · have h3' : ((p.length : Int) < 3) := by omega
        have HR := hid (hS.out.more (show j ≤ j + 1 by omega))
        go_wp2_with fail
        go_roundw
        case rel => exact ⟨j + 1, nx, F1, cl, op, d, by omega, by go_num, hnx, rfl, HR, hK⟩
        case measure => simp [intOf] <;> omega
      · have h3' : ¬ ((p.length : Int) < 3) := by omega
        obtain ⟨bq, oq, rfl, _, p1, p2, hcq⟩ := seg_cells HSG.out (by omega)
        unfold maxLen at p2
        have y0 := hS.out.E.cell (hcq 0 _ (cI_at0 p 0 (by omega)))
        have y1 := hS.out.E.cell (hcq 1 _ (cI_at0 p 1 (by omega)))
        have y2 := hS.out.E.cell (hcq 2 _ (cI_at0 p 2 (by omega)))
        rw [Nat.add_zero] at y0
        generalize p[0]'(by omega) = x0 at y0
        generalize p[1]'(by omega) = x1 at y1
        generalize p[2]'(by omega) = x2 at y2
        obtain ⟨i, hi1, _, hi3⟩ := wi_nat (z := x1) (n := i0 + 1) (by omega)
        have WA := within_any x1 ((i0 + 1 : Nat) : Int) wo (by omega) (by omega)
        rw [hi1] at WA
        have WA := hid WA
        obtain ⟨t, ht⟩ : ∃ t, wi x0 8 = t := ⟨_, rfl⟩
        have hta := wi_lo (k := x0) (n := 8) (by omega)
        have htb := wi_hi (k := x0) (n := 8) (by omega)
        have WB := within_any x0 8 wo (by omega) (by omega)
        rw [ht] at WB hta htb
        have WB := hid WB
        clear hcq hi1 ht
        have hS1 := hS.out.one (by omega) HOK.out rfl
        have HS1 := hid hS1
        obtain ⟨A, hG⟩ := hS.out.cop
        have c0 := hG.cells.1
        have HG := hid hG
        clear hS1 hG
        have tt : t = 0 ∨ t = 1 ∨ t = 2 ∨ t = 3 ∨ t = 4 ∨ t = 5 ∨ t = 6 ∨ t = 7 := by omega
        clear hta htb
        go_wp2_with fail
        refine (WA.out).mono ?_
        clear WA
        rintro e w' ⟨rfl, rfl⟩
        obtain ⟨wo, rfl⟩ : ∃ wq : World, wq = wo := ⟨_, rfl⟩
        go_wp2_with fail
        refine (WB.out).mono ?_
        clear WB
        rintro e w' ⟨rfl, rfl⟩
        obtain ⟨wo, rfl⟩ : ∃ wq : World, wq = wo := ⟨_, rfl⟩
        rcases tt with rfl | rfl | rfl | rfl | rfl | rfl | rfl | rfl
        · by_cases hx : nx < D.length
          · obtain ⟨bd, od, rfl, _, q1, q2, hcd⟩ := seg_cells (own_seg hK.out.row) (by omega)
            unfold maxLen at q2
            have hxv : nx < vs.length := by have := hK.out.len; omega
            have z := hcd nx _ (List.getElem?_eq_getElem hxv)
            have ow := hK.out.own nx vs[nx] D[nx] (List.getElem?_eq_getElem hxv) (List.getElem?_eq_getElem hx)
            have hg := HDG.out D[nx] (List.getElem_mem hx)
            generalize D[nx] = dd at ow hg
            obtain ⟨ad, kd, e1⟩ := own_form ow
            rw [e1] at z ow
            have hxo := And.intro (deedG_ok hg) (show ∀ o ∈ (⟨dd, false, [], []⟩ : Ent).ops, OpG o from hg.ops)
            have AD := hid (fun w' (q : Ext wo w') => cadd_any (HG.out.ext q) hS.out.bd (by omega) hi3 (.slice ad dd.length kd, false, .slice none 0 0, .slice none 0 0) ⟨dd, false, [], []⟩ ⟨(own_seg ow).ext q, rfl, Seg.nil _ _, Seg.nil _ _⟩ hxo.1)
            have HXO := hid hxo
            have hx' : ((nx : Int) < (D.length : Int)) := by omega
            clear hcd ow hg e1 hxo
            go_wp2_with fail
            refine wp_region_ph [.k (.pointer (some ⟨b, 0, none⟩)), .k (.pointer (some ⟨b, 0, none⟩)), .k (.pointer (some ⟨b, 0, none⟩)), .k (.pointer (some ⟨A.bm, 0, none⟩)), .k (.int .i64 i), .k (.slice (some ⟨bd, od, none⟩) D.length cD), .k (.int .i64 nx), .k (.pointer (some ⟨bd, od + nx, none⟩)), .k (.agg #[.slice ad dd.length kd]), .k (.agg #[.slice ad dd.length kd, .bool false, .slice none 0 0, .slice none 0 0])] [] (by kernel_rfl) (by kernel_rfl) (by kernel_rfl) rfl rfl ?hs ?hC ?he
            case hC =>
              intro i hi
              simp at hi
            case hs =>
              refine ⟨?_, ?_, ?_, ?_, ?_, ?_, ?_, ?_, ?_, ?_, trivial⟩
              all_goals (
                intro x w' hE hd
                try simp [PhDeps, at_k, at_p, at_t, at_any, Region.binds] at hd
                try ((with_reducible refine Exists.elim hd ?_); clear hd; intro y hd; obtain ⟨hd, hG⟩ := hd)
                have d1 := hE.cell c0
                have d2 := hE.cell z
                first | simp only [frL, List.length_cons, List.length_nil, List.take_succ_cons, List.take_zero, Nat.reduceAdd, Nat.zero_add, List.setIfInBounds_toArray, List.set_cons_zero, List.set_cons_succ, hd] | simp only [frL, List.length_cons, List.length_nil, List.take_succ_cons, List.take_zero, Nat.reduceAdd, Nat.zero_add, List.setIfInBounds_toArray, List.set_cons_zero, List.set_cons_succ]
                go_wp2
                all_goals first
                  | ((with_reducible refine phK ?_ ?_); (focus rfl); (repeat (first | (with_reducible assumption) | (with_reducible exact Ext.refl _) | (with_reducible refine Ext.drew ?_) | (with_reducible refine Ext.drewN ?_ _) | (with_reducible refine Ext.alloc ?_ _) | (with_reducible refine Ext.trans ?_ (by with_reducible assumption)))))
                  | ((with_reducible refine phT rfl hG ?_); (repeat (first | (with_reducible assumption) | (with_reducible exact Ext.refl _) | (with_reducible refine Ext.drew ?_) | (with_reducible refine Ext.drewN ?_ _) | (with_reducible refine Ext.alloc ?_ _) | (with_reducible refine Ext.trans ?_ (by with_reducible assumption)))))
                  | ((with_reducible refine phU hG ?_); (repeat (first | (with_reducible assumption) | (with_reducible exact Ext.refl _) | (with_reducible refine Ext.drew ?_) | (with_reducible refine Ext.drewN ?_ _) | (with_reducible refine Ext.alloc ?_ _) | (with_reducible refine Ext.trans ?_ (by with_reducible assumption)))))
                  | (with_reducible exact phBox hE)
                  | (with_reducible exact phRow hE))
            case he =>
              intro x wq Eq hd
              simp [PhEnd, at_k, at_p, at_t, at_any] at hd
              simp only [frL, List.length_cons, List.length_nil, List.take_succ_cons, List.take_zero, Nat.reduceAdd, Nat.zero_add, List.setIfInBounds_toArray, List.set_cons_zero, List.set_cons_succ, hd, List.length_cons, List.length_nil, List.drop_succ_cons, List.drop_zero]
              clear hd
              have AD1 := hid (AD.out wq Eq)
              have HEq := hid Eq
              clear AD Eq c0 z
              go_wp2_with fail
              refine (AD1.out).mono ?_
              clear AD1
              rintro e w7 ⟨rfl, F7, hC7, K7⟩
              have K7 := Kp.after HEq.out K7
              have HR := hid (hS.out.add hi3 HXO.out hC7 K7)
              have HKr := hid (hK.out.kp hS.out.cop.choose_spec.ty K7)
              clear hC7 K7
              go_wp2_with fail
              go_roundw
              case rel => exact ⟨j + 1, nx + 1, F7, _, _, _, by omega, by go_num, by omega, by go_num, HR, HKr⟩
              case measure => simp [intOf] <;> omega
          · have hx' : ¬ ((nx : Int) < (D.length : Int)) := by omega
            have HR := hid (hS.out.more (show j ≤ j + 1 by omega))
            go_wp2_with fail
            go_roundw
            case rel => exact ⟨j + 1, nx, F1, cl, op, d, by omega, by go_num, hnx, rfl, HR, hK⟩
            case measure => simp [intOf] <;> omega
        · by_cases hx : nx < D.length
          · obtain ⟨bd, od, rfl, _, q1, q2, hcd⟩ := seg_cells (own_seg hK.out.row) (by omega)
            unfold maxLen at q2
            have hxv : nx < vs.length := by have := hK.out.len; omega
            have z := hcd nx _ (List.getElem?_eq_getElem hxv)
            have ow := hK.out.own nx vs[nx] D[nx] (List.getElem?_eq_getElem hxv) (List.getElem?_eq_getElem hx)
            have hg := HDG.out D[nx] (List.getElem_mem hx)
            generalize D[nx] = dd at ow hg
            obtain ⟨ad, kd, e1⟩ := own_form ow
            rw [e1] at z ow
            have hxo := And.intro (deedG_ok hg) (show ∀ o ∈ (⟨dd, false, [], []⟩ : Ent).ops, OpG o from hg.ops)
            have AD := hid (fun w' (q : Ext wo w') => cadd_any (HG.out.ext q) hS.out.bd (by omega) hi3 (.slice ad dd.length kd, false, .slice none 0 0, .slice none 0 0) ⟨dd, false, [], []⟩ ⟨(own_seg ow).ext q, rfl, Seg.nil _ _, Seg.nil _ _⟩ hxo.1)
            have HXO := hid hxo
            have hx' : ((nx : Int) < (D.length : Int)) := by omega
            clear hcd ow hg e1 hxo
            go_wp2_with fail
            refine wp_region_ph [.k (.pointer (some ⟨b, 0, none⟩)), .k (.pointer (some ⟨b, 0, none⟩)), .k (.pointer (some ⟨b, 0, none⟩)), .k (.pointer (some ⟨A.bm, 0, none⟩)), .k (.int .i64 i), .k (.slice (some ⟨bd, od, none⟩) D.length cD), .k (.int .i64 nx), .k (.pointer (some ⟨bd, od + nx, none⟩)), .k (.agg #[.slice ad dd.length kd]), .k (.agg #[.slice ad dd.length kd, .bool false, .slice none 0 0, .slice none 0 0])] [] (by kernel_rfl) (by kernel_rfl) (by kernel_rfl) rfl rfl ?hs ?hC ?he
            case hC =>
              intro i hi
              simp at hi
            case hs =>
              refine ⟨?_, ?_, ?_, ?_, ?_, ?_, ?_, ?_, ?_, ?_, trivial⟩
              all_goals (
                intro x w' hE hd
                try simp [PhDeps, at_k, at_p, at_t, at_any, Region.binds] at hd
                try ((with_reducible refine Exists.elim hd ?_); clear hd; intro y hd; obtain ⟨hd, hG⟩ := hd)
                have d1 := hE.cell c0
                have d2 := hE.cell z
                first | simp only [frL, List.length_cons, List.length_nil, List.take_succ_cons, List.take_zero, Nat.reduceAdd, Nat.zero_add, List.setIfInBounds_toArray, List.set_cons_zero, List.set_cons_succ, hd] | simp only [frL, List.length_cons, List.length_nil, List.take_succ_cons, List.take_zero, Nat.reduceAdd, Nat.zero_add, List.setIfInBounds_toArray, List.set_cons_zero, List.set_cons_succ]
                go_wp2
                all_goals first
                  | ((with_reducible refine phK ?_ ?_); (focus rfl); (repeat (first | (with_reducible assumption) | (with_reducible exact Ext.refl _) | (with_reducible refine Ext.drew ?_) | (with_reducible refine Ext.drewN ?_ _) | (with_reducible refine Ext.alloc ?_ _) | (with_reducible refine Ext.trans ?_ (by with_reducible assumption)))))
                  | ((with_reducible refine phT rfl hG ?_); (repeat (first | (with_reducible assumption) | (with_reducible exact Ext.refl _) | (with_reducible refine Ext.drew ?_) | (with_reducible refine Ext.drewN ?_ _) | (with_reducible refine Ext.alloc ?_ _) | (with_reducible refine Ext.trans ?_ (by with_reducible assumption)))))
                  | ((with_reducible refine phU hG ?_); (repeat (first | (with_reducible assumption) | (with_reducible exact Ext.refl _) | (with_reducible refine Ext.drew ?_) | (with_reducible refine Ext.drewN ?_ _) | (with_reducible refine Ext.alloc ?_ _) | (with_reducible refine Ext.trans ?_ (by with_reducible assumption)))))
                  | (with_reducible exact phBox hE)
                  | (with_reducible exact phRow hE))
            case he =>
              intro x wq Eq hd
              simp [PhEnd, at_k, at_p, at_t, at_any] at hd
              simp only [frL, List.length_cons, List.length_nil, List.take_succ_cons, List.take_zero, Nat.reduceAdd, Nat.zero_add, List.setIfInBounds_toArray, List.set_cons_zero, List.set_cons_succ, hd, List.length_cons, List.length_nil, List.drop_succ_cons, List.drop_zero]
              clear hd
              have AD1 := hid (AD.out wq Eq)
              have HEq := hid Eq
              clear AD Eq c0 z
              go_wp2_with fail
              refine (AD1.out).mono ?_
              clear AD1
              rintro e w7 ⟨rfl, F7, hC7, K7⟩
              have K7 := Kp.after HEq.out K7
              have HR := hid (hS.out.add hi3 HXO.out hC7 K7)
              have HKr := hid (hK.out.kp hS.out.cop.choose_spec.ty K7)
              clear hC7 K7
              go_wp2_with fail
              go_roundw
              case rel => exact ⟨j + 1, nx + 1, F7, _, _, _, by omega, by go_num, by omega, by go_num, HR, HKr⟩
              case measure => simp [intOf] <;> omega
          · have hx' : ¬ ((nx : Int) < (D.length : Int)) := by omega
            have HR := hid (hS.out.more (show j ≤ j + 1 by omega))
            go_wp2_with fail
            go_roundw
            case rel => exact ⟨j + 1, nx, F1, cl, op, d, by omega, by go_num, hnx, rfl, HR, hK⟩
            case measure => simp [intOf] <;> omega
        · by_cases hx : nx < D.length
          · obtain ⟨bd, od, rfl, _, q1, q2, hcd⟩ := seg_cells (own_seg hK.out.row) (by omega)
            unfold maxLen at q2
            have hxv : nx < vs.length := by have := hK.out.len; omega
            have z := hcd nx _ (List.getElem?_eq_getElem hxv)
            have ow := hK.out.own nx vs[nx] D[nx] (List.getElem?_eq_getElem hxv) (List.getElem?_eq_getElem hx)
            have hg := HDG.out D[nx] (List.getElem_mem hx)
            generalize D[nx] = dd at ow hg
            obtain ⟨ad, kd, e1⟩ := own_form ow
            rw [e1] at z ow
            have hxo := And.intro (deedG_ok hg) (show ∀ o ∈ (⟨dd, false, [], []⟩ : Ent).ops, OpG o from hg.ops)
            have AD := hid (fun w' (q : Ext wo w') => cadd_any (HG.out.ext q) hS.out.bd (by omega) hi3 (.slice ad dd.length kd, false, .slice none 0 0, .slice none 0 0) ⟨dd, false, [], []⟩ ⟨(own_seg ow).ext q, rfl, Seg.nil _ _, Seg.nil _ _⟩ hxo.1)
            have HXO := hid hxo
            have hx' : ((nx : Int) < (D.length : Int)) := by omega
            clear hcd ow hg e1 hxo
            go_wp2_with fail
            refine wp_region_ph [.k (.pointer (some ⟨b, 0, none⟩)), .k (.pointer (some ⟨b, 0, none⟩)), .k (.pointer (some ⟨b, 0, none⟩)), .k (.pointer (some ⟨A.bm, 0, none⟩)), .k (.int .i64 i), .k (.slice (some ⟨bd, od, none⟩) D.length cD), .k (.int .i64 nx), .k (.pointer (some ⟨bd, od + nx, none⟩)), .k (.agg #[.slice ad dd.length kd]), .k (.agg #[.slice ad dd.length kd, .bool false, .slice none 0 0, .slice none 0 0])] [] (by kernel_rfl) (by kernel_rfl) (by kernel_rfl) rfl rfl ?hs ?hC ?he
            case hC =>
              intro i hi
              simp at hi
            case hs =>
              refine ⟨?_, ?_, ?_, ?_, ?_, ?_, ?_, ?_, ?_, ?_, trivial⟩
              all_goals (
                intro x w' hE hd
                try simp [PhDeps, at_k, at_p, at_t, at_any, Region.binds] at hd
                try ((with_reducible refine Exists.elim hd ?_); clear hd; intro y hd; obtain ⟨hd, hG⟩ := hd)
                have d1 := hE.cell c0
                have d2 := hE.cell z
                first | simp only [frL, List.length_cons, List.length_nil, List.take_succ_cons, List.take_zero, Nat.reduceAdd, Nat.zero_add, List.setIfInBounds_toArray, List.set_cons_zero, List.set_cons_succ, hd] | simp only [frL, List.length_cons, List.length_nil, List.take_succ_cons, List.take_zero, Nat.reduceAdd, Nat.zero_add, List.setIfInBounds_toArray, List.set_cons_zero, List.set_cons_succ]
                go_wp2
                all_goals first
                  | ((with_reducible refine phK ?_ ?_); (focus rfl); (repeat (first | (with_reducible assumption) | (with_reducible exact Ext.refl _) | (with_reducible refine Ext.drew ?_) | (with_reducible refine Ext.drewN ?_ _) | (with_reducible refine Ext.alloc ?_ _) | (with_reducible refine Ext.trans ?_ (by with_reducible assumption)))))
                  | ((with_reducible refine phT rfl hG ?_); (repeat (first | (with_reducible assumption) | (with_reducible exact Ext.refl _) | (with_reducible refine Ext.drew ?_) | (with_reducible refine Ext.drewN ?_ _) | (with_reducible refine Ext.alloc ?_ _) | (with_reducible refine Ext.trans ?_ (by with_reducible assumption)))))
                  | ((with_reducible refine phU hG ?_); (repeat (first | (with_reducible assumption) | (with_reducible exact Ext.refl _) | (with_reducible refine Ext.drew ?_) | (with_reducible refine Ext.drewN ?_ _) | (with_reducible refine Ext.alloc ?_ _) | (with_reducible refine Ext.trans ?_ (by with_reducible assumption)))))
                  | (with_reducible exact phBox hE)
                  | (with_reducible exact phRow hE))
            case he =>
              intro x wq Eq hd
              simp [PhEnd, at_k, at_p, at_t, at_any] at hd
              simp only [frL, List.length_cons, List.length_nil, List.take_succ_cons, List.take_zero, Nat.reduceAdd, Nat.zero_add, List.setIfInBounds_toArray, List.set_cons_zero, List.set_cons_succ, hd, List.length_cons, List.length_nil, List.drop_succ_cons, List.drop_zero]
              clear hd
              have AD1 := hid (AD.out wq Eq)
              have HEq := hid Eq
              clear AD Eq c0 z
              go_wp2_with fail
              refine (AD1.out).mono ?_
              clear AD1
              rintro e w7 ⟨rfl, F7, hC7, K7⟩
              have K7 := Kp.after HEq.out K7
              have HR := hid (hS.out.add hi3 HXO.out hC7 K7)
              have HKr := hid (hK.out.kp hS.out.cop.choose_spec.ty K7)
              clear hC7 K7
              go_wp2_with fail
              go_roundw
              case rel => exact ⟨j + 1, nx + 1, F7, _, _, _, by omega, by go_num, by omega, by go_num, HR, HKr⟩
              case measure => simp [intOf] <;> omega
          · have hx' : ¬ ((nx : Int) < (D.length : Int)) := by omega
            have HR := hid (hS.out.more (show j ≤ j + 1 by omega))
            go_wp2_with fail
            go_roundw
            case rel => exact ⟨j + 1, nx, F1, cl, op, d, by omega, by go_num, hnx, rfl, HR, hK⟩
            case measure => simp [intOf] <;> omega
        · have KW := hid (fun w' (q : Ext wo w') => kMap_any _ p w' (HSG.out.ext (hS.out.E.trans q)) HBD.out)
          have hxo := And.intro (map_ok p) (show ∀ o ∈ (⟨[], true, mkC p 6, mkO p 6⟩ : Ent).ops, OpG o from fun o ho => by simp at ho)
          have AD := hid (fun w' (q : Ext wo w') v2' v3' (hm : IsMap w' (.agg #[v2', v3']) (mkC p 6) (mkO p 6)) => cadd_any (HG.out.ext q) hS.out.bd (by omega) hi3 (.slice none 0 0, true, v2', v3') ⟨[], true, mkC p 6, mkO p 6⟩ ⟨Seg.nil _ _, rfl, (by obtain ⟨_, _, e, h1, _⟩ := hm; injection e with e; injection e with e; injection e with e1 e2; injection e2 with e2 _; subst e1; exact h1), (by obtain ⟨_, _, e, _, h2⟩ := hm; injection e with e; injection e with e; injection e with e1 e2; injection e2 with e2 _; subst e2; exact h2)⟩ hxo.1)
          have HXO := hid hxo
          clear hxo
          go_wp2_with fail
          refine wp_region_ph [.k (.pointer (some ⟨b, 0, none⟩)), .k (.pointer (some ⟨b, 0, none⟩)), .k (.pointer (some ⟨b, 0, none⟩)), .k (.pointer (some ⟨A.bm, 0, none⟩)), .k (.int .i64 i), .k (.slice (some ⟨bq, oq, none⟩) p.length kp), .p (MapY (mkC p 6) (mkO p 6)), .p (MapE (mkC p 6) (mkO p 6))] [] (by kernel_rfl) (by kernel_rfl) (by kernel_rfl) rfl rfl ?hs ?hC ?he
          case hC =>
            intro i hi
            simp at hi
          case hs =>
            refine ⟨?_, ?_, ?_, ?_, ?_, ?_, ?_, ?_, trivial⟩
            all_goals (
              intro x w' hE hd
              try simp [PhDeps, at_k, at_p, at_t, at_any, Region.binds] at hd
              try ((with_reducible refine Exists.elim hd ?_); clear hd; intro y hd; obtain ⟨hd, hG⟩ := hd)
              have d1 := hE.cell c0
              try (obtain ⟨um, gm1, gm2, hmx⟩ := hd; have hm4 := hmx.is.ext gm2; obtain ⟨b1, k1, b2, k2, e6, _, _⟩ := hm4.unpack; rw [e6] at hm4; have HM4 := hid hm4; clear hmx gm1 gm2 hm4)
              first | simp only [frL, List.length_cons, List.length_nil, List.take_succ_cons, List.take_zero, Nat.reduceAdd, Nat.zero_add, List.setIfInBounds_toArray, List.set_cons_zero, List.set_cons_succ, hd] | simp only [frL, List.length_cons, List.length_nil, List.take_succ_cons, List.take_zero, Nat.reduceAdd, Nat.zero_add, List.setIfInBounds_toArray, List.set_cons_zero, List.set_cons_succ]
              go_wp2_with (first | (go_at_call 10; (with_reducible refine (KW.out _ hE).mono ?_); rintro e wa ⟨y, rfl, hy, hea⟩))
              all_goals first
                | ((with_reducible refine phK ?_ ?_); (focus rfl); (repeat (first | (with_reducible assumption) | (with_reducible exact Ext.refl _) | (with_reducible refine Ext.drew ?_) | (with_reducible refine Ext.drewN ?_ _) | (with_reducible refine Ext.alloc ?_ _) | (with_reducible refine Ext.trans ?_ (by with_reducible assumption)))))
                | (exact phN (MapY.mk hy.is) hE hea)
                | (exact phN ⟨_, _, _, _, rfl, HM4.out⟩ hE (Ext.refl _))
                | ((with_reducible refine phT rfl hG ?_); (repeat (first | (with_reducible assumption) | (with_reducible exact Ext.refl _) | (with_reducible refine Ext.drew ?_) | (with_reducible refine Ext.drewN ?_ _) | (with_reducible refine Ext.alloc ?_ _) | (with_reducible refine Ext.trans ?_ (by with_reducible assumption)))))
                | ((with_reducible refine phU hG ?_); (repeat (first | (with_reducible assumption) | (with_reducible exact Ext.refl _) | (with_reducible refine Ext.drew ?_) | (with_reducible refine Ext.drewN ?_ _) | (with_reducible refine Ext.alloc ?_ _) | (with_reducible refine Ext.trans ?_ (by with_reducible assumption)))))
                | (with_reducible exact phBox hE)
                | (with_reducible exact phRow hE))
          case he =>
            intro x wq Eq hd
            simp [PhEnd, at_k, at_p, at_t] at hd
            obtain ⟨e0, e1, e2, e3, e4, e5, -, u7, g1, g2, b1, k1, b2, k2, e7, hm⟩ := hd
            have AD1 := hid (AD.out wq Eq _ _ (hm.ext g2))
            have HEq := hid Eq
            simp only [frL, List.length_cons, List.length_nil, List.take_succ_cons, List.take_zero, Nat.reduceAdd, Nat.zero_add, List.setIfInBounds_toArray, List.set_cons_zero, List.set_cons_succ, e0, e1, e2, e3, e4, e5, e7, List.length_cons, List.length_nil, List.drop_succ_cons, List.drop_zero]
            clear AD Eq c0 e0 e1 e2 e3 e4 e5 e7 g1 g2 hm
            go_wp2_with fail
            refine (AD1.out).mono ?_
            clear AD1
            rintro e w7 ⟨rfl, F7, hC7, K7⟩
            have K7 := Kp.after HEq.out K7
            have HR := hid (hS.out.add hi3 HXO.out hC7 K7)
            have HKr := hid (hK.out.kp hS.out.cop.choose_spec.ty K7)
            clear hC7 K7
            go_wp2_with fail
            go_roundw
            case rel => exact ⟨j + 1, nx, F7, _, _, _, by omega, by go_num, hnx, rfl, HR, HKr⟩
            case measure => simp [intOf] <;> omega
        · have CL := hid (cclose_any HG.out hS.out.bd (by omega) hi3)
          go_wp2_with fail
          refine (CL.out).mono ?_
          clear CL c0
          rintro e w7 ⟨⟨m, rfl⟩, F7, hC7, K7⟩
          have HR := hid (hS.out.cls hi3 hC7 K7)
          have HKr := hid (hK.out.kp hS.out.cop.choose_spec.ty K7)
          clear hC7 K7
          go_wp2_with fail
          go_roundw
          case rel => exact ⟨j + 1, nx, F7, _, _, _, by omega, by go_num, hnx, rfl, HR, HKr⟩
          case measure => simp [intOf] <;> omega
        · have CL := hid (cclose_any HG.out hS.out.bd (by omega) hi3)
          go_wp2_with fail
          refine (CL.out).mono ?_
          clear CL c0
          rintro e w7 ⟨⟨m, rfl⟩, F7, hC7, K7⟩
          have HR := hid (hS.out.cls hi3 hC7 K7)
          have HKr := hid (hK.out.kp hS.out.cop.choose_spec.ty K7)
          clear hC7 K7
          go_wp2_with fail
          go_roundw
          case rel => exact ⟨j + 1, nx, F7, _, _, _, by omega, by go_num, hnx, rfl, HR, HKr⟩
          case measure => simp [intOf] <;> omega
        · obtain ⟨m, hm1, _, hm3⟩ := wi_nat (z := x2) (n := i1 + 1) (by omega)
          have WC := within_any x2 ((i1 + 1 : Nat) : Int) wo (by omega) (by omega)
          rw [hm1] at WC
          have WC := hid WC
          clear hm1
          have hdm := hS.out.dl m hm3
          by_cases hl : d m < (logM cl).length
          · have ST := step_kg HS1.out hS.out.cop hm3 hl
            generalize okE _ _ = r at ST
            have ST := hid ST
            go_wp2_with fail
            refine (WC.out).mono ?_
            clear WC
            rintro e w' ⟨rfl, rfl⟩
            obtain ⟨wo, rfl⟩ : ∃ wq : World, wq = wo := ⟨_, rfl⟩
            go_wp2_with fail
            refine (ST.out).mono ?_
            clear ST c0
            rintro e w7 ⟨rfl, F7, hC7, K7⟩
            have HR := hid ((hS.out.go (show d m + 1 ≤ (logM cl).length from hl) hC7 K7).more (show j ≤ j + 1 by omega))
            have HKr := hid (hK.out.kp hS.out.cop.choose_spec.ty K7)
            clear hC7 K7
            go_wp2_with fail
            go_roundw
            case rel => exact ⟨j + 1, nx, F7, _, _, _, by omega, by go_num, hnx, rfl, HR, HKr⟩
            case measure => simp [intOf] <;> omega
          · have ST := hid (swait_kg HS1.out hS.out.cop hm3 (by omega))
            go_wp2_with fail
            refine (WC.out).mono ?_
            clear WC
            rintro e w' ⟨rfl, rfl⟩
            obtain ⟨wo, rfl⟩ : ∃ wq : World, wq = wo := ⟨_, rfl⟩
            go_wp2_with fail
            refine (ST.out).mono ?_
            clear ST c0
            rintro e w7 ⟨rfl, E7⟩
            have HR := hid ((hS.out.ext E7).more (show j ≤ j + 1 by omega))
            have HKr := hid (hK.out.ext E7)
            clear E7
            go_wp2_with fail
            go_roundw
            case rel => exact ⟨j + 1, nx, F1, cl, op, d, by omega, by go_num, hnx, rfl, HR, HKr⟩
            case measure => simp [intOf] <;> omega
        · obtain ⟨m, hm1, _, hm3⟩ := wi_nat (z := x1) (n := i1 + 1) (by omega)
          obtain ⟨q, hq1, _, hq3⟩ := wi_nat (z := x2) (n := i1 + 1) (by omega)
          have WC := fun w' => within_any x1 ((i1 : Int) + 1) w' (by omega) (by omega)
          have WD := fun w' => within_any x2 ((i1 : Int) + 1) w' (by omega) (by omega)
          have hm1 : wi x1 ((i1 : Int) + 1) = (m : Int) := hm1
          have hq1 : wi x2 ((i1 : Int) + 1) = (q : Int) := hq1
          rw [hm1] at WC
          rw [hq1] at WD
          have WC := hid WC
          have WD := hid WD
          clear hm1 hq1
          have hdm := hS.out.dl m hm3
          have hdq := hS.out.dl q hq3
          have TK := hid (fun w' (E : Ext wo w') (h : d m ≤ d q) => take_kg HS1.out (hS.out.cop.ext E) hm3 hq3 h hdq)
          have TW := hid (fun w' (E : Ext wo w') (h : d q < d m) => twait_kg HS1.out (hS.out.cop.ext E) hm3 hq3 h hdm)
          go_wp2_with fail
          refine wp_region_ph [.k (.pointer (some ⟨b, 0, none⟩)), .k (.slice (some ⟨bq, oq, none⟩) p.length kp), .k (.pointer (some ⟨bq, oq + 1, none⟩)), .k (.int .i64 x1), .k (.int .i64 ((i1 : Int) + 1)), .k (.int .i64 m), .k (.slice (some ⟨bq, oq, none⟩) p.length kp), .k (.pointer (some ⟨bq, oq + 2, none⟩)), .k (.int .i64 x2), .k (.int .i64 ((i1 : Int) + 1)), .k (.int .i64 q)] [] (by kernel_rfl) (by kernel_rfl) (by kernel_rfl) rfl rfl ?hs ?hC ?he
          case hC =>
            intro i hi
            simp at hi
          case hs =>
            refine ⟨?_, ?_, ?_, ?_, ?_, ?_, ?_, ?_, ?_, ?_, ?_, trivial⟩
            all_goals (
              intro x w' hE hd
              try simp [PhDeps, at_k, at_p, at_t, at_any, Region.binds] at hd
              try ((with_reducible refine Exists.elim hd ?_); clear hd; intro y hd; obtain ⟨hd, hG⟩ := hd)
              have d1 := hE.cell y1
              have d2 := hE.cell y2
              first | simp only [frL, List.length_cons, List.length_nil, List.take_succ_cons, List.take_zero, Nat.reduceAdd, Nat.zero_add, List.setIfInBounds_toArray, List.set_cons_zero, List.set_cons_succ, hd] | simp only [frL, List.length_cons, List.length_nil, List.take_succ_cons, List.take_zero, Nat.reduceAdd, Nat.zero_add, List.setIfInBounds_toArray, List.set_cons_zero, List.set_cons_succ]
              go_wp2_with (first | (go_at_call 16; (with_reducible refine (WC.out _).mono ?_); rintro e wa ⟨rfl, rfl⟩) | (go_at_call 16; (with_reducible refine (WD.out _).mono ?_); rintro e wa ⟨rfl, rfl⟩))
              all_goals first
                | ((with_reducible refine phK ?_ ?_); (focus rfl); (repeat (first | (with_reducible assumption) | (with_reducible exact Ext.refl _) | (with_reducible refine Ext.drew ?_) | (with_reducible refine Ext.drewN ?_ _) | (with_reducible refine Ext.alloc ?_ _) | (with_reducible refine Ext.trans ?_ (by with_reducible assumption)))))
                | ((with_reducible refine phT rfl hG ?_); (repeat (first | (with_reducible assumption) | (with_reducible exact Ext.refl _) | (with_reducible refine Ext.drew ?_) | (with_reducible refine Ext.drewN ?_ _) | (with_reducible refine Ext.alloc ?_ _) | (with_reducible refine Ext.trans ?_ (by with_reducible assumption)))))
                | ((with_reducible refine phU hG ?_); (repeat (first | (with_reducible assumption) | (with_reducible exact Ext.refl _) | (with_reducible refine Ext.drew ?_) | (with_reducible refine Ext.drewN ?_ _) | (with_reducible refine Ext.alloc ?_ _) | (with_reducible refine Ext.trans ?_ (by with_reducible assumption)))))
                | (with_reducible exact phBox hE)
                | (with_reducible exact phRow hE))
          case he =>
            intro x wq Eq hd
            simp [PhEnd, at_k, at_p, at_t, at_any] at hd
            simp only [frL, List.length_cons, List.length_nil, List.take_succ_cons, List.take_zero, Nat.reduceAdd, Nat.zero_add, List.setIfInBounds_toArray, List.set_cons_zero, List.set_cons_succ, hd, List.length_cons, List.length_nil, List.drop_succ_cons, List.drop_zero]
            clear hd
            have HEq := hid Eq
            clear Eq WC WD c0 y0 y1 y2
            by_cases hl : d m ≤ d q
            · have TK1 := hid (TK.out wq HEq.out hl)
              clear TK TW
              go_wp2_with fail
              refine (TK1.out).mono ?_
              clear TK1
              rintro e w7 ⟨rfl, F7, hC7, K7⟩
              have K7 := Kp.after HEq.out K7
              have HR := hid ((hS.out.go hdq hC7 K7).more (show j ≤ j + 1 by omega))
              have HKr := hid (hK.out.kp hS.out.cop.choose_spec.ty K7)
              clear hC7 K7
              go_wp2_with fail
              go_roundw
              case rel => exact ⟨j + 1, nx, F7, _, _, _, by omega, by go_num, hnx, rfl, HR, HKr⟩
              case measure => simp [intOf] <;> omega
            · have TW1 := hid (TW.out wq HEq.out (by omega))
              clear TK TW
              go_wp2_with fail
              refine (TW1.out).mono ?_
              clear TW1
              rintro e w7 ⟨rfl, E7⟩
              have HR := hid ((hS.out.ext (HEq.out.trans E7)).more (show j ≤ j + 1 by omega))
              have HKr := hid (hK.out.ext (HEq.out.trans E7))
              clear E7
              go_wp2_with fail
              go_roundw
              case rel => exact ⟨j + 1, nx, F1, cl, op, d, by omega, by go_num, hnx, rfl, HR, HKr⟩
              case measure => simp [intOf] <;> omega
    · obtain rfl : j = N := by omega
      have HR0 := hid (hS.out.more (show j ≤ 50 + 0 by omega))
      clear hS hK
      go_wp2_with fail
      go_loopw [140] (fun iv wr => ∃ (i : Nat) (F : Nat → Prop) (cl : List (List Bat)) (op : List Bat), i ≤ i0 + 1 ∧ iv = .int .i64 i ∧ Hid (FedS w wr b (i0 + 1) (i1 + 1) (50 + i) ⟨C0, O0, S0, 0, []⟩ F cl op d)) (fun iv _ => i0 + 1 - (intOf iv).toNat)
      case atStart => exact ⟨0, F1, cl, op, Nat.zero_le _, rfl, HR0⟩
      case round =>
        clear HR0
        obtain ⟨wo, rfl⟩ : ∃ wo : World, wo = wr := ⟨_, rfl⟩
        obtain ⟨i, F2, cl2, op2, hi, rfl, hS⟩ := hrel
        obtain ⟨A, hG⟩ := hS.out.cop
        have c0 := hG.cells.1
        by_cases hil : i < i0 + 1
        · have hil' : ((i : Int) < ((i0 + 1 : Nat) : Int)) := by omega
          have CL := hid (cclose_any hG hS.out.bd (by omega) hil)
          clear hG
          go_wp2_with fail
          refine (CL.out).mono ?_
          clear CL c0
          rintro e w7 ⟨⟨m, rfl⟩, F7, hC7, K7⟩
          have HR := hid (hS.out.cls hil hC7 K7)
          clear hC7 K7
          go_wp2_with fail
          go_roundw
          case rel => exact ⟨i + 1, F7, _, _, by omega, by go_num, HR⟩
          case measure => simp [intOf] <;> omega
        · have hil' : ¬ ((i : Int) < ((i0 + 1 : Nat) : Int)) := by omega
          have h1 := hS.out.one (by omega) HOK.out rfl
          have ML := hid (mlog_okA hG.mer h1.log.sm (by have := h1.log.len; omega) h1.log.few)
          have HR := hid (hS.out.more (show 50 + i ≤ 54 by omega))
          clear hG h1 hS
          go_wp2_with fail
          refine (ML.out).mono ?_
          clear ML c0
          rintro e w7 ⟨vL, rfl, hL⟩
          obtain ⟨aL, kL, rfl⟩ := hL.form
          have HL := hid hL
          clear hL
          go_wp2
          go_ret3
          exact ⟨_, S0, b, F2, cl2, op2, d, wo, rfl, HSR.out.1, HSR.out.2.1, HSR.out.2.2, HR.out, HL.out⟩
end Go.Proofs.YtddghaoejnbkaaaGreatDoor
