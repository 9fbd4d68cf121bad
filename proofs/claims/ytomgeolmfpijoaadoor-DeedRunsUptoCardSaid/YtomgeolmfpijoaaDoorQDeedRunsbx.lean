/- Contracts and lemmas for the proof of DeedRuns; each theorem states its own conditions. -/
import Derived.Test.YtomgeolmfpijoaaDoorQDeedRunsbv
import Derived.Test.YtomgeolmfpijoaaDoorQDeedRunsba
import Derived.Test.YtomgeolmfpijoaaDoorQDeedRunsbw
import Derived.Test.YtomgeolmfpijoaaDoorQDeedRunsax
set_option linter.unusedVariables false
set_option linter.unusedSimpArgs false
/- Contracts and lemmas for the proofs of this seat; each theorem states its own conditions. -/
namespace Go.Proofs.YtomgeolmfpijoaaDoor
open Go.RowKit Go.Maps
/-! DeedRuns: whatever is handed in -/
def opA : GOp := ⟨1, ⟨#[97]⟩, ⟨#[]⟩, 5⟩
theorem opA_ok : DeedOk [opA] := deed_ok (by decide +kernel)
theorem runA : runS [] [opA] = [(⟨#[97]⟩, 5)] ∧ runB [] [opA] = true := by decide +kernel
theorem okNil : StoreOk [] := store_ok (by decide +kernel)
theorem of_FV {l : Prs} (h : StoreOk l) : FV (ofF l l.length) := fun x c hc => by
  have e := of_val h l.length (Nat.le_refl _) x
  rw [hc, List.take_length] at e
  have e' : c = valP l x := e
  rw [e']
  exact valB_iff.2 (val_bd h x)
theorem of_atF {l : Prs} (h : StoreOk l) : atF (ofF l l.length) = valP l := funext fun x => by
  have e := of_val h l.length (Nat.le_refl _) x
  rw [List.take_length] at e
  exact e
set_option maxRecDepth 100000 in
set_option maxHeartbeats 16000000 in
theorem druns_walk (v vd ve : Value) (l : Prs) (d : Ops) (D : List Ops) (w : World) (hv : Seg w v 2 l.length (cP l)) (hw : PrsW l) (hvd : Seg w vd 4 d.length (cO d)) (od : opsSm d) (hD : SegDs w ve D) (oD : ∀ d ∈ D, opsSm d) (hlen : l.length ≤ 400000) :
    Calls Tryd.prog 9 #[v, .agg #[vd], ve] w fun e w' => e = .returned (.bool true) ∧ Ext w w' := by
  have sk : ∀ p ∈ l, p.1.size ≤ 9223372036854775807 := fun p hp => by have := (hw p hp).1; unfold maxLen at this; omega
  obtain ⟨ax, cx, rfl⟩ := seg_form hv
  obtain ⟨x1, c1, rfl⟩ := seg_form hvd
  obtain ⟨xd, cd, rfl, _⟩ := hD.form
  have b0 := heap_alloc_new w (.cells #[.slice x1 d.length c1] 46)
  have E := (Ext.refl w).alloc (.cells #[.slice x1 d.length c1] 46)
  obtain ⟨w0, hw0⟩ : ∃ w0, w.alloc (.cells #[.slice x1 d.length c1] 46) = w0 := ⟨_, rfl⟩
  rw [hw0] at b0 E
  have y0 := cell_of_one b0
  have RN := hid (fun w' (q : Ext w0 w') => run_all _ _ l d w' (hv.ext (E.trans q)) (hvd.ext (E.trans q)) sk od (by omega))
  have SN := hid (fun w' (q : Ext w0 w') => serial_all _ _ l D w' (hv.ext (E.trans q)) (hD.ext (E.trans q)) sk oD (by omega))
  have RS := hid (fun w' (q : Ext w0 w') => rstore_any _ l w' (hv.ext (E.trans q)) sk)
  have RD := hid (fun w' (q : Ext w0 w') => rdeed_any _ d w' (hvd.ext (E.trans q)) od)
  have RE := hid (fun w' (q : Ext w0 w') => rdeeds_any _ D w' (hD.ext (E.trans q)) oD)
  have RO := hid (fun w' (q : Ext w0 w') => rof_any _ l w' (hv.ext (E.trans q)) hw (by omega))
  have HVD := hid (fun w' (q : Ext w0 w') => hvd.ext (E.trans q))
  have HDD := hid (fun w' (q : Ext w0 w') => hD.ext (E.trans q))
  clear hv hvd hD od oD b0
  go_enter Tryd.func9, Tryd.ntmps9
  go_wp2_with fail
  refine (RN.out _ (Ext.refl _)).mono ?_
  clear RN
  rintro e w1 ⟨vx, X, ok, rfl, hx, hx0', hx1', E1⟩
  have hx0 := hid hx0'
  have hx1 := hid hx1'
  clear hx0' hx1'
  obtain ⟨a1, k1, rfl⟩ := own_form hx
  have y1 := E1.cell y0
  have SX := hid (own_seg hx)
  clear hx y0
  go_wp2_with fail
  refine (SN.out _ E1).mono ?_
  clear SN
  rintro e w2 ⟨vy, vo, Y, O, rfl, hy, ho, hy0', hy1', E2⟩
  have hy0 := hid hy0'
  have hy1 := hid hy1'
  clear hy0' hy1'
  obtain ⟨a2, k2, rfl⟩ := own_form hy
  obtain ⟨a3, k3, rfl⟩ := own_form ho
  have y0 := E2.cell y1
  have SX2 := hid (SX.out.ext E2)
  have SY := hid (own_seg hy)
  have SO := hid (own_seg ho)
  replace E2 := E1.trans E2
  clear E1 hy ho y1 SX
  have B3 := heap_alloc_new w2 (.cells #[.int .i64 1, .string ⟨#[97]⟩, .string ⟨#[]⟩, .int .i64 5] 110)
  have E3 := (Ext.refl w2).alloc (.cells #[.int .i64 1, .string ⟨#[97]⟩, .string ⟨#[]⟩, .int .i64 5] 110)
  have sgA : Seg (w2.alloc (.cells #[.int .i64 1, .string ⟨#[97]⟩, .string ⟨#[]⟩, .int .i64 5] 110)) (.slice (some ⟨w2.heap.size, 0, none⟩) 1 1) 4 [opA].length (cO [opA]) := seg_blk (xs := cO [opA]) B3 rfl (Nat.le_refl _) (by simp [maxLen])
  have RA := run_ok (.slice none 0 0) _ [] [opA] _ (Seg.nil _ _) sgA okNil opA_ok (by intro o ho; simp at ho; subst ho; decide) (by simp)
  rw [runA.1, runA.2] at RA
  have RA := hid RA
  have SX3 := hid (SX2.out.ext E3)
  have SY3 := hid (SY.out.ext E3)
  have SO3 := hid (SO.out.ext E3)
  have y1 := E3.cell y0
  replace E3 := E2.trans E3
  clear B3 sgA E2 SX2 SY SO y0
  go_wp2_with fail
  refine (RA.out).mono ?_
  clear RA
  rintro e w3 ⟨v3, rfl, o3, E4⟩
  obtain ⟨a4, k4, rfl⟩ := own_form o3
  have s3 := own_seg o3
  have EP := (Ext.refl w3).alloc (.cells #[.string ⟨#[97]⟩, .int .i64 5] 98)
  have sp : Seg (w3.alloc (.cells #[.string ⟨#[97]⟩, .int .i64 5] 98)) (.slice (some ⟨w3.heap.size, 0, none⟩) 1 1) 2 [((⟨#[97]⟩ : ByteArray), (5 : Int))].length (cP [(⟨#[97]⟩, 5)]) := seg_blk (xs := cP [(⟨#[97]⟩, 5)]) (heap_alloc_new _ _) rfl (Nat.le_refl _) (by simp [maxLen])
  have EQ := hid (by have q := equal_Pair _ _ [((⟨#[97]⟩ : ByteArray), (5 : Int))] [(⟨#[97]⟩, 5)] _ (s3.ext EP) sp; rw [decide_eq_true rfl] at q; exact q)
  replace EP := E4.trans EP
  have SX4 := hid (SX3.out.ext EP)
  have SY4 := hid (SY3.out.ext EP)
  have SO4 := hid (SO3.out.ext EP)
  have y2 := EP.cell y1
  replace EP := E3.trans EP
  clear o3 s3 sp E3 E4 SX3 SY3 SO3 y1
  go_wp2_with fail
  refine (EQ.out).mono ?_
  clear EQ
  rintro e w4 ⟨rfl, n1, rfl⟩
  have Z := (Ext.refl (w3.alloc (.cells #[.string ⟨#[97]⟩, .int .i64 5] 98))).drewN n1
  have SX5 := hid (SX4.out.ext Z)
  have SY5 := hid (SY4.out.ext Z)
  have SO5 := hid (SO4.out.ext Z)
  have y3 := Z.cell y2
  have E5 := EP.trans Z
  have RS5 := hid (RS.out _ E5)
  clear Z EP SX4 SY4 SO4 y2 RS
  go_wp2_with fail
  refine (RS5.out).mono ?_
  clear RS5
  rintro e w5 ⟨rfl, E6⟩
  have SX6 := hid (SX5.out.ext E6)
  have SY6 := hid (SY5.out.ext E6)
  have SO6 := hid (SO5.out.ext E6)
  have y4 := E6.cell y3
  replace E6 := E5.trans E6
  clear E5 SX5 SY5 SO5 y3
  have UE := hid (show runE l d = if storeErr l ≠ 0 then storeErr l else deedE d from rfl)
  have VE := hid (show serE l D = if storeErr l ≠ 0 then storeErr l else deedsE D from rfl)
  have SOK := hid (fun (h : storeErr l = 0) => store_ok h)
  generalize runE l d = re at UE hx0 hx1 ⊢
  generalize serE l D = se at VE hy0 hy1 ⊢
  by_cases h : storeErr l = 0
  · have SO_K := SOK.out h
    have h1 : re = deedE d := by rw [UE.out, if_neg (by simp [h])]
    have h2 : se = deedsE D := by rw [VE.out, if_neg (by simp [h])]
    subst h1
    subst h2
    rw [h]
    have RD6 := hid (RD.out _ E6)
    clear UE VE h RD SOK
    go_wp2_with fail
    refine (RD6.out).mono ?_
    clear RD6
    rintro e w6 ⟨rfl, E7⟩
    have SX7 := hid (SX6.out.ext E7)
    have SY7 := hid (SY6.out.ext E7)
    have SO7 := hid (SO6.out.ext E7)
    have y5 := E7.cell y4
    replace E7 := E6.trans E7
    clear E6 SX6 SY6 SO6 y4
    by_cases hd0 : deedE d = 0
    · obtain ⟨rfl, rfl⟩ := hx0.out hd0
      have odk := deed_ok hd0
      rw [hd0]
      have RV := run_val SO_K odk.ops
      have HR := hid (fun (bm : Nat) (Dm : DU) (w9 : World) (hom : w9.ownsMap Tryd.prog 9 (plainElem Tryd.prog 3) bm l.length Dm) (hFm : MapF kS okS dI Dm (ofF l l.length)) (q : Ext w0 w9) => rrun_any bm l.length Dm (ofF l l.length) _ d w9 hom hFm (of_FV SO_K) (HVD.out _ q) odk (by omega))
      rw [of_atF SO_K, ← RV.2.2, ← RV.2.1] at HR
      have HRV := hid RV.1
      have d8 := odk.hi
      clear RV hx0 hx1 odk hd0
      generalize runS l d = XR at HR HRV SX7 ⊢
      generalize runB l d = rb at HR ⊢
      have HSO := hid SO_K
      clear SO_K
      go_wp2_with fail
      refine wp_region_ph [.k (.slice ax l.length cx), .p (fun v w9 => ∃ bm, v = .map (some bm) ∧ ∃ Dm, w9.ownsMap Tryd.prog 9 (plainElem Tryd.prog 3) bm l.length Dm ∧ MapF kS okS dI Dm (ofF l l.length)), .k (.agg #[.slice x1 d.length c1]), .t (.bool rb) (fun v w9 => ∃ b', v = .map (some b') ∧ ∃ n' D' f', w9.ownsMap Tryd.prog 9 (plainElem Tryd.prog 3) b' n' D' ∧ MapF kS okS dI D' f' ∧ atF f' = valP XR ∧ n' ≤ 400100), .t (.bool rb) (fun v w9 => ∃ b', v = .map (some b') ∧ ∃ n' D' f', w9.ownsMap Tryd.prog 9 (plainElem Tryd.prog 3) b' n' D' ∧ MapF kS okS dI D' f' ∧ atF f' = valP XR ∧ n' ≤ 400100), .p (fun v w9 => ∃ b', v = .map (some b') ∧ ∃ n' D' f', w9.ownsMap Tryd.prog 9 (plainElem Tryd.prog 3) b' n' D' ∧ MapF kS okS dI D' f' ∧ atF f' = valP XR ∧ n' ≤ 400100), .k (.bool rb)] [6] (by kernel_rfl) (by kernel_rfl) (by kernel_rfl) rfl rfl ?hs ?hC ?he
      case hC =>
        intro i hi
        simp only [List.mem_cons, List.not_mem_nil, or_false] at hi
        subst hi
        all_goals (
          intro o u ho hu
          simp [RS.k, RS.p, RS.t, RS.any] at ho hu
          subst ho; subst hu
          refine ⟨rfl, fun x w2 hd w3 => ?_⟩
          simp [PhDeps, at_k, at_p, at_t, at_any, Region.binds] at hd
          try ((with_reducible refine Exists.elim hd ?_); clear hd; intro y hd; obtain ⟨hd, hG⟩ := hd)
          simp [frL, hd, List.take_succ_cons, execOp, Act.eval, Frame.eval, Instr.extract])
      case hs =>
        refine ⟨?_, ?_, ?_, ?_, ?_, ?_, ?_, trivial⟩
        all_goals (
          intro x w' hE hd
          try simp [PhDeps, at_k, at_p, at_t, at_any, Region.binds] at hd
          try ((with_reducible refine Exists.elim hd ?_); clear hd; intro y hd; obtain ⟨hd, hG⟩ := hd)
          have f0 := hE.cell y5
          try (obtain ⟨⟨wu, Eu1, Eu2, bm, hx1, Dm, hom, hFm⟩, hx2⟩ := hd; replace hom := ownsMap_ext hom Eu2; clear Eu1 Eu2; simp only [hx1, hx2])
          first | simp only [frL, List.length_cons, List.length_nil, List.take_succ_cons, List.take_zero, Nat.reduceAdd, Nat.zero_add, List.setIfInBounds_toArray, List.set_cons_zero, List.set_cons_succ, hd] | simp only [frL, List.length_cons, List.length_nil, List.take_succ_cons, List.take_zero, Nat.reduceAdd, Nat.zero_add, List.setIfInBounds_toArray, List.set_cons_zero, List.set_cons_succ]
          go_wp2_with (first | (go_at_call 67; refine (RO.out _ (E7.trans hE)).mono ?_; rintro e wd ⟨bm, Dm, rfl, rfl, hom, hFm, ED⟩) | (go_at_call 70; refine (HR.out bm Dm _ hom hFm (E7.trans hE)).mono ?_; rintro e wr ⟨b', n', D', f', rfl, ho', hF', hat', _, hn', ER⟩))
          all_goals first
            | ((with_reducible refine phK ?_ ?_); (focus rfl); (repeat (first | (with_reducible assumption) | (with_reducible exact Ext.refl _) | (with_reducible refine Ext.drew ?_) | (with_reducible refine Ext.drewN ?_ _) | (with_reducible refine Ext.alloc ?_ _) | (with_reducible refine Ext.trans ?_ (by with_reducible assumption)))))
            | (exact phN ⟨_, rfl, Dm, hom, hFm⟩ hE ED)
            | (exact phTN rfl ⟨_, rfl, _, _, ho', _, hF', hat', by omega⟩ hE ER)
            | (exact phTN rfl ⟨_, rfl, _, _, _, ho', hF', hat', by omega⟩ hE ER)
            | ((with_reducible refine phT rfl hG ?_); (repeat (first | (with_reducible assumption) | (with_reducible exact Ext.refl _) | (with_reducible refine Ext.drew ?_) | (with_reducible refine Ext.drewN ?_ _) | (with_reducible refine Ext.alloc ?_ _) | (with_reducible refine Ext.trans ?_ (by with_reducible assumption)))))
            | ((with_reducible refine phU hG ?_); (repeat (first | (with_reducible assumption) | (with_reducible exact Ext.refl _) | (with_reducible refine Ext.drew ?_) | (with_reducible refine Ext.drewN ?_ _) | (with_reducible refine Ext.alloc ?_ _) | (with_reducible refine Ext.trans ?_ (by with_reducible assumption)))))
            | (with_reducible exact phBox hE)
            | (with_reducible exact phRow hE))
      case he =>
        intro x wR ER hd
        simp [PhEnd, at_k, at_p, at_t] at hd
        obtain ⟨e0, ⟨u1, _, _, bq, e1, _⟩, e2, ⟨y3, e3, _⟩, ⟨y4, e4, _⟩, ⟨u5, _, g5, bn, e5, nn, Dn, hon, fn, hFn, hatn, hnn⟩, e6⟩ := hd
        replace hon := ownsMap_ext hon g5
        simp only [frL, List.length_cons, List.length_nil, List.take_succ_cons, List.take_zero, Nat.reduceAdd, Nat.zero_add, List.setIfInBounds_toArray, List.set_cons_zero, List.set_cons_succ, e0, e1, e2, e3, e4, e5, e6, List.length_cons, List.length_nil, List.drop_succ_cons, List.drop_zero]
        have SX8 := hid (SX7.out.ext ER)
        have SY7' := hid (SY7.out.ext ER)
        have SO7' := hid (SO7.out.ext ER)
        replace ER := E7.trans ER
        have LI := hid (rlist_any bn nn Dn fn wR hon hFn (by omega))
        have HAT := hid hatn
        clear e0 e1 e2 e3 e4 e5 e6 g5 E7 SX7 SY7 SO7 hon hFn hatn HR y5 HVD
        go_wp2_with fail
        refine (LI.out).mono ?_
        clear LI
        rintro e wf ⟨vL, ll, rfl, r1, r2, r3, r4, r5, EF⟩
        obtain ⟨aL, cL, rfl⟩ := own_form r5
        have hlj : XR = ll := prs_ext HRV.out.srt r1 HRV.out.nz r2 (fun x => by rw [← HAT.out, r3]; rfl)
        subst hlj
        have QE := equal_Pair _ _ XR XR wf (SX8.out.ext EF) (own_seg r5)
        rw [decide_eq_true rfl] at QE
        have QE := hid QE
        have SYf := hid (SY7'.out.ext EF)
        have SOf := hid (SO7'.out.ext EF)
        replace EF := ER.trans EF
        clear r1 r2 r3 r4 r5 ER SX8 SY7' SO7' HAT HRV
        go_wp2_with fail
        refine (QE.out).mono ?_
        clear QE
        rintro e wg ⟨rfl, ng, rfl⟩
        have E7 := EF.drewN ng
        have SY7 := hid (SYf.out.ext ((Ext.refl wf).drewN ng))
        have SO7 := hid (SOf.out.ext ((Ext.refl wf).drewN ng))
        clear EF SYf SOf
        generalize wf.drewN ng = w7 at E7 SY7 SO7 ⊢
        have RE1 := hid (RE.out _ E7)
        clear RE
        go_wp2_with fail
        refine (RE1.out).mono ?_
        clear RE1
        rintro e wc ⟨rfl, EC⟩
        have SY8 := hid (SY7.out.ext EC)
        have SO8 := hid (SO7.out.ext EC)
        replace EC := E7.trans EC
        clear E7 SY7 SO7
        by_cases h3 : deedsE D = 0
        · obtain ⟨rfl, rfl⟩ := hy0.out h3
          obtain ⟨h60, hDok⟩ := deeds_ok' h3
          rw [h3]
          have RO1 := hid (RO.out _ EC)
          have SV := hid (serv_val hDok HSO.out)
          have SROK := hid (ser_ok hDok HSO.out)
          clear hy0 hy1 RO h3
          go_wp2_with fail
          refine (RO1.out).mono ?_
          clear RO1
          rintro e wd ⟨bm, Dm, rfl, hbm, hom, hFm, ED⟩
          clear hbm
          have SY9 := hid (SY8.out.ext ED)
          have SO9 := hid (SO8.out.ext ED)
          replace ED := EC.trans ED
          have SE := hid (rserial_any bm l.length Dm (ofF l l.length) _ D wd hom hFm (of_FV HSO.out) (HDD.out _ ED) hDok h60 (by omega))
          have HD9 := hid h60
          clear EC SY8 SO8 hom hFm hDok h60
          go_wp2_with fail
          refine (SE.out).mono ?_
          clear SE
          rintro e we ⟨bn, nn, Dn, fn, vq, rfl, hon, hFn, hatn, hfvn, hnn, hoq, EE⟩
          obtain ⟨aq, kq, rfl⟩ := own_form hoq
          have SYa := hid (SY9.out.ext EE)
          have SOa := hid (SO9.out.ext EE)
          have SQ := hid (own_seg hoq)
          have LI := hid (rlist_any bn nn Dn fn we hon hFn (by have := HD9.out; omega))
          have HAT := hid hatn
          replace EE := ED.trans EE
          clear ED SY9 SO9 hon hFn hatn hfvn hoq HD9
          have SVY := SV.out
          have okY := SROK.out
          have HSY := hid (And.intro okY SVY)
          clear okY SVY SV SROK
          obtain ⟨YY, hYY⟩ : ∃ YY, serS l D = YY := ⟨_, rfl⟩
          obtain ⟨OO, hOO⟩ : ∃ OO, serB l D = OO := ⟨_, rfl⟩
          rw [hYY, hOO] at HSY
          rw [hYY] at SYa
          rw [hOO] at SOa
          simp only [hYY, hOO]
          clear hYY hOO
          rw [of_atF HSO.out] at SQ HAT
          rw [← HSY.out.2.2] at SQ
          simp only [of_atF HSO.out, ← HSY.out.2.2]
          generalize serO (valP l) D = OO2 at *
          go_wp2_with fail
          refine (LI.out).mono ?_
          clear LI
          rintro e wf ⟨vL, ll, rfl, r1, r2, r3, r4, r5, EF⟩
          obtain ⟨aL, cL, rfl⟩ := own_form r5
          have hlj : YY = ll := prs_ext HSY.out.1.srt r1 HSY.out.1.nz r2 (fun x => by rw [HSY.out.2.1, ← HAT.out, r3]; rfl)
          subst hlj
          have QE := equal_Pair _ _ YY YY wf (SYa.out.ext EF) (own_seg r5)
          rw [decide_eq_true rfl] at QE
          have QE := hid QE
          have SOb := hid (SOa.out.ext EF)
          have SQb := hid (SQ.out.ext EF)
          replace EE := EE.trans EF
          clear r1 r2 r3 r4 r5 EF SYa SOa SQ HAT HSY
          go_wp2_with fail
          refine (QE.out).mono ?_
          clear QE
          rintro e wg ⟨rfl, ng, rfl⟩
          have QB := equal_Bool _ _ OO OO (wf.drewN ng) (SOb.out.ext ((Ext.refl wf).drewN ng)) (SQb.out.ext ((Ext.refl wf).drewN ng))
          rw [decide_eq_true rfl] at QB
          have QB := hid QB
          clear SOb SQb
          go_wp2_with fail
          refine (QB.out).mono ?_
          clear QB
          rintro e wh ⟨rfl, nh, rfl⟩
          go_wp2
          go_ret
          exact ⟨rfl, E.trans (EE.drewN _)⟩
        · obtain ⟨rfl, rfl⟩ := hy1.out h3
          have q3 : (deedsE D != 0) = true := by simp [h3]
          clear hy0 hy1 h3
          generalize deedsE D = ds at q3 ⊢
          go_wp2
          go_ret
          exact ⟨rfl, E.trans EC⟩
    · obtain ⟨rfl, rfl⟩ := hx1.out hd0
      have q2 : (deedE d != 0) = true := by simp [hd0]
      have HSO := hid SO_K
      clear hx0 hx1 hd0 SO_K
      generalize deedE d = de at q2 ⊢
      have RE1 := hid (RE.out _ E7)
      clear RE
      go_wp2_with fail
      refine (RE1.out).mono ?_
      clear RE1
      rintro e wc ⟨rfl, EC⟩
      have SY8 := hid (SY7.out.ext EC)
      have SO8 := hid (SO7.out.ext EC)
      replace EC := E7.trans EC
      clear E7 SY7 SO7
      by_cases h3 : deedsE D = 0
      · obtain ⟨rfl, rfl⟩ := hy0.out h3
        obtain ⟨h60, hDok⟩ := deeds_ok' h3
        rw [h3]
        have RO1 := hid (RO.out _ EC)
        have SV := hid (serv_val hDok HSO.out)
        have SROK := hid (ser_ok hDok HSO.out)
        clear hy0 hy1 RO h3
        go_wp2_with fail
        refine (RO1.out).mono ?_
        clear RO1
        rintro e wd ⟨bm, Dm, rfl, hbm, hom, hFm, ED⟩
        clear hbm
        have SY9 := hid (SY8.out.ext ED)
        have SO9 := hid (SO8.out.ext ED)
        replace ED := EC.trans ED
        have SE := hid (rserial_any bm l.length Dm (ofF l l.length) _ D wd hom hFm (of_FV HSO.out) (HDD.out _ ED) hDok h60 (by omega))
        have HD9 := hid h60
        clear EC SY8 SO8 hom hFm hDok h60
        go_wp2_with fail
        refine (SE.out).mono ?_
        clear SE
        rintro e we ⟨bn, nn, Dn, fn, vq, rfl, hon, hFn, hatn, hfvn, hnn, hoq, EE⟩
        obtain ⟨aq, kq, rfl⟩ := own_form hoq
        have SYa := hid (SY9.out.ext EE)
        have SOa := hid (SO9.out.ext EE)
        have SQ := hid (own_seg hoq)
        have LI := hid (rlist_any bn nn Dn fn we hon hFn (by have := HD9.out; omega))
        have HAT := hid hatn
        replace EE := ED.trans EE
        clear ED SY9 SO9 hon hFn hatn hfvn hoq HD9
        have SVY := SV.out
        have okY := SROK.out
        have HSY := hid (And.intro okY SVY)
        clear okY SVY SV SROK
        obtain ⟨YY, hYY⟩ : ∃ YY, serS l D = YY := ⟨_, rfl⟩
        obtain ⟨OO, hOO⟩ : ∃ OO, serB l D = OO := ⟨_, rfl⟩
        rw [hYY, hOO] at HSY
        rw [hYY] at SYa
        rw [hOO] at SOa
        simp only [hYY, hOO]
        clear hYY hOO
        rw [of_atF HSO.out] at SQ HAT
        rw [← HSY.out.2.2] at SQ
        simp only [of_atF HSO.out, ← HSY.out.2.2]
        generalize serO (valP l) D = OO2 at *
        go_wp2_with fail
        refine (LI.out).mono ?_
        clear LI
        rintro e wf ⟨vL, ll, rfl, r1, r2, r3, r4, r5, EF⟩
        obtain ⟨aL, cL, rfl⟩ := own_form r5
        have hlj : YY = ll := prs_ext HSY.out.1.srt r1 HSY.out.1.nz r2 (fun x => by rw [HSY.out.2.1, ← HAT.out, r3]; rfl)
        subst hlj
        have QE := equal_Pair _ _ YY YY wf (SYa.out.ext EF) (own_seg r5)
        rw [decide_eq_true rfl] at QE
        have QE := hid QE
        have SOb := hid (SOa.out.ext EF)
        have SQb := hid (SQ.out.ext EF)
        replace EE := EE.trans EF
        clear r1 r2 r3 r4 r5 EF SYa SOa SQ HAT HSY
        go_wp2_with fail
        refine (QE.out).mono ?_
        clear QE
        rintro e wg ⟨rfl, ng, rfl⟩
        have QB := equal_Bool _ _ OO OO (wf.drewN ng) (SOb.out.ext ((Ext.refl wf).drewN ng)) (SQb.out.ext ((Ext.refl wf).drewN ng))
        rw [decide_eq_true rfl] at QB
        have QB := hid QB
        clear SOb SQb
        go_wp2_with fail
        refine (QB.out).mono ?_
        clear QB
        rintro e wh ⟨rfl, nh, rfl⟩
        go_wp2
        go_ret
        exact ⟨rfl, E.trans (EE.drewN _)⟩
      · obtain ⟨rfl, rfl⟩ := hy1.out h3
        have q3 : (deedsE D != 0) = true := by simp [h3]
        clear hy0 hy1 h3
        generalize deedsE D = ds at q3 ⊢
        go_wp2
        go_ret
        exact ⟨rfl, E.trans EC⟩
  · have h1 : re = storeErr l := by rw [UE.out, if_pos h]
    have h2 : se = storeErr l := by rw [VE.out, if_pos h]
    obtain ⟨rfl, rfl⟩ := hx1.out (by rw [h1]; exact h)
    obtain ⟨rfl, rfl⟩ := hy1.out (by rw [h2]; exact h)
    subst h1
    subst h2
    have q : (storeErr l != 0) = true := by simp [h]
    clear UE VE hx0 hx1 hy0 hy1 h
    go_wp2
    go_ret
    exact ⟨rfl, E.trans E6⟩
end Go.Proofs.YtomgeolmfpijoaaDoor
