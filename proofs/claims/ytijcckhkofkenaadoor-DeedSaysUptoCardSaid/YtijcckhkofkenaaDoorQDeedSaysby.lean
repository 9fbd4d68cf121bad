/- Contracts and lemmas for the proof of DeedSays; each theorem states its own conditions. -/
import Derived.Test.YtijcckhkofkenaaDoorQDeedSaysbx
set_option linter.unusedVariables false
set_option linter.unusedSimpArgs false
/- Contracts and lemmas for the proofs of this seat; each theorem states its own conditions. -/
namespace Go.Proofs.YtijcckhkofkenaaDoor
open Go.RowKit Go.Maps
/-! DeedSays: whatever is handed in -/
theorem empty_E : deedE [] = 2 := by simp [deedE]
theorem dec_refl {α : Type} [DecidableEq α] (a : α) : decide (a = a) = true := by simp
set_option maxRecDepth 100000 in
set_option maxHeartbeats 2000000 in
theorem dsays_walk (va vb : Value) (a b : Ops) (w : World) (ha : Seg w va 4 a.length (cO a)) (hb : Seg w vb 4 b.length (cO b)) (oa : opsSm a) (ob : opsSm b) :
    Calls Tryd.prog 6 #[.agg #[va], .agg #[vb]] w fun e w' => e = .returned (.bool true) ∧ Ext w w' := by
  obtain ⟨x1, c1, rfl⟩ := seg_form ha
  obtain ⟨x2, c2, rfl⟩ := seg_form hb
  have b1 := heap_1 w (.cells #[.slice x1 a.length c1] 46) (.cells #[.slice x2 b.length c2] 46)
  have b2 := heap_2 w (.cells #[.slice x1 a.length c1] 46) (.cells #[.slice x2 b.length c2] 46)
  have E := ((Ext.refl w).alloc (.cells #[.slice x1 a.length c1] 46)).alloc (.cells #[.slice x2 b.length c2] 46)
  obtain ⟨w0, hw0⟩ : ∃ w0, (w.alloc (.cells #[.slice x1 a.length c1] 46)).alloc (.cells #[.slice x2 b.length c2] 46) = w0 := ⟨_, rfl⟩
  rw [hw0] at b1 b2 E
  have y1 := cell_of_one b1
  have y2 := cell_of_one b2
  have KA := hid (fun w' (q : Ext w0 w') => keys_all (.slice x1 a.length c1) a w' (ha.ext (E.trans q)) oa)
  have CA := hid (fun w' (q : Ext w0 w') => clash_all (.slice x1 a.length c1) (.slice x2 b.length c2) a b w' (ha.ext (E.trans q)) (hb.ext (E.trans q)) oa ob)
  have RA := hid (fun w' (q : Ext w0 w') => rdeed_any (.slice x1 a.length c1) a w' (ha.ext (E.trans q)) oa)
  have RB := hid (fun w' (q : Ext w0 w') => rdeed_any (.slice x2 b.length c2) b w' (hb.ext (E.trans q)) ob)
  have DA := hid (fun w' (q : Ext w0 w') => dcheck_any (.slice x1 a.length c1) a w' (ha.ext (E.trans q)) oa)
  have D0 := hid (fun w' => by have := dcheck_any (.slice none 0 0) [] w' (Seg.nil _ _) (by intro o ho; cases ho); rw [empty_E] at this; exact this)
  have TA := hid (fun w' (q : Ext w0 w') (h : deedE a = 0) => touches_any (.slice x1 a.length c1) a w' (ha.ext (E.trans q)) (deed_ok h))
  have CR := hid (fun w' (q : Ext w0 w') (h : deedE a = 0) (h' : deedE b = 0) => rclash_any (.slice x1 a.length c1) (.slice x2 b.length c2) a b w' (ha.ext (E.trans q)) (hb.ext (E.trans q)) (deed_ok h) (deed_ok h'))
  have OA := hid (fun (h : deedE a = 0) => wrs_okS (deed_ok h))
  have LA := hid (fun (h : deedE a = 0) => (by have h1 := rds_len a a.length; have h2 := (deed_ok h).hi; rw [List.take_length] at h1; omega : (rds a).length ≤ 1000000 ∧ (wrs a).length ≤ 1000000))
  have T2 := hid (show twoE a b = if deedE a = 0 then deedE b else deedE a from rfl)
  have C2 := hid (show clashE a b = if twoE a b = 0 then clashB a b else false from rfl)
  clear ha hb b1 b2 oa ob
  generalize deedE a = one at KA RA DA TA CR OA LA T2
  generalize deedE b = two at RB CR T2
  generalize twoE a b = tw at CA T2 C2
  generalize clashE a b = cl at CA C2
  go_enter Tryd.func6, Tryd.ntmps6
  go_wp2_with fail
  refine (KA.out _ (Ext.refl _)).mono ?_
  clear KA
  rintro e w1 ⟨r, u, R, U, rfl, hr, hu, hok, hno, E1⟩
  obtain ⟨ar, cr, rfl⟩ := own_form hr
  obtain ⟨au, cu, rfl⟩ := own_form hu
  have sr := own_seg hr
  have su := own_seg hu
  have y3 := E1.cell y1
  have y4 := E1.cell y2
  clear hr hu hw0 y1 y2
  go_wp2_with fail
  refine (CA.out _ E1).mono ?_
  clear CA
  rintro e w2 ⟨rfl, E2⟩
  have y1 := E2.cell y3
  have y2 := E2.cell y4
  have sr2 := sr.ext E2
  have su2 := su.ext E2
  replace E2 := E1.trans E2
  clear E1 y3 y4 sr su
  have SR := hid sr2
  have SU := hid su2
  clear sr2 su2
  go_wp2_with fail
  refine wp_region_ph [.k (.agg #[.slice x1 a.length c1]), .k (.int .i64 one), .k (.agg #[.slice x1 a.length c1]), .k (.int .i64 one)] [] (by kernel_rfl) (by kernel_rfl) (by kernel_rfl) rfl rfl ?hs ?hC ?he
  case hC =>
    intro i hi
    simp at hi
  case hs =>
    refine ⟨?_, ?_, ?_, ?_, trivial⟩
    all_goals (
      intro x w' hE hd
      try simp [PhDeps, at_k, at_p, at_t, at_any, Region.binds] at hd
      try ((with_reducible refine Exists.elim hd ?_); clear hd; intro y hd; obtain ⟨hd, hG⟩ := hd)
      have d1 := hE.cell y1
      first | simp only [frL, List.length_cons, List.length_nil, List.take_succ_cons, List.take_zero, Nat.reduceAdd, Nat.zero_add, List.setIfInBounds_toArray, List.set_cons_zero, List.set_cons_succ, hd] | simp only [frL, List.length_cons, List.length_nil, List.take_succ_cons, List.take_zero, Nat.reduceAdd, Nat.zero_add, List.setIfInBounds_toArray, List.set_cons_zero, List.set_cons_succ]
      go_wp2_with (first | (go_at_call 47; refine (RA.out _ (E2.trans hE)).mono ?_; rintro e wa ⟨rfl, hea⟩))
      all_goals first
        | ((with_reducible refine phK ?_ ?_); (focus rfl); (repeat (first | (with_reducible assumption) | (with_reducible exact Ext.refl _) | (with_reducible refine Ext.drew ?_) | (with_reducible refine Ext.drewN ?_ _) | (with_reducible refine Ext.alloc ?_ _) | (with_reducible refine Ext.trans ?_ (by with_reducible assumption)))))
        | ((with_reducible refine phT rfl hG ?_); (repeat (first | (with_reducible assumption) | (with_reducible exact Ext.refl _) | (with_reducible refine Ext.drew ?_) | (with_reducible refine Ext.drewN ?_ _) | (with_reducible refine Ext.alloc ?_ _) | (with_reducible refine Ext.trans ?_ (by with_reducible assumption)))))
        | ((with_reducible refine phU hG ?_); (repeat (first | (with_reducible assumption) | (with_reducible exact Ext.refl _) | (with_reducible refine Ext.drew ?_) | (with_reducible refine Ext.drewN ?_ _) | (with_reducible refine Ext.alloc ?_ _) | (with_reducible refine Ext.trans ?_ (by with_reducible assumption)))))
        | (with_reducible exact phBox hE)
        | (with_reducible exact phRow hE))
  case he =>
    intro x w3 E3 hd
    simp [PhEnd, at_k, at_p, at_any] at hd
    obtain ⟨e0, e1, e2, e3⟩ := hd
    have y3 := E3.cell y1
    have y4 := E3.cell y2
    have HX := hid E3
    replace E3 := E2.trans E3
    have SR3 := hid (SR.out.ext HX.out)
    have SU3 := hid (SU.out.ext HX.out)
    clear HX SR SU RA
    simp only [frL, List.length_cons, List.length_nil, List.take_succ_cons, List.take_zero, Nat.reduceAdd, Nat.zero_add, List.setIfInBounds_toArray, List.set_cons_zero, List.set_cons_succ, e0, e1, e2, e3]
    clear e0 e1 e2 e3
    clear y1 y2
    by_cases h : one = 0
    · obtain ⟨rfl, rfl⟩ := hok h
      subst h
      have htw : tw = two := by rw [T2.out, if_pos rfl]
      subst htw
      have OA1 := hid (OA.out rfl)
      have LA1 := hid (LA.out rfl)
      clear OA LA T2 hok hno
      by_cases h2 : tw = 0
      · have hcl : cl = clashB a b := by rw [C2.out, if_pos h2]
        subst h2
        subst hcl
        clear C2
        have CR1 := hid (fun w' q => CR.out w' q rfl rfl)
        clear CR
        go_wp2_with fail
        refine (DA.out _ E3).mono ?_
        clear DA
        rintro e w4 ⟨rfl, E4⟩
        have SR4 := hid (SR3.out.ext E4)
        have SU4 := hid (SU3.out.ext E4)
        have y5 := E4.cell y3
        have y6 := E4.cell y4
        replace E4 := E3.trans E4
        clear E3 SR3 SU3 y3 y4
        go_wp2_with fail
        refine (D0.out _).mono ?_
        clear D0
        rintro e w5 ⟨rfl, E5⟩
        have SR5 := hid (SR4.out.ext E5)
        have SU5 := hid (SU4.out.ext E5)
        have y3 := E5.cell y5
        have y4 := E5.cell y6
        replace E5 := E4.trans E5
        clear E4 SR4 SU4 y5 y6
        go_wp2_with fail
        refine (RB.out _ E5).mono ?_
        clear RB
        rintro e w6 ⟨rfl, E6⟩
        have SR6 := hid (SR5.out.ext E6)
        have SU6 := hid (SU5.out.ext E6)
        have y5 := E6.cell y3
        have y6 := E6.cell y4
        replace E6 := E5.trans E6
        clear E5 SR5 SU5 y3 y4
        go_wp2_with fail
        refine (TA.out _ E6 (by trivial)).mono ?_
        clear TA
        rintro e w7 ⟨br, bw, rfl, _, _, D, F, h1, h2, h3, h4, E7⟩
        have HSR := hid (SR6.out.ext E7)
        have HSU := hid (SU6.out.ext E7)
        have y3 := E7.cell y5
        have y4 := E7.cell y6
        replace E7 := E6.trans E7
        clear E6 SR6 SU6 y5 y6
        have N1 := hid (names_any br D (rds a) w7 h1 h2 OA1.out.1 LA1.out.1)
        have H3 := hid h3
        have H4 := hid h4
        clear h1 h2 h3 h4
        go_wp2_with fail
        refine (N1.out).mono ?_
        clear N1
        rintro e w8 ⟨v1, rfl, o1, E8⟩
        have Q1 := hid (by have q := equal_Str _ _ (sortU (rds a)) (sortU (rds a)) w8 (HSR.out.ext E8) (own_seg o1); rw [dec_refl] at q; exact q)
        have N2 := hid (fun w' (q : Ext w8 w') => names_any bw F (wrs a) w' (ownsMap_ext (ownsMap_ext H3.out E8) q) H4.out OA1.out.2 LA1.out.2)
        have SU8 := hid (HSU.out.ext E8)
        have y5 := E8.cell y3
        have y6 := E8.cell y4
        replace E8 := E7.trans E8
        obtain ⟨ao, co, rfl⟩ := own_form o1
        clear E7 HSR HSU y3 y4 H3 H4 o1
        go_wp2_with fail
        refine (Q1.out).mono ?_
        clear Q1
        rintro e w9 ⟨rfl, n1, rfl⟩
        have Z := (Ext.refl w8).drewN n1
        have SU9 := hid (SU8.out.ext Z)
        have y3 := Z.cell y5
        have y4 := Z.cell y6
        have N3 := hid (N2.out _ Z)
        replace E8 := E8.trans Z
        clear y5 y6 N2 SU8 Z
        go_wp2_with fail
        refine (N3.out).mono ?_
        clear N3
        rintro e w10 ⟨v2, rfl, o2, E9⟩
        have Q2 := hid (by have q := equal_Str _ _ (sortU (wrs a)) (sortU (wrs a)) w10 (SU9.out.ext E9) (own_seg o2); rw [dec_refl] at q; exact q)
        have y5 := E9.cell y3
        have y6 := E9.cell y4
        replace E9 := E8.trans E9
        obtain ⟨ao2, co2, rfl⟩ := own_form o2
        clear E8 y3 y4 SU9 o2
        go_wp2_with fail
        refine (Q2.out).mono ?_
        clear Q2
        rintro e w11 ⟨rfl, n2, rfl⟩
        have Z := (Ext.refl w10).drewN n2
        have y3 := Z.cell y5
        have y4 := Z.cell y6
        replace E9 := E9.trans Z
        clear y5 y6 Z
        have CR2 := hid (CR1.out _ E9)
        clear CR1
        go_wp2_with fail
        refine (CR2.out).mono ?_
        rintro e w12 ⟨rfl, E10⟩
        go_wp2
        go_ret
        exact ⟨by simp, E.trans (E9.trans E10)⟩
      · have hcl : cl = false := by rw [C2.out, if_neg h2]
        subst hcl
        have q1 : (tw == 0) = false := by simp [h2]
        have q2 : (tw != 0) = true := by simp [h2]
        have H2 := hid h2
        clear C2 h2 CR
        go_wp2_with fail
        refine (DA.out _ E3).mono ?_
        clear DA
        rintro e w4 ⟨rfl, E4⟩
        have SR4 := hid (SR3.out.ext E4)
        have SU4 := hid (SU3.out.ext E4)
        have y5 := E4.cell y3
        have y6 := E4.cell y4
        replace E4 := E3.trans E4
        clear E3 SR3 SU3 y3 y4
        go_wp2_with fail
        refine (D0.out _).mono ?_
        clear D0
        rintro e w5 ⟨rfl, E5⟩
        have SR5 := hid (SR4.out.ext E5)
        have SU5 := hid (SU4.out.ext E5)
        have y3 := E5.cell y5
        have y4 := E5.cell y6
        replace E5 := E4.trans E5
        clear E4 SR4 SU4 y5 y6
        go_wp2_with fail
        refine (RB.out _ E5).mono ?_
        clear RB
        rintro e w6 ⟨rfl, E6⟩
        have SR6 := hid (SR5.out.ext E6)
        have SU6 := hid (SU5.out.ext E6)
        have y5 := E6.cell y3
        have y6 := E6.cell y4
        replace E6 := E5.trans E6
        clear E5 SR5 SU5 y3 y4
        go_wp2_with fail
        refine (TA.out _ E6 (by trivial)).mono ?_
        clear TA
        rintro e w7 ⟨br, bw, rfl, _, _, D, F, h1, h2, h3, h4, E7⟩
        have HSR := hid (SR6.out.ext E7)
        have HSU := hid (SU6.out.ext E7)
        have y3 := E7.cell y5
        have y4 := E7.cell y6
        replace E7 := E6.trans E7
        clear E6 SR6 SU6 y5 y6
        have N1 := hid (names_any br D (rds a) w7 h1 h2 OA1.out.1 LA1.out.1)
        have H3 := hid h3
        have H4 := hid h4
        clear h1 h2 h3 h4
        go_wp2_with fail
        refine (N1.out).mono ?_
        clear N1
        rintro e w8 ⟨v1, rfl, o1, E8⟩
        have Q1 := hid (by have q := equal_Str _ _ (sortU (rds a)) (sortU (rds a)) w8 (HSR.out.ext E8) (own_seg o1); rw [dec_refl] at q; exact q)
        have N2 := hid (fun w' (q : Ext w8 w') => names_any bw F (wrs a) w' (ownsMap_ext (ownsMap_ext H3.out E8) q) H4.out OA1.out.2 LA1.out.2)
        have SU8 := hid (HSU.out.ext E8)
        have y5 := E8.cell y3
        have y6 := E8.cell y4
        replace E8 := E7.trans E8
        obtain ⟨ao, co, rfl⟩ := own_form o1
        clear E7 HSR HSU y3 y4 H3 H4 o1
        go_wp2_with fail
        refine (Q1.out).mono ?_
        clear Q1
        rintro e w9 ⟨rfl, n1, rfl⟩
        have Z := (Ext.refl w8).drewN n1
        have SU9 := hid (SU8.out.ext Z)
        have y3 := Z.cell y5
        have y4 := Z.cell y6
        have N3 := hid (N2.out _ Z)
        replace E8 := E8.trans Z
        clear y5 y6 N2 SU8 Z
        go_wp2_with fail
        refine (N3.out).mono ?_
        clear N3
        rintro e w10 ⟨v2, rfl, o2, E9⟩
        have Q2 := hid (by have q := equal_Str _ _ (sortU (wrs a)) (sortU (wrs a)) w10 (SU9.out.ext E9) (own_seg o2); rw [dec_refl] at q; exact q)
        have y5 := E9.cell y3
        have y6 := E9.cell y4
        replace E9 := E8.trans E9
        obtain ⟨ao2, co2, rfl⟩ := own_form o2
        clear E8 y3 y4 SU9 o2
        go_wp2_with fail
        refine (Q2.out).mono ?_
        clear Q2
        rintro e w11 ⟨rfl, n2, rfl⟩
        have Z := (Ext.refl w10).drewN n2
        have y3 := Z.cell y5
        have y4 := Z.cell y6
        replace E9 := E9.trans Z
        clear y5 y6 Z
        go_wp2
        go_ret
        exact ⟨by simp, E.trans E9⟩
    · obtain ⟨rfl, rfl⟩ := hno h
      have htw : tw = one := by rw [T2.out, if_neg h]
      subst htw
      have hcl : cl = false := by rw [C2.out, if_neg h]
      subst hcl
      have q1 : (tw == 0) = false := by simp [h]
      have q2 : (tw != 0) = true := by simp [h]
      have H2 := hid h
      clear C2 h CR hok hno T2 OA LA TA RB
      go_wp2_with fail
      refine (DA.out _ E3).mono ?_
      clear DA
      rintro e w4 ⟨rfl, E4⟩
      replace E4 := E3.trans E4
      clear E3
      go_wp2_with fail
      refine (D0.out _).mono ?_
      clear D0
      rintro e w5 ⟨rfl, E5⟩
      replace E5 := E4.trans E5
      clear E4
      go_wp2
      go_ret
      exact ⟨rfl, E.trans E5⟩
end Go.Proofs.YtijcckhkofkenaaDoor
