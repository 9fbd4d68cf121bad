/- Contracts and lemmas for the proof of PartsPlay; each theorem states its own conditions. -/
import Derived.Test.YtimchedebcoohaaGreatDoorQPartsPlayby
import Derived.BigQuiet
set_option linter.unusedVariables false
set_option linter.unusedSimpArgs false
/- Contracts and lemmas for the proofs of this seat; each theorem states its own conditions. -/
namespace Go.Proofs.YtimchedebcoohaaGreatDoor
open Go.RowKit Go.Maps
/-! PartsPlay: whatever is handed in -/
theorem pn_lit : mapErr [] [1] = 0 := by decide +kernel
/-- parts of nothing -/
theorem pnew_one (w : World) (vo : Value) (h : Seg w vo 1 1 (cI [1])) :
    Calls Tryz.prog 4 #[.agg #[.slice none 0 0, vo], .slice none 0 0] w fun e w' => ∃ bt vc vo' pv, e = .returned (.tuple #[.pointer (some ⟨bt, 0, none⟩), .int .i64 0]) ∧ PartsSt w' bt [] [1] (parP [] [1] []) vc vo' pv ∧ Ext w w' := by
  refine (pnew_ok _ _ [] [1] [] w ⟨_, _, rfl, Seg.nil _ _, h⟩ (mapOk_of pn_lit) (by simp) (Seg.nil _ _) okNil (by simp)).mono ?_
  rintro e w' ⟨bt, vc, vo', pv, rfl, _, hp, E⟩
  exact ⟨bt, vc, vo', pv, rfl, hp, E⟩
structure SegPx (l : Prs) (v : Value) (w : World) : Prop where
  seg : Seg w v 2 l.length (cP l)
theorem segPx_now {w0 w' : World} {l : Prs} {v : Value} (h : Up w0 w' (SegPx l v)) : SegPx l v w' := by
  obtain ⟨u, _, g, k⟩ := h
  exact ⟨k.seg.ext g⟩
structure MapPx (C : List ByteArray) (O : List Int) (v : Value) (w : World) : Prop where
  is : IsMap w v C O
theorem mapPx_now {w0 w' : World} {C : List ByteArray} {O : List Int} {v : Value} (h : Up w0 w' (MapPx C O v)) : MapPx C O v w' := by
  obtain ⟨u, _, g, k⟩ := h
  exact ⟨k.is.ext g⟩
theorem segPx_of {w : World} {B e : Nat} {l m : Prs} {v : Value} (h : l = m) (k : w.ownsRow B e 2 v m.length (cP m)) : SegPx l v w := by
  subst h; exact ⟨own_seg k⟩
theorem samePx {w : World} {v u : Value} {c : List ByteArray} {o : List Int} (hv : IsMap w v c o) (hu : IsMap w u c o) :
    Calls Tryz.prog 26 #[v, u] w fun e w' => e = .returned (.bool true) ∧ Ext w w' := by
  have q := sameMap_any v u c c o o w hv hu
  rw [show sameB c c o o = true by simp [sameB]] at q; exact q
set_option maxRecDepth 100000 in
set_option maxHeartbeats 16000000 in
theorem pplay_walk (vm vl vp vd vz : Value) (C : List ByteArray) (O : List Int) (l : Prs) (LL : List (List Int)) (D : List Ops) (M : Mps) (w : World) (hm : IsMap w vm C O) (sC : StrW C) (hl : Seg w vl 2 l.length (cP l)) (hw : PrsW l) (hp : SegLL w vp LL) (ip : ∀ x ∈ LL, IntW x)
    (hd : SegDs w vd D) (od : ∀ d ∈ D, opsSm d) (hz : SegMs w vz M) (sz : ∀ m ∈ M, StrW m.1) (hlen : l.length ≤ 400000) (htot : 5 * l.length + 2 * totO D ≤ 2097152) (hpl : LL.length ≤ 1048576) :
    Calls Tryz.prog 3 #[vm, vl, vp, vd, vz] w fun e w' => e = .returned (.bool true) ∧ Ext w w' := by
  have sk : ∀ p ∈ l, p.1.size ≤ 9223372036854775807 := fun p hp => by have := (hw p hp).1; unfold maxLen at this; omega
  have sc : ∀ k ∈ C, k.size ≤ 9223372036854775807 := fun k hk => by have := sC k hk; unfold maxLen at this; omega
  obtain ⟨a1, k1, a2, k2, rfl, _, _⟩ := hm.unpack
  obtain ⟨al, cl, rfl⟩ := seg_form hl
  obtain ⟨xd, cd, rfl, _⟩ := hd.form
  have b0 := heap_alloc_new w (.cells #[.slice a1 C.length k1, .slice a2 O.length k2] 25)
  have E0 := (Ext.refl w).alloc (.cells #[.slice a1 C.length k1, .slice a2 O.length k2] 25)
  obtain ⟨w0, hw0⟩ : ∃ w0, w.alloc (.cells #[.slice a1 C.length k1, .slice a2 O.length k2] 25) = w0 := ⟨_, rfl⟩
  obtain ⟨mb, hmb⟩ : ∃ mb, w.heap.size = mb := ⟨_, rfl⟩
  rw [hw0] at b0 E0
  rw [hmb] at b0
  have HMBL := hid (show w.heap.size ≤ mb by omega)
  have HA := hid b0
  have HM := hid hm
  have HL := hid hl
  have HP := hid hp
  have HD := hid hd
  have HZ := hid hz
  have E1 := (Ext.refl w0).alloc (.cells #[.int .i64 1] 3)
  have PO := hid (pnew_one (w0.alloc (.cells #[.int .i64 1] 3)) (.slice (some ⟨w0.heap.size, 0, none⟩) 1 1) (seg_one (heap_alloc_new w0 _)))
  have HE0 := hid E0
  have HE1 := hid E1
  clear b0 hm hl hp hd hz E0 E1
  go_enter Tryz.func3, Tryz.ntmps3
  go_wp2_with fail
  refine (PO.out).mono ?_
  clear PO
  rintro e w1 ⟨b1, vc1, vo1, pv1, rfl, hP1, E2⟩
  have MP := hid (pmap_ok hP1 (mapOk_of pn_lit))
  have HE2 := hid (HE1.out.trans E2)
  clear hP1 E2 HE1
  go_wp2_with fail
  refine (MP.out).mono ?_
  clear MP
  rintro e w2 ⟨v2, rfl, hm2, E3⟩
  obtain ⟨c2, o2, rfl, q1, q2⟩ := hm2
  obtain ⟨f1, g1, rfl⟩ := own_form q1
  obtain ⟨f2, g2, rfl⟩ := own_form q2
  have HE3 := hid (HE2.out.trans E3)
  have xa := blk2 (HE3.out.heap HA.out)
  have hfd : ∀ w : World, (Instr.field 25 (.agg #[.slice f1 0 g1, .slice f2 1 g2]) 1).run Tryz.prog w = .ok (.slice f2 1 g2) w := fun _ => by kernel_rfl
  clear q1 q2 E3 HE2
  have NB := hid (fun (he : newE C O l ≠ 0) => pnew_bad _ _ C O l w2 (HM.out.ext (HE0.out.trans HE3.out)) sc (HL.out.ext (HE0.out.trans HE3.out)) sk he)
  have RM := hid (fun w' (q : Ext w2 w') => rmap_any _ C O w' (HM.out.ext (HE0.out.trans (HE3.out.trans q))) sc)
  have RS := hid (fun w' (q : Ext w2 w') => rstore_any _ l w' (HL.out.ext (HE0.out.trans (HE3.out.trans q))) sk)
  have HNE := hid (show newE C O l = if mapErr C O ≠ 0 then mapErr C O else storeErr l from rfl)
  by_cases hE : newE C O l = 0
  · have g1 : mapErr C O = 0 := by
      by_cases q : mapErr C O = 0
      · exact q
      · have h := HNE.out; rw [if_pos q] at h; rw [h] at hE; exact absurd hE q
    have g2 : storeErr l = 0 := by have h := HNE.out; rw [if_neg (by simp [g1])] at h; rw [← h]; exact hE
    have okM := mapOk_of g1
    have okS := store_ok g2
    rw [g1] at RM
    rw [g2] at RS
    have NW := hid (pnew_ok _ _ C O l w2 (HM.out.ext (HE0.out.trans HE3.out)) okM sc (HL.out.ext (HE0.out.trans HE3.out)) okS (by omega))
    have HOM := hid okM
    have HOS := hid okS
    clear NB HNE hE g1 g2 okM okS
    go_wp2_with fail
    refine (NW.out).mono ?_
    clear NW hw0 hmb
    rintro e w3 ⟨bt, vc, vo, pv, rfl, hbt, hP3, E4⟩
    have HP3 := hid hP3
    have HBTL := hid (show w.heap.size ≤ bt by have := (HE0.out.trans HE3.out).size'; omega)
    have HNE := hid (show mb ≠ bt by have := (Array.getElem?_eq_some_iff.1 (HE3.out.heap HA.out)).1; omega)
    have xa := blk2 ((HE3.out.trans E4).heap HA.out)
    have RM1 := hid (RM.out w3 E4)
    have E4h := hid E4
    clear hbt hP3 RM E4
    go_wp2_with fail
    refine (RM1.out).mono ?_
    clear RM1
    rintro e w4 ⟨rfl, E5⟩
    have RS1 := hid (RS.out w4 (E4h.out.trans E5))
    have HE5 := hid E5
    clear RS E5 xa
    go_wp2_with fail
    refine (RS1.out).mono ?_
    clear RS1
    rintro e w5 ⟨rfl, E6⟩
    have E36 := hid (HE5.out.trans E6)
    have HEA := hid (HE0.out.trans (HE3.out.trans (E4h.out.trans E36.out)))
    have HA5 := hid ((HE3.out.trans (E4h.out.trans E36.out)).heap HA.out)
    have HP5 := hid (HP3.out.ext E36.out)
    have RO := hid (rof_any _ l w5 (HL.out.ext HEA.out) hw (by omega))
    clear E6 HE5 E36 E4h HP3 HE3 HE0 HA
    go_wp2_with fail
    refine (RO.out).mono ?_
    clear RO
    rintro e w6 ⟨b, Dm, rfl, hbm, hmm, hF, E7⟩
    clear hbm
    obtain ⟨vs, hvl, hvs, hrow⟩ := HP.out
    obtain ⟨ap, cp, rfl⟩ := seg_form hvs
    have E8 := (Ext.refl w6).alloc (.cells #[.slice none 0 0] 23)
    have oN : (w6.alloc (.cells #[.slice none 0 0] 23)).ownsRow w6.heap.size 23 1 (.slice (some ⟨w6.heap.size, 0, none⟩) 1 1) 1 [.slice none 0 0] := by
      simpa using World.ownsRow_lit (base := w6.heap.size) (e := 23) (size := 1) w6 #[.slice none 0 0] 1 (Nat.le_refl _) (by simp [maxLen]) rfl
    have EA := HEA.out.trans (E7.trans E8)
    have hvs7 := hvs.ext EA
    have hone : ∀ u ∈ vs, u.oneCell' = true := by
      intro u hu
      obtain ⟨i, hi, rfl⟩ := List.mem_iff_getElem.1 hu
      obtain ⟨x, y, e⟩ := seg_form (hrow i vs[i] LL[i] (List.getElem?_eq_getElem hi) (List.getElem?_eq_getElem (by omega)))
      rw [e]; rfl
    have PS := hid (fun w' (q : Ext w6 w') vr nr xs (hr : w'.ownsRow 0 23 1 vr nr xs) => (⟨HP5.out.ext (E7.trans q), (E7.trans q).heap HA5.out, HM.out, HOM.out, sc, rfl, ownsMap_ext hmm q, hF, of_atF HOS.out, of_FV HOS.out, Nat.le_refl _, HOS.out, fun p hp => List.mem_append.2 (.inl (List.mem_map.2 ⟨p, hp, rfl⟩)), HEA.out.trans (E7.trans q), hr⟩ : PPS w (allK l D) bt mb l.length (.map (some b)) w' C O l b l.length Dm (ofF l l.length) vc vo pv _ _ vr nr xs))
    have hvl2 : vs.length ≤ 1048576 := by omega
    have HVL := hid hvl
    have HRW := hid hrow
    clear hmm hF HP5 HA5 hvl hrow hvs E7
    go_wp2_with (first | (at_builtin; refine (wpList_app rfl _ _ 27 rfl w6.heap.size 23 (.slice none 0 0) 1 24 Tryz.underlying27 (by kernel_rfl) rfl (by decide) _ 1 [.slice none 0 0] rfl oN _ vs.length vs rfl hvs7 hone (by omega) (by unfold maxLen; omega) (by simp) ?_); intro v' w7 ho' hg; have hof := own_form ho'; rcases hof with ⟨a7, c7, rfl⟩))
    have EG := E8.grown hg (fun k hk => own_ge oN k hk)
    have HP7 := hid (⟨_, _, _, _, _, _, _, _, _, _, _, _, PS.out w7 EG _ _ _ (own_base ho' (Nat.zero_le _))⟩ : PPI w (allK l D) bt mb (.slice a7 (1 + vs.length) c7) (1 + vs.length) ([.slice none 0 0] ++ vs) l.length (.map (some b)) w7)
    have HNL := hid (show 1 + vs.length = ([] :: LL : List (List Int)).length by simp [HVL.out]; omega)
    have HRX := hid (show ∀ (i : Nat) (u : Value) (m : List Int), ([Value.slice none 0 0] ++ vs)[i]? = some u → ([] :: LL : List (List Int))[i]? = some m → Seg w u 1 m.length (cI m) from by
      intro i u m h1 h2
      match i, h1, h2 with
      | 0, h1, h2 => simp at h1 h2; subst h1; subst h2; exact Seg.nil _ _
      | i + 1, h1, h2 =>
        simp at h1 h2
        exact HRW.out i u m h1 h2)
    have HIX := hid (show ∀ x ∈ ([] :: LL : List (List Int)), IntW x from by
      intro x hx
      rcases List.mem_cons.1 hx with e | hx
      · subst e; intro z hz; simp at hz
      · exact ip x hx)
    have hXL : ([Value.slice none 0 0] ++ vs).length = 1 + vs.length := by simp; omega
    have HXL := hid hXL
    clear hg oN ho' hvs7 hone EA E8 EG PS HRW HVL ip hXL
    have hnl : 1 + vs.length ≤ 1048577 := by omega
    have hcst : ∃ q : Nat, 1 + vs.length = q := ⟨_, rfl⟩
    obtain ⟨nl, hnlE⟩ := hcst
    have hcst : (1 : Int) + (vs.length : Int) = (nl : Int) := by omega
    rw [hnlE] at HP7 HNL HXL hnl
    simp only [hnlE, hcst]
    clear hnlE hcst
    generalize [Value.slice none 0 0] ++ vs = X at HP7 HRX HXL
    generalize ([] :: LL : List (List Int)) = LS at HNL HRX HIX
    go_wp2_with fail
    go_loopw [16, 96] (fun vv iv wr => ∃ i : Nat, i ≤ nl ∧ iv = .int .i64 i ∧ Hid (PPI w (allK l D) bt mb (.slice a7 nl c7) nl X (l.length + 16 * i) vv wr)) (fun _ iv _ => nl - (intOf iv).toNat)
    case atStart => exact ⟨0, Nat.zero_le _, rfl, HP7⟩
    case round =>
      clear HP7
      obtain ⟨wo, rfl⟩ : ∃ wo : World, wo = wr := ⟨_, rfl⟩
      obtain ⟨i, hi, rfl, HPI⟩ := hrel
      obtain ⟨C1, O1, S, bv, n1, Dv, f, vc1, vo1, pv1, u1, u2, hS⟩ := HPI.out
      by_cases hil : i < nl
      · obtain ⟨g7, o7, rfl, _, m1, m2, hcX⟩ := seg_cells (own_seg hS.row) (by omega)
        unfold maxLen at m2
        have hvi : i < X.length := by have := HXL.out; omega
        have hli : i < LS.length := by have := HNL.out; omega
        have cu := hcX i _ (List.getElem?_eq_getElem hvi)
        have hs := (HRX.out i X[i] LS[i] (List.getElem?_eq_getElem hvi) (List.getElem?_eq_getElem hli)).ext hS.E
        have hbl := HIX.out _ (List.getElem_mem hli)
        obtain ⟨au, ku, hu⟩ := seg_form hs
        rw [hu] at cu hs
        have A1 := hid (rat_any _ LS[i] 1 wo hs (by omega))
        have A0 := hid (fun w' (q : Ext wo w') => rat_any _ LS[i] 0 w' (hs.ext q) (by omega))
        rw [show ((1 : Int)).toNat = 1 from rfl] at A1
        rw [show ((0 : Int)).toNat = 0 from rfl] at A0
        have hvv := hS.vv
        subst hvv
        have PK := hid (pickD_any _ D (LS[i].getD 1 0) w wo HD.out hS.E)
        have PM := hid (fun w' (q : Ext wo w') => pickM_any _ M (LS[i].getD 1 0) w w' HZ.out (hS.E.trans q))
        have HS := hid hS
        clear hcX hs hbl hu hS HPI
        generalize LS[i].length = n9 at *
        generalize LS[i].getD 1 0 = z at *
        generalize LS[i].getD 0 0 = z0 at *
        go_wp2_with fail
        refine (A1.out).mono ?_
        clear A1
        rintro e wa ⟨rfl, rfl⟩
        obtain ⟨wo, rfl⟩ : ∃ wo : World, wo = wa := ⟨_, rfl⟩
        go_wp2_with fail
        refine (PK.out).mono ?_
        clear PK
        rintro e w8 ⟨ax, kx, rfl, sp, E8⟩
        have PM1 := hid (PM.out w8 E8)
        have HSP := hid sp
        have HE8 := hid E8
        clear PM sp E8
        go_wp2_with fail
        refine (PM1.out).mono ?_
        clear PM1
        rintro e w9 ⟨y1, y2, rfl, sm, E9⟩
        obtain ⟨t1, s1, t2, s2, e9, _, _⟩ := sm.unpack
        injection e9 with e9; injection e9 with e9; injection e9 with e91 e9; injection e9 with e92 _
        subst e91; subst e92
        have PS := pickD_smx od z
        have HPK := hid (fun h => inK_pick (l := l) (D := D) (z := z) h)
        have PC := pickM_smx sz z
        have HSM := hid sm
        generalize pickD D z = p at HSP PS HPK ⊢
        generalize (pickM M z).1 = C2 at HSM PC ⊢
        generalize (pickM M z).2 = O2 at HSM ⊢
        have EA := ((Ext.refl w9).alloc (.cells #[.slice ax p.length kx] 43)).alloc (.cells #[.slice t1 C2.length s1, .slice t2 O2.length s2] 25)
        have bx1 := heap_1 w9 (.cells #[.slice ax p.length kx] 43) (.cells #[.slice t1 C2.length s1, .slice t2 O2.length s2] 25)
        have bx2 := heap_2 w9 (.cells #[.slice ax p.length kx] 43) (.cells #[.slice t1 C2.length s1, .slice t2 O2.length s2] 25)
        obtain ⟨wA, hwA⟩ : ∃ wA, (w9.alloc (.cells #[.slice ax p.length kx] 43)).alloc (.cells #[.slice t1 C2.length s1, .slice t2 O2.length s2] 25) = wA := ⟨_, rfl⟩
        obtain ⟨bd, hbd⟩ : ∃ bd, w9.heap.size = bd := ⟨_, rfl⟩
        rw [hwA] at EA bx1 bx2
        rw [hbd] at bx1 bx2
        have HBD := hid bx1
        have HBM := hid bx2
        have HEA := hid (HE8.out.trans (E9.trans EA))
        have hbdl : wo.heap.size ≤ bd := by have := (HE8.out.trans E9).size'; omega
        have A2 := hid (A0.out wA HEA.out)
        clear sm EA bx1 bx2 E9 HE8 A0
        go_wp2_with fail
        refine (A2.out).mono ?_
        clear A2 hwA hbd
        rintro e wb ⟨rfl, rfl⟩
        obtain ⟨wA, rfl⟩ : ∃ wA : World, wA = wb := ⟨_, rfl⟩
        go_upto_block 2 with fail
        have HQ := hid (fun w' (q : Ext wA w') => (⟨C1, O1, S, bv, n1, Dv, f, vc1, vo1, pv1, u1, u2, (HS.out.ext (HEA.out.trans q)).more (by omega)⟩ : PPI w (allK l D) bt mb (.slice (some ⟨g7, o7, none⟩) nl c7) nl X (l.length + 16 * (i + 1)) (.map (some bv)) w'))
        go_cut [16] from 110 to 239 (fun vv wx => Hid (PPI w (allK l D) bt mb (.slice (some ⟨g7, o7, none⟩) nl c7) nl X (l.length + 16 * (i + 1)) vv wx))
        case first =>
          have y20 := cell_of_one HBD.out
          have hbt := (Array.getElem?_eq_some_iff.1 HS.out.parts.box).1
          have hbdt : bd ≠ bt := by omega
          have hKl := allK_len l D
          have hSl := inK_len HS.out.sto.srt HS.out.inK
          by_cases q1 : z0 = 1
          · subst q1
            as_aux_lemma =>
              have hSA := HS.out.ext HEA.out
              have RD := hid (fun w' (q : Ext w w') => rdeed_any _ p w' (HSP.out.ext q) PS)
              by_cases hp0 : deedE p = 0
              · have dok := deed_ok hp0
                have DO := hid (pdo_ok hSA.parts hSA.ok hSA.sto (by omega) _ p (HSP.out.ext hSA.E) dok (fun o ho => (PS o ho).2))
                obtain ⟨rv1, rv2, rv3⟩ := run_val hSA.sto dok.ops
                have hnb := hSA.n
                have hp8 := dok.hi
                have RN := hid (fun w' (h1 : w'.ownsMap Tryz.prog 9 (plainElem Tryz.prog 3) bv n1 Dv) (q : Ext w w') => rrun_any bv n1 Dv f _ p w' h1 hSA.mf hSA.fv (HSP.out.ext q) dok (by omega))
                rw [hSA.at', ← rv3, ← rv2] at RN
                have HIN := hid (inK_run hSA.sto hSA.inK dok (HPK.out dok))
                rw [hp0] at RD
                have HSA := hid hSA
                have HRV := hid rv1
                clear hp0 HPK rv1 rv2 rv3 hSA hKl hSl hnb
                generalize runB S p = rb at DO RN
                generalize runS S p = S2 at DO RN HIN HRV
                go_wp2_with fail
                refine (DO.out).mono ?_
                clear DO
                rintro e w5 ⟨rfl, ⟨pv', hP5⟩, hg5⟩
                obtain ⟨hb5, hm5, hE5, hr5⟩ := HSA.out.turn HBTL.out HNE.out hg5
                have hD5 := grown_heap hg5 HBD.out (fun e => by injection e with e; exact hbdt e.symm)
                have y5 := cell_of_one hD5
                have RD1 := hid (RD.out w5 hE5)
                have HP5 := hid hP5
                have HG5 := hid (And.intro hb5 (And.intro hm5 (And.intro hE5 hr5)))
                have HD5 := hid hD5
                clear RD hP5 hb5 hm5 hE5 hr5 hD5 hg5 y20
                go_wp2_with fail
                refine (RD1.out).mono ?_
                clear RD1
                rintro e w6 ⟨rfl, E6⟩
                have y6 := cell_of_one (E6.heap HD5.out)
                have RN1 := hid (RN.out w6 (ownsMap_ext HG5.out.2.1 E6) (HG5.out.2.2.1.trans E6))
                have HE6 := hid E6
                clear RN y5 E6
                go_wp2_with fail
                refine (RN1.out).mono ?_
                clear RN1
                rintro e w7' ⟨b', n', D', f', rfl, hm7, hF7, hat7, hfv7, hn7, E7'⟩
                have EF := HE6.out.trans E7'
                have HQ2 := hid (⟨C1, O1, S2, b', n', D', f', vc1, vo1, pv', u1, u2, ⟨HP5.out.ext EF, EF.heap HG5.out.1, HSA.out.is, HSA.out.ok, HSA.out.sC, rfl, hm7, hF7, hat7, hfv7, by have := HSA.out.n; omega, HRV.out, HIN.out, HG5.out.2.2.1.trans EF, own_ext HG5.out.2.2.2 EF⟩⟩ : PPI w (allK l D) bt mb (.slice (some ⟨g7, o7, none⟩) nl c7) nl X (l.length + 16 * (i + 1)) (.map (some b')) w7')
                have qb : (rb != rb) = false := by simp
                clear hm7 hF7 hat7 hfv7 hn7 E7' EF HP5 HG5 HD5 y6
                go_wp2_with fail
                go_meet
                case rel => exact HQ2
              · have DO := hid (pdo_bad wA bt _ p (HSP.out.ext hSA.E) PS hp0)
                have q0 : (deedE p == 0) = false := by simp [hp0]
                have qd : (deedE p != deedE p) = false := by simp
                have HSA := hid hSA
                clear hp0 hSA hKl hSl
                generalize deedE p = de at DO RD q0 qd
                go_wp2_with fail
                refine (DO.out).mono ?_
                clear DO
                rintro e w5 ⟨rfl, E5⟩
                have y5 := E5.cell y20
                have RD1 := hid (RD.out w5 (HSA.out.E.trans E5))
                have HE5 := hid E5
                clear RD y20 E5
                go_wp2_with fail
                refine (RD1.out).mono ?_
                clear RD1
                rintro e w6 ⟨rfl, E6⟩
                have HQ2 := hid (HQ.out w6 (HE5.out.trans E6))
                clear y5 E6
                go_wp2_with fail
                go_meet
                case rel => exact HQ2
          · by_cases q2 : z0 = 2
            · subst q2
              as_aux_lemma =>
                have hSA := HS.out.ext HEA.out
                have xN := blk2 HBM.out
                have sc2 : ∀ k ∈ C2, k.size ≤ 9223372036854775807 := fun k hk => by have := PC k hk; unfold maxLen at this; omega
                have RM := hid (fun w' (q : Ext w w') => rmap_any _ C2 O2 w' (HSM.out.ext q) sc2)
                by_cases hm0 : mapErr C2 O2 = 0
                · have ok2 := mapOk_of hm0
                  have TN := hid (pturn_ok hSA.parts hSA.ok hSA.sto (by omega) _ C2 O2 (HSM.out.ext hSA.E) ok2 sc2)
                  rw [hm0] at RM
                  have hnb := hSA.n
                  have hSl4 : S.length ≤ 440000 := by omega
                  have RL := hid (fun w' (h1 : w'.ownsMap Tryz.prog 9 (plainElem Tryz.prog 3) bv n1 Dv) => rlist_any bv n1 Dv f w' h1 hSA.mf (by omega))
                  have HSA := hid hSA
                  have HOK2 := hid ok2
                  clear hm0 hSA hKl hSl hnb ok2
                  go_wp2_with fail
                  refine (TN.out).mono ?_
                  clear TN
                  rintro e w5 ⟨rfl, ⟨vc', vo', pv', hP5⟩, hg5⟩
                  obtain ⟨hb5, hm5, hE5, hr5⟩ := HSA.out.turn HBTL.out HNE.out hg5
                  have hD5 := grown_heap hg5 HBM.out (fun e => by injection e with e; omega)
                  have y5 := blk2 hD5
                  have RM1 := hid (RM.out w5 hE5)
                  have HP5 := hid hP5
                  have HG5 := hid (And.intro hb5 (And.intro hm5 (And.intro hE5 hr5)))
                  have HD5 := hid hD5
                  clear RM hP5 hb5 hm5 hE5 hr5 hD5 hg5 xN
                  go_wp2_with fail
                  refine (RM1.out).mono ?_
                  clear RM1
                  rintro e w6 ⟨rfl, E6⟩
                  have RL1 := hid (RL.out w6 (ownsMap_ext HG5.out.2.1 E6))
                  have HE6 := hid E6
                  clear RL y5 E6
                  go_wp2_with fail
                  refine (RL1.out).mono ?_
                  clear RL1
                  rintro e w7' ⟨v9, ll, rfl, e1, e2, e3, _, o9, E7'⟩
                  have hll : S = ll := prs_ext HSA.out.sto.srt e1 HSA.out.sto.nz e2 (fun x => by rw [e3, ← HSA.out.at']; rfl)
                  subst hll
                  obtain ⟨a9, k9, rfl⟩ := own_form o9
                  have EF := hid (HE6.out.trans E7')
                  have SG := hid (own_seg o9)
                  clear e1 e2 e3 o9 E7'
                  have hmN := moved_le C1 C2 O1 O2 S
                  have HMV := hid (rfl : movedN C1 C2 O1 O2 S = movedN C1 C2 O1 O2 S)
                  go_wp2_with fail
                  go_loopw [28, 151] (fun mv iv wr => ∃ k : Nat, k ≤ S.length ∧ iv = .int .i64 k ∧ mv = .int .i64 ((movedN C1 C2 O1 O2 (S.take k) : Nat) : Int) ∧ Ext w7' wr) (fun _ iv _ => S.length - (intOf iv).toNat)
                  case atStart => exact ⟨0, Nat.zero_le _, rfl, by simp [movedN], Ext.refl _⟩
                  case round =>
                    obtain ⟨wo, rfl⟩ : ∃ wo : World, wo = wr := ⟨_, rfl⟩
                    obtain ⟨k, hk, rfl, rfl, Eo⟩ := hrel
                    by_cases hkl : k < S.length
                    · obtain ⟨b9, p9, rfl, _, m3, m4, hc9⟩ := seg_cells SG.out (by omega)
                      unfold maxLen at m4
                      have cc := seg_pair hc9 hkl
                      have c0 := Eo.cell cc.1
                      have c1 := Eo.cell cc.2
                      have hmv : movedN C1 C2 O1 O2 (S.take (k + 1)) = movedN C1 C2 O1 O2 (S.take k) + (if whose C2 O2 S[k].1 = whose C1 O1 S[k].1 then 0 else 1) := by rw [List.take_succ_eq_append_getElem hkl, moved_app, moved_one]
                      have hmb := moved_le C1 C2 O1 O2 (S.take k)
                      rw [List.length_take] at hmb
                      have EB0 := (Ext.refl wo).alloc (.cells #[.string S[k].1, .int .i64 S[k].2] 55)
                      have bx0 := heap_alloc_new wo (.cells #[.string S[k].1, .int .i64 S[k].2] 55)
                      have HMV := hid hmv
                      generalize S[k].1 = key at c0 EB0 bx0 HMV
                      generalize S[k].2 = val at c1 EB0 bx0
                      generalize movedN C1 C2 O1 O2 (S.take k) = mv at hmb HMV
                      obtain ⟨wB, hwB⟩ : ∃ wB, wo.alloc (.cells #[.string key, .int .i64 val] 55) = wB := ⟨_, rfl⟩
                      obtain ⟨bx, hbx⟩ : ∃ bx, wo.heap.size = bx := ⟨_, rfl⟩
                      rw [hwB] at EB0 bx0
                      rw [hbx] at bx0
                      have ER := EF.out.trans (Eo.trans EB0)
                      have xK := blk2 bx0
                      have xM := blk2 (ER.heap HG5.out.1)
                      have xN := blk2 (ER.heap HD5.out)
                      have RW1 := hid (fun w' (q : Ext wB w') => rwhose_any (.agg #[u1, u2]) C1 O1 key w' (HSA.out.is.ext (HG5.out.2.2.1.trans (ER.trans q))) HSA.out.ok.srt HSA.out.ok.len HSA.out.ok.few)
                      have RW2 := hid (fun w' (q : Ext wB w') => rwhose_any _ C2 O2 key w' (HSM.out.ext (HG5.out.2.2.1.trans (ER.trans q))) HOK2.out.srt HOK2.out.len HOK2.out.few)
                      generalize whose C1 O1 key = z1 at RW1 HMV
                      generalize whose C2 O2 key = z2 at RW2 HMV
                      obtain ⟨nb, hnb⟩ : ∃ nb, (z1 != z2) = nb := ⟨_, rfl⟩
                      have HER := hid (Eo.trans EB0)
                      clear hc9 cc hmv ER
                      go_wp2_with fail
                      clear hwB hbx
                      refine wp_region_ph [.k (.agg #[u1, u2]), .k (.pointer (some ⟨bx, 0, none⟩)), .k (.string key), .k (.int .i64 z1), .k (.agg #[.slice t1 C2.length s1, .slice t2 O2.length s2]), .k (.pointer (some ⟨bx, 0, none⟩)), .k (.string key), .k (.int .i64 z2), .k (.bool nb)] [] (by kernel_rfl) (by kernel_rfl) (by kernel_rfl) rfl rfl ?hs ?hC ?he
                      case hC =>
                        intro i hi
                        simp at hi
                      case hs =>
                        refine ⟨?_, ?_, ?_, ?_, ?_, ?_, ?_, ?_, ?_, trivial⟩
                        all_goals (
                          intro x w' hE hd
                          try simp [PhDeps, at_k, at_p, at_t, at_any, Region.binds] at hd
                          try ((with_reducible refine Exists.elim hd ?_); clear hd; intro y hd; obtain ⟨hd, hG⟩ := hd)
                          have f0 := hE.cell xM.1
                          have f1 := hE.cell xM.2.1
                          have f2 := hE.cell xK.1
                          have f3 := hE.cell xN.1
                          have f4 := hE.cell xN.2.1
                          first | simp only [frL, List.length_cons, List.length_nil, List.take_succ_cons, List.take_zero, Nat.reduceAdd, Nat.zero_add, List.setIfInBounds_toArray, List.set_cons_zero, List.set_cons_succ, hd] | simp only [frL, List.length_cons, List.length_nil, List.take_succ_cons, List.take_zero, Nat.reduceAdd, Nat.zero_add, List.setIfInBounds_toArray, List.set_cons_zero, List.set_cons_succ]
                          go_wp2_with (first | (go_at_call 17; (with_reducible refine (RW1.out _ hE).mono ?_); rintro e wa ⟨rfl, hea⟩) | (go_at_call 17; (with_reducible refine (RW2.out _ hE).mono ?_); rintro e wa ⟨rfl, hea⟩))
                          all_goals first
                            | ((with_reducible refine phK ?_ ?_); (focus rfl); (repeat (first | (with_reducible assumption) | (with_reducible exact Ext.refl _) | (with_reducible refine Ext.drew ?_) | (with_reducible refine Ext.drewN ?_ _) | (with_reducible refine Ext.alloc ?_ _) | (with_reducible refine Ext.trans ?_ (by with_reducible assumption)))))
                            | ((with_reducible refine phT rfl hG ?_); (repeat (first | (with_reducible assumption) | (with_reducible exact Ext.refl _) | (with_reducible refine Ext.drew ?_) | (with_reducible refine Ext.drewN ?_ _) | (with_reducible refine Ext.alloc ?_ _) | (with_reducible refine Ext.trans ?_ (by with_reducible assumption)))))
                            | ((with_reducible refine phU hG ?_); (repeat (first | (with_reducible assumption) | (with_reducible exact Ext.refl _) | (with_reducible refine Ext.drew ?_) | (with_reducible refine Ext.drewN ?_ _) | (with_reducible refine Ext.alloc ?_ _) | (with_reducible refine Ext.trans ?_ (by with_reducible assumption)))))
                            | (with_reducible exact phBox hE)
                            | (with_reducible exact phRow hE))
                      case he =>
                        intro x wC EC hd
                        simp [PhEnd, at_k, at_p, at_t, at_any] at hd
                        simp only [frL, List.length_cons, List.length_nil, List.take_succ_cons, List.take_zero, Nat.reduceAdd, Nat.zero_add, List.setIfInBounds_toArray, List.set_cons_zero, List.set_cons_succ, hd, List.length_cons, List.length_nil, List.drop_succ_cons, List.drop_zero]
                        clear hd
                        have HNB := hid hnb
                        have HEC := hid (HER.out.trans EC)
                        clear hnb xM xN xK EC RW1 RW2
                        cases nb with
                        | true =>
                          have hmx := HMV.out
                          have hz : ¬ z2 = z1 := by have := HNB.out; simp at this; exact fun e => this e.symm
                          rw [if_neg hz] at hmx
                          have HMX := hid hmx
                          clear hmx hz HMV
                          go_wp2_with fail
                          go_roundw
                          case rel => exact ⟨k + 1, by omega, by go_num, by rw [HMX.out]; go_num, HEC.out⟩
                          case measure => simp [intOf] <;> omega
                        | false =>
                          have hmx := HMV.out
                          have hz : z2 = z1 := by have := HNB.out; simp at this; exact this.symm
                          rw [if_pos hz] at hmx
                          have HMX := hid hmx
                          clear hmx hz HMV
                          go_wp2_with fail
                          go_roundw
                          case rel => exact ⟨k + 1, by omega, by go_num, by rw [HMX.out]; rfl, HEC.out⟩
                          case measure => simp [intOf] <;> omega
                    · have hT : movedN C1 C2 O1 O2 (S.take k) = movedN C1 C2 O1 O2 S := by rw [List.take_of_length_le (by omega)]
                      have xN := blk2 ((EF.out.trans Eo).heap HD5.out)
                      have xM := blk2 ((EF.out.trans Eo).heap HG5.out.1)
                      have EG := EF.out.trans Eo
                      have HQ2 := hid (⟨C2, O2, S, bv, n1, Dv, f, vc', vo', pv', _, _, (HSA.out.next (HP5.out.ext EG) (EG.heap HG5.out.1) (ownsMap_ext HG5.out.2.1 EG) (HG5.out.2.2.1.trans EG) (own_ext HG5.out.2.2.2 EG) HSM.out HOK2.out sc2 HNE.out HMBL.out).more (by omega)⟩ : PPI w (allK l D) bt mb (.slice (some ⟨g7, o7, none⟩) nl c7) nl X (l.length + 16 * (i + 1)) (.map (some bv)) ((wo.setCell ⟨mb, 0, none⟩ (.slice t1 C2.length s1)).setCell ⟨mb, 1, none⟩ (.slice t2 O2.length s2)))
                      simp only [hT]
                      clear hT EG HP5 HG5 HD5 HMV hmN
                      generalize movedN C1 C2 O1 O2 S = mm
                      have qm : ((mm : Int) != (mm : Int)) = false := by simp
                      go_wp2_with fail
                      go_meet
                      case rel => exact HQ2
                · have TN := hid (pturn_bad wA bt _ C2 O2 (HSM.out.ext hSA.E) sc2 hm0)
                  have q0 : (mapErr C2 O2 == 0) = false := by simp [hm0]
                  have qd : (mapErr C2 O2 != mapErr C2 O2) = false := by simp
                  have HSA := hid hSA
                  clear hm0 hSA hKl hSl
                  generalize mapErr C2 O2 = de at TN RM q0 qd
                  go_wp2_with fail
                  refine (TN.out).mono ?_
                  clear TN
                  rintro e w5 ⟨rfl, E5⟩
                  have y5 := blk2 (E5.heap HBM.out)
                  have RM1 := hid (RM.out w5 (HSA.out.E.trans E5))
                  have HE5 := hid E5
                  clear RM xN E5
                  go_wp2_with fail
                  refine (RM1.out).mono ?_
                  clear RM1
                  rintro e w6 ⟨rfl, E6⟩
                  have HQ2 := hid (HQ.out w6 (HE5.out.trans E6))
                  clear y5 E6
                  go_wp2_with fail
                  go_meet
                  case rel => exact HQ2
            · by_cases q3 : z0 = 3
              · subst q3
                as_aux_lemma =>
                  have hSA := HS.out.ext HEA.out
                  have RD := hid (fun w' (q : Ext w w') => rdeed_any _ p w' (HSP.out.ext q) PS)
                  by_cases hp0 : deedE p = 0
                  · have dok := deed_ok hp0
                    have WO := pwho_ok hSA.parts hSA.ok _ p (HSP.out.ext hSA.E) dok (fun o ho => (PS o ho).2)
                    rw [who_own hSA.ok p] at WO
                    have WO := hid WO
                    have TO := hid (fun w' (q : Ext w w') => touches_any _ p w' (HSP.out.ext q) dok)
                    have OA := hid (wrs_okS dok)
                    have hr1 := (rds_len p p.length).1
                    rw [List.take_length] at hr1
                    have hr2 := wrs_len p
                    have hp8 := dok.hi
                    have hr3 : (rds p).length ≤ 1000000 := by omega
                    have hr4 : (wrs p).length ≤ 1000000 := by omega
                    obtain ⟨hr5, hr6⟩ := rw_len dok
                    have HKK := hid (show (sortU (rds p) ++ sortU (wrs p)).length ≤ 32 by rw [List.length_append]; omega)
                    obtain ⟨K, hK⟩ : ∃ K, sortU (rds p) ++ sortU (wrs p) = K := ⟨_, rfl⟩
                    rw [hK] at WO HKK
                    have HK := hid hK
                    rw [hp0] at RD
                    have HSA := hid hSA
                    clear hp0 HPK hSA hKl hSl hr1 hr2 hp8 hK
                    go_wp2_with fail
                    refine (WO.out).mono ?_
                    clear WO
                    rintro e w5 ⟨vl, rfl, ol, E5⟩
                    obtain ⟨al, kl, rfl⟩ := own_form ol
                    have y5 := E5.cell y20
                    have RD1 := hid (RD.out w5 (HSA.out.E.trans E5))
                    have HOL := hid (own_seg ol)
                    have HE5 := hid E5
                    clear RD y20 ol E5
                    go_wp2_with fail
                    refine (RD1.out).mono ?_
                    clear RD1
                    rintro e w6 ⟨rfl, E6⟩
                    have y6 := E6.cell y5
                    have TO1 := hid (TO.out w6 (HSA.out.E.trans (HE5.out.trans E6)))
                    have HE6 := hid (HE5.out.trans E6)
                    have HOL6 := hid (HOL.out.ext E6)
                    clear TO y5 E6 HE5 HOL
                    go_wp2_with fail
                    refine (TO1.out).mono ?_
                    clear TO1
                    rintro e w7' ⟨br, bw, rfl, _, _, Dr, Dw, h1, h2, h3, h4, E7'⟩
                    have NR := hid (fun w' (q : Ext w7' w') => names_any br Dr (rds p) w' (ownsMap_ext h1 q) h2 OA.out.1 hr3)
                    have NW := hid (fun w' (q : Ext w7' w') => names_any bw Dw (wrs p) w' (ownsMap_ext h3 q) h4 OA.out.2 hr4)
                    have HE7 := hid (HE6.out.trans E7')
                    have HOL7 := hid (HOL6.out.ext E7')
                    clear h1 h2 h3 h4 E7' HE6 HOL6 y6
                    go_wp2_with fail
                    go_loopw [37, 201] (fun ov iv wr => ∃ i5 : Nat, i5 ≤ 4 ∧ iv = .int .i64 i5 ∧ wr.ownsRow w7'.heap.size 3 1 ov (ownTo C1 O1 K i5).length (cI (ownTo C1 O1 K i5)) ∧ Ext w7' wr) (fun _ iv _ => 4 - (intOf iv).toNat)
                    case atStart => exact ⟨0, by omega, rfl, World.ownsRow_nil _ _ _ _, Ext.refl _⟩
                    case round =>
                      obtain ⟨wo, rfl⟩ : ∃ wo : World, wo = wr := ⟨_, rfl⟩
                      obtain ⟨i5, hi5, rfl, hov, Eo⟩ := hrel
                      by_cases hi4 : i5 < 4
                      · have hi4' : ((i5 : Int) < 4) := by omega
                        have NR1 := hid (NR.out wo Eo)
                        have HOV := hid hov
                        obtain ⟨ao, ko, rfl⟩ := own_form hov
                        clear hov
                        go_wp2_with fail
                        refine (NR1.out).mono ?_
                        clear NR1
                        rintro e wa ⟨vn1, rfl, o1, Ea⟩
                        have NW1 := hid (NW.out wa (Eo.trans Ea))
                        have HO1 := hid (own_seg o1)
                        have HEa := hid (Eo.trans Ea)
                        have HOVa := hid (own_ext HOV.out Ea)
                        obtain ⟨an1, kn1, rfl⟩ := own_form o1
                        clear o1 Ea HOV Eo
                        go_wp2_with fail
                        refine (NW1.out).mono ?_
                        clear NW1
                        rintro e wb ⟨vn2, rfl, o2, Eb⟩
                        obtain ⟨an2, kn2, rfl⟩ := own_form o2
                        have bx := heap_alloc_new wb (.cells #[.slice an1 (sortU (rds p)).length kn1, .slice an2 (sortU (wrs p)).length kn2] 22)
                        have EB := (Ext.refl wb).alloc (.cells #[.slice an1 (sortU (rds p)).length kn1, .slice an2 (sortU (wrs p)).length kn2] 22)
                        have CC := concat2_Str wb.heap.size _ _ (sortU (rds p)) (sortU (wrs p)) _ bx ((HO1.out.ext Eb).ext EB) ((own_seg o2).ext EB) (by omega)
                        rw [HK.out] at CC
                        have CC := hid CC
                        have HEb := hid (HEa.out.trans (Eb.trans EB))
                        have HOVb := hid (own_ext HOVa.out (Eb.trans EB))
                        clear o2 Eb EB bx HEa HOVa HO1
                        go_wp2_with fail
                        refine (CC.out).mono ?_
                        clear CC
                        rintro e wc9 ⟨vk, rfl, ok9, Ec⟩
                        obtain ⟨ak, kk, rfl⟩ := own_form ok9
                        have HSK := hid (own_base ok9 (Nat.zero_le _))
                        have HEc := hid (HEb.out.trans Ec)
                        have HOVc := hid (own_ext HOVb.out Ec)
                        have hKK := HKK.out
                        clear ok9 Ec HEb HOVb
                        go_wp2_with fail
                        go_loopw [37, 211] (fun ov jv wr => ∃ j5 : Nat, j5 ≤ K.length ∧ jv = .int .i64 j5 ∧ wr.ownsRow w7'.heap.size 3 1 ov (own2 C1 O1 K i5 j5).length (cI (own2 C1 O1 K i5 j5)) ∧ wr.ownsRow 0 9 1 (.slice ak K.length kk) K.length (cS K) ∧ Ext w7' wr) (fun _ jv _ => K.length - (intOf jv).toNat)
                        case atStart => exact ⟨0, Nat.zero_le _, rfl, by rw [own2_0]; exact HOVc.out, HSK.out, HEc.out⟩
                        case round =>
                          clear HOVc HSK
                          obtain ⟨wo, rfl⟩ : ∃ wo : World, wo = wr := ⟨_, rfl⟩
                          obtain ⟨j5, hj5, rfl, hov, hsk, Ej⟩ := hrel
                          by_cases hjl : j5 < K.length
                          · obtain ⟨bk, pk, rfl, _, m1, m2, hcK⟩ := seg_cells (own_seg hsk) (by omega)
                            unfold maxLen at m2
                            have ck := hcK j5 _ (cS_at0 K j5 hjl)
                            have xM := blk2 ((HE7.out.trans Ej).heap HSA.out.box)
                            have RWh := hid (rwhose_any (.agg #[u1, u2]) C1 O1 K[j5] wo (HSA.out.is.ext (HSA.out.E.trans (HE7.out.trans Ej))) HSA.out.ok.srt HSA.out.ok.len HSA.out.ok.few)
                            have HNO := hid (fun h => own2_no (C := C1) (O := O1) (i := i5) hjl h)
                            have HHAS := hid (fun h => own2_has (C := C1) (O := O1) (i := i5) hjl h)
                            have HNEW := hid (fun h1 h2 => own2_new (C := C1) (O := O1) (i := i5) hjl h1 h2)
                            have hzl := own2_len C1 O1 K i5 j5
                            generalize whose C1 O1 K[j5] = z5 at RWh HNO HNEW
                            generalize K[j5] = key at ck RWh
                            generalize own2 C1 O1 K i5 j5 = L5 at hov HNO HHAS HNEW hzl
                            have HOV := hid hov
                            obtain ⟨ao5, ko5, rfl⟩ := own_form hov
                            have HSK := hid hsk
                            clear hov hcK hsk
                            go_wp2_with fail
                            refine (RWh.out).mono ?_
                            clear RWh
                            rintro e wd ⟨rfl, Ed⟩
                            have CN := hid (conI_own (own_ext HOV.out Ed) (by omega) (i5 : Int))
                            have HOVd := hid (own_ext HOV.out Ed)
                            have HEd := hid (Ej.trans Ed)
                            have HSKd := hid (own_ext HSK.out Ed)
                            clear HOV Ed ck xM HSK
                            by_cases hz5 : z5 = (i5 : Int)
                            · have qz : (z5 == (i5 : Int)) = true := by simpa using hz5
                              by_cases hin : (i5 : Int) ∈ L5
                              · have hh := HHAS.out hin
                                rw [decide_eq_true hin] at CN
                                have HH := hid hh
                                clear hh hin hz5 HNO HNEW HHAS
                                go_wp2_with fail
                                refine (CN.out).mono ?_
                                clear CN
                                rintro e wx ⟨rfl, rfl⟩
                                go_wp2_with fail
                                go_roundw
                                case rel => exact ⟨j5 + 1, by omega, by go_num, by rw [HH.out]; exact HOVd.out, HSKd.out, HEd.out⟩
                                case measure => simp [intOf] <;> omega
                              · have hh := HNEW.out hz5 hin
                                rw [decide_eq_false hin] at CN
                                have HH := hid hh
                                clear hh hin hz5 HNO HNEW HHAS
                                go_wp2_with fail
                                refine (CN.out).mono ?_
                                clear CN
                                rintro e wx ⟨rfl, rfl⟩
                                obtain ⟨wd, rfl⟩ : ∃ wq : World, wq = wx := ⟨_, rfl⟩
                                have p1 : Seg (wd.alloc (.cells #[.int .i64 (i5 : Int)] 3)) (.slice (some ⟨wd.heap.size, 0, none⟩) 1 1) 1 1 [.int .i64 (i5 : Int)] := seg_one (heap_alloc_new wd _)
                                have p2 := HOVd.out.alloc (.cells #[.int .i64 (i5 : Int)] 3)
                                have p3 : w7'.heap.size ≤ (wd.alloc (.cells #[.int .i64 (i5 : Int)] 3)).heap.size := Nat.le_trans HEd.out.size' ((Ext.refl wd).alloc _).size'
                                have hci := cI_snoc L5 (i5 : Int)
                                have hci := hid hci
                                go_wp2_with (first | (at_builtin; refine (wpList_app rfl _ _ 23 rfl w7'.heap.size 3 (.int .i64 0) 1 8 Tryz.underlying23 infoI rfl (by decide) (.slice ao5 L5.length ko5) L5.length (cI L5) rfl p2 _ 1 [.int .i64 (i5 : Int)] rfl p1 (one_int _) (by omega) (by unfold maxLen; omega) p3 ?_); intro v' w9' ho' hg))
                                go_roundw
                                case rel => exact ⟨j5 + 1, by omega, by go_num, by rw [HH.out, List.length_append, hci.out]; exact ho', grown_own hg (HSKd.out.alloc _) (own_own_ne (HSKd.out.alloc _) p2 (by decide)), (HEd.out.alloc _).grown hg (fun k hk => own_ge p2 k hk)⟩
                                case measure => simp [intOf] <;> omega
                            · have qz : (z5 == (i5 : Int)) = false := by simpa using hz5
                              have hh := HNO.out hz5
                              have HH := hid hh
                              clear hh hz5 HNO HNEW HHAS CN
                              go_wp2_with fail
                              go_roundw
                              case rel => exact ⟨j5 + 1, by omega, by go_num, by rw [HH.out]; exact HOVd.out, HSKd.out, HEd.out⟩
                              case measure => simp [intOf] <;> omega
                          · obtain rfl : j5 = K.length := by omega
                            rw [own2_end] at hov
                            have HOV := hid hov
                            have HEx := hid Ej
                            clear hov Ej hsk
                            go_wp2_with fail
                            go_roundw
                            case rel => exact ⟨i5 + 1, by omega, by go_num, HOV.out, HEx.out⟩
                            case measure => simp [intOf] <;> omega
                      · obtain rfl : i5 = 4 := by omega
                        have EQI := equal_Int _ _ (ownTo C1 O1 K 4) (ownTo C1 O1 K 4) wo (HOL7.out.ext Eo) (own_seg hov)
                        rw [decide_eq_true (rfl : ownTo C1 O1 K 4 = ownTo C1 O1 K 4)] at EQI
                        have EQI := hid EQI
                        obtain ⟨ao5, ko5, rfl⟩ := own_form hov
                        have HEo := hid (HE7.out.trans Eo)
                        clear hov Eo
                        go_wp2_with fail
                        refine (EQI.out).mono ?_
                        clear EQI
                        rintro e wx ⟨rfl, nx, rfl⟩
                        have HQ2 := hid (HQ.out _ (HEo.out.drewN nx))
                        go_wp2_with fail
                        go_meet
                        case rel => exact HQ2
                  · have WB := hid (pwho_bad wA bt _ p (HSP.out.ext hSA.E) PS hp0)
                    have q0 : (deedE p != 0) = true := by simp [hp0]
                    have qd : (deedE p != deedE p) = false := by simp
                    have HSA := hid hSA
                    clear hp0 hSA hKl hSl HPK
                    generalize deedE p = de at WB RD q0 qd
                    go_wp2_with fail
                    refine (WB.out).mono ?_
                    clear WB
                    rintro e w5 ⟨rfl, E5⟩
                    have y5 := E5.cell y20
                    have RD1 := hid (RD.out w5 (HSA.out.E.trans E5))
                    have HE5 := hid E5
                    clear RD y20 E5
                    go_wp2_with fail
                    refine (RD1.out).mono ?_
                    clear RD1
                    rintro e w6 ⟨rfl, E6⟩
                    have HQ2 := hid (HQ.out w6 (HE5.out.trans E6))
                    clear y5 E6
                    go_wp2_with fail
                    go_meet
                    case rel => exact HQ2
              · have d1 : (z0 == 1) = false := by simpa using q1
                have d2 : (z0 == 2) = false := by simpa using q2
                have d3 : (z0 == 3) = false := by simpa using q3
                have HQ2 := hid (HQ.out wA (Ext.refl _))
                clear q1 q2 q3 y20
                go_wp2_with fail
                go_meet
                case rel => exact HQ2
        case rest =>
          as_aux_lemma =>
            obtain ⟨C3, O3, S3, b3, n3, D3, f3, vc3, vo3, pv3, w1', w2', hS3⟩ := hcut.out
            obtain ⟨wR, rfl⟩ : ∃ wR : World, wR = wc := ⟨_, rfl⟩
            have hvv := hS3.vv
            subst hvv
            have hKl := allK_len l D
            have hSl := inK_len hS3.sto.srt hS3.inK
            have hSl4 : S3.length ≤ 440000 := by omega
            have hnb := hS3.n
            have PA := hid (fun w' (q : Ext wR w') => pall_ok (hS3.parts.ext q) hS3.ok hS3.sto (by omega))
            have RL := hid (fun w' (q : Ext wR w') => rlist_any b3 n3 D3 f3 w' (ownsMap_ext hS3.map q) hS3.mf (by omega))
            have MP := hid (fun w' (q : Ext wR w') => pmap_ok (hS3.parts.ext q) hS3.ok)
            have HS3 := hid hS3
            have xM := blk2 hS3.box
            have HIS := hid (hS3.is.ext hS3.E)
            have HPR := hid (fun (ll : Prs) (h1 : srtP ll) (h2 : nzP ll) (h3 : ∀ k, valP ll k = (f3 k).getD 0) => (prs_ext hS3.sto.srt h1 hS3.sto.nz h2 (fun x => by rw [h3, ← hS3.at']; rfl) : S3 = ll))
            clear hS3 hKl hSl hnb hcut HQ HS HSP HSM HBD HBM PS HPK PC
            go_wp2_with fail
            refine wp_region_ph [.k (.pointer (some ⟨bt, 0, none⟩)), .p (SegPx S3), .k (.map (some b3)), .p (SegPx S3), .k (.bool true), .k (.bool false), .k (.bool false), .k (.pointer (some ⟨bt, 0, none⟩)), .p (MapPx C3 O3), .k (.agg #[w1', w2']), .k (.bool true), .k (.bool false), .k (.bool false)] [] (by kernel_rfl) (by kernel_rfl) (by kernel_rfl) rfl rfl ?hs ?hC ?he
            case hC =>
              intro i hi
              simp at hi
            case hs =>
              refine ⟨?_, ?_, ?_, ?_, ?_, ?_, ?_, ?_, ?_, ?_, ?_, ?_, ?_, trivial⟩
              all_goals (
                intro x w' hE hd
                try simp [PhDeps, at_k, at_p, at_t, at_any, Region.binds] at hd
                try ((with_reducible refine Exists.elim hd ?_); clear hd; intro y hd; obtain ⟨hd, hG⟩ := hd)
                have f0 := hE.cell xM.1
                have f1 := hE.cell xM.2.1
                try (have hs4 := hid (And.intro (segPx_now (w0 := wR) hd.1) (segPx_now (w0 := wR) hd.2)))
                try (have hm4 := hid (mapPx_now (w0 := wR) hd.1))
                first | simp only [frL, List.length_cons, List.length_nil, List.take_succ_cons, List.take_zero, Nat.reduceAdd, Nat.zero_add, List.setIfInBounds_toArray, List.set_cons_zero, List.set_cons_succ, hd] | simp only [frL, List.length_cons, List.length_nil, List.take_succ_cons, List.take_zero, Nat.reduceAdd, Nat.zero_add, List.setIfInBounds_toArray, List.set_cons_zero, List.set_cons_succ]
                go_wp2_with (first | (go_at_call 25; (with_reducible refine (PA.out _ hE).mono ?_); rintro e wa ⟨v9, rfl, hm9, hea⟩) | (go_at_call 16; (with_reducible refine (RL.out _ hE).mono ?_); rintro e wa ⟨v9, ll, rfl, r1, r2, r3, _, r5, hea⟩; have hll := hid (HPR.out ll r1 r2 r3)) | (go_at_call 24; (with_reducible refine (equal_Pl _ _ S3 _ hs4.out.1.seg hs4.out.2.seg).mono ?_); rintro e wa ⟨rfl, hea⟩) | (go_at_call 5; (with_reducible refine (MP.out _ hE).mono ?_); rintro e wa ⟨v9, rfl, hm9, hea⟩) | (go_at_call 26; (with_reducible refine (samePx hm4.out.is (HIS.out.ext hE)).mono ?_); rintro e wa ⟨rfl, hea⟩))
                all_goals first
                  | ((with_reducible refine phK ?_ ?_); (focus rfl); (repeat (first | (with_reducible assumption) | (with_reducible exact Ext.refl _) | (with_reducible refine Ext.drew ?_) | (with_reducible refine Ext.drewN ?_ _) | (with_reducible refine Ext.alloc ?_ _) | (with_reducible refine Ext.trans ?_ (by with_reducible assumption)))))
                  | (exact phN (SegPx.mk (own_seg hm9)) hE hea)
                  | (exact phN (segPx_of hll.out r5) hE hea)
                  | (exact phN (MapPx.mk hm9.is) hE hea)
                  | ((with_reducible refine phT rfl hG ?_); (repeat (first | (with_reducible assumption) | (with_reducible exact Ext.refl _) | (with_reducible refine Ext.drew ?_) | (with_reducible refine Ext.drewN ?_ _) | (with_reducible refine Ext.alloc ?_ _) | (with_reducible refine Ext.trans ?_ (by with_reducible assumption)))))
                  | ((with_reducible refine phU hG ?_); (repeat (first | (with_reducible assumption) | (with_reducible exact Ext.refl _) | (with_reducible refine Ext.drew ?_) | (with_reducible refine Ext.drewN ?_ _) | (with_reducible refine Ext.alloc ?_ _) | (with_reducible refine Ext.trans ?_ (by with_reducible assumption)))))
                  | (with_reducible exact phBox hE)
                  | (with_reducible exact phRow hE))
            case he =>
              intro x wS ES hd
              simp [PhEnd, at_k, at_p] at hd
              have e12 := hd.2.2.2.2.2.2.2.2.2.2.2.2
              clear hd
              simp only [frL, List.length_cons, List.length_nil, List.take_succ_cons, List.take_zero, Nat.reduceAdd, Nat.zero_add, List.setIfInBounds_toArray, List.set_cons_zero, List.set_cons_succ, e12, List.length_cons, List.length_nil, List.drop_succ_cons, List.drop_zero]
              clear e12
              have PB := hid (fun w' (z : Int) (h : z < 0 ∨ 4 ≤ z) => ppart_bad w' bt z h)
              have PK5 := hid (fun w' (q : Ext wS w') (j : Nat) (hj : j < 4) => ppart_ok (HS3.out.parts.ext (ES.trans q)) j hj (by have := par_len C3 O3 S3 j; omega))
              have RW5 := hid (fun w' (q : Ext wS w') (z : Int) => rowned_any (.agg #[w1', w2']) C3 O3 b3 n3 D3 f3 z w' (HIS.out.ext (ES.trans q)) HS3.out.ok (ownsMap_ext HS3.out.map (ES.trans q)) HS3.out.mf (by have := HS3.out.n; omega))
              have HPR5 := hid (fun (j : Nat) (ll : Prs) (h1 : srtP ll) (h2 : nzP ll) (h3 : ∀ k, valP ll k = (if whose C3 O3 k = (j : Int) then f3 k else none).getD 0) => (prs_ext (par_ok HS3.out.sto C3 O3 j).srt h1 (par_ok HS3.out.sto C3 O3 j).nz h2 (fun x => by
                rw [h3, par_val HS3.out.sto, ← HS3.out.at']
                by_cases q : whose C3 O3 x = (j : Int)
                · rw [if_pos q, if_pos q]; rfl
                · rw [if_neg q, if_neg q]; rfl) : parP C3 O3 S3 j = ll))
              have xS := blk2 (ES.heap HS3.out.box)
              have hn3 := HS3.out.n
              clear PA RL MP HPR xM
              go_wp2_with fail
              go_loopw [41] (fun iv wr => ∃ j : Int, -1 ≤ j ∧ j ≤ 5 ∧ iv = .int .i64 j ∧ Ext wS wr) (fun iv _ => (5 - intOf iv).toNat)
              case atStart => exact ⟨-1, by omega, by omega, rfl, Ext.refl _⟩
              case round =>
                obtain ⟨wo, rfl⟩ : ∃ wo : World, wo = wr := ⟨_, rfl⟩
                obtain ⟨j, hj0, hj5, rfl, Eo⟩ := hrel
                by_cases hj : j < 5
                · by_cases hb : j < 0 ∨ 4 ≤ j
                  · have PB1 := hid (PB.out wo j hb)
                    by_cases hb0 : j < 0
                    · clear hb
                      go_wp2_with fail
                      refine (PB1.out).mono ?_
                      rintro e wa ⟨rfl, Ea⟩
                      go_wp2_with fail
                      go_roundw
                      case rel => exact ⟨j + 1, by omega, by omega, by go_num, Eo.trans Ea⟩
                      case measure => simp [intOf] <;> omega
                    · have hb3 : j > 3 := by omega
                      clear hb
                      go_wp2_with fail
                      refine (PB1.out).mono ?_
                      rintro e wa ⟨rfl, Ea⟩
                      go_wp2_with fail
                      go_roundw
                      case rel => exact ⟨j + 1, by omega, by omega, by go_num, Eo.trans Ea⟩
                      case measure => simp [intOf] <;> omega
                  · obtain ⟨jj, rfl⟩ : ∃ jj : Nat, j = jj := ⟨j.toNat, by omega⟩
                    have PK1 := hid (PK5.out wo Eo jj (by omega))
                    have hb0 : ¬ ((jj : Int) < 0) := by omega
                    have hb3 : ¬ ((jj : Int) > 3) := by omega
                    have HPJ := hid (HPR5.out jj)
                    have RWj := hid (fun w' (q : Ext wo w') => RW5.out w' (Eo.trans q) (jj : Int))
                    have HXS := hid (fun w' (q : Ext wo w') => blk2 ((ES.trans (Eo.trans q)).heap HS3.out.box))
                    clear hb PB PK5 RW5 HPR5
                    go_wp2_with fail
                    refine (PK1.out).mono ?_
                    clear PK1
                    rintro e wa ⟨v1, rfl, oa, Ea⟩
                    obtain ⟨ka, ca, rfl⟩ := own_form oa
                    have SA := hid (own_seg oa)
                    have xW := HXS.out wa Ea
                    have RWk := hid (RWj.out wa Ea)
                    clear oa RWj HXS
                    go_wp2_with fail
                    refine (RWk.out).mono ?_
                    clear RWk
                    rintro e wb ⟨b', n', D', rfl, hm', hF', hn', Eb⟩
                    have RLk := hid (rlist_any b' n' D' _ wb hm' hF' (by omega))
                    have HEb := hid Eb
                    clear hm' hF' Eb xW
                    go_wp2_with fail
                    refine (RLk.out).mono ?_
                    clear RLk
                    rintro e wd ⟨v9, ll, rfl, r1, r2, r3, _, r5, Ed⟩
                    have hll := HPJ.out ll r1 r2 r3
                    obtain ⟨kd, cd', rfl⟩ := own_form r5
                    have EQ := hid (equal_Pl _ (.slice kd ll.length cd') (parP C3 O3 S3 jj) wd (SA.out.ext (HEb.out.trans Ed)) (by rw [hll]; exact own_seg r5))
                    have HEd := hid (Eo.trans (Ea.trans (HEb.out.trans Ed)))
                    clear r1 r2 r3 r5 hll Ed HPJ SA
                    go_wp2_with fail
                    refine (EQ.out).mono ?_
                    clear EQ
                    rintro e we ⟨rfl, Ee⟩
                    go_wp2_with fail
                    go_roundw
                    case rel => exact ⟨(jj : Int) + 1, by omega, by omega, by go_num, HEd.out.trans Ee⟩
                    case measure => simp [intOf] <;> omega
                · have HQ3 := hid (⟨C3, O3, S3, b3, n3, D3, f3, vc3, vo3, pv3, w1', w2', HS3.out.ext (ES.trans Eo)⟩ : PPI w (allK l D) bt mb (.slice (some ⟨g7, o7, none⟩) nl c7) nl X (l.length + 16 * (i + 1)) (.map (some b3)) wo)
                  clear PB PK5 RW5 HPR5
                  go_wp2_with fail
                  go_roundw
                  case rel => exact ⟨i + 1, by omega, by go_num, HQ3⟩
                  case measure => simp [intOf] <;> omega
      · have hge : ¬ ((i : Int) < (nl : Int)) := by omega
        have EE := hid hS.E
        clear hS HPI
        go_wp2
        go_ret
        exact ⟨rfl, EE.out⟩
  · have NB1 := hid (NB.out hE)
    have q : (newE C O l != 0) = true := by simp [hE]
    clear NB hw0 hmb
    by_cases g1 : mapErr C O = 0
    · have e1 : newE C O l = storeErr l := by rw [HNE.out, if_neg (by simp [g1])]
      rw [e1] at NB1 q
      rw [g1] at RM
      clear e1 hE g1 HNE
      generalize storeErr l = er at NB1 q RS
      go_wp2_with fail
      refine (NB1.out).mono ?_
      clear NB1
      rintro e w3 ⟨rfl, E4⟩
      have xa := blk2 ((HE3.out.trans E4).heap HA.out)
      have RM1 := hid (RM.out w3 E4)
      have E4h := hid E4
      clear RM E4
      go_wp2_with fail
      refine (RM1.out).mono ?_
      clear RM1
      rintro e w4 ⟨rfl, E5⟩
      have RS1 := hid (RS.out w4 (E4h.out.trans E5))
      have E5h := hid E5
      clear RS E5
      go_wp2_with fail
      refine (RS1.out).mono ?_
      clear RS1
      rintro e w5 ⟨rfl, E6⟩
      go_wp2
      go_ret
      exact ⟨rfl, HE0.out.trans (HE3.out.trans (E4h.out.trans (E5h.out.trans E6)))⟩
    · have e1 : newE C O l = mapErr C O := by rw [HNE.out, if_pos g1]
      rw [e1] at NB1 q
      have q2 : (mapErr C O == 0) = false := by simp [g1]
      clear e1 hE g1 HNE RS
      generalize mapErr C O = er at NB1 q q2 RM
      go_wp2_with fail
      refine (NB1.out).mono ?_
      clear NB1
      rintro e w3 ⟨rfl, E4⟩
      have xa := blk2 ((HE3.out.trans E4).heap HA.out)
      have RM1 := hid (RM.out w3 E4)
      have E4h := hid E4
      clear RM E4
      go_wp2_with fail
      refine (RM1.out).mono ?_
      clear RM1
      rintro e w4 ⟨rfl, E5⟩
      go_wp2
      go_ret
      exact ⟨rfl, HE0.out.trans (HE3.out.trans (E4h.out.trans E5))⟩
end Go.Proofs.YtimchedebcoohaaGreatDoor
