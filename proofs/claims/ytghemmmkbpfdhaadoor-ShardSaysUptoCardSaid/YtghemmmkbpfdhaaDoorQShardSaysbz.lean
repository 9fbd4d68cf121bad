/- Contracts and lemmas for the proof of ShardSays; each theorem states its own conditions. -/
import Derived.Test.YtghemmmkbpfdhaaDoorQShardSaysbg
import Derived.Test.YtghemmmkbpfdhaaDoorQShardSaysbc
import Derived.Test.YtghemmmkbpfdhaaDoorQShardSaysbi
import Derived.Test.YtghemmmkbpfdhaaDoorQShardSaysbx
import Derived.Test.YtghemmmkbpfdhaaDoorQShardSaysby
import Derived.BigQuiet
set_option linter.unusedVariables false
set_option linter.unusedSimpArgs false
/- Contracts and lemmas for the proofs of this seat; each theorem states its own conditions. -/
namespace Go.Proofs.YtghemmmkbpfdhaaDoor
open Go.RowKit Go.Maps
/-! ShardSays: whatever is handed in -/
theorem sameB_self' (c : List ByteArray) (o : List Int) : sameB c c o o = true := by simp [sameB]
def MapVs (C : List ByteArray) (O : List Int) (v : Value) (w : World) : Prop := IsMap w v C O
theorem mapVs_now {w0 w' : World} {C : List ByteArray} {O : List Int} {v : Value} (h : Up w0 w' (MapVs C O v)) : IsMap w' v C O := by
  obtain ⟨u, _, g, k⟩ := h
  exact IsMap.ext k g
theorem same_of {w : World} {v u : Value} {c c' : List ByteArray} {o o' : List Int} (hv : IsMap w v c o) (hu : IsMap w u c' o') (e1 : c = c') (e2 : o = o') :
    Calls Tryd.prog 33 #[v, u] w fun e w' => e = .returned (.bool true) ∧ Ext w w' := by
  subst e1; subst e2
  have q := sameMap_any v u c c o o w hv hu
  rw [sameB_self'] at q; exact q
set_option maxRecDepth 100000 in
set_option maxHeartbeats 16000000 in
theorem ssays_walk (vm : Value) (C : List ByteArray) (O : List Int) (key : ByteArray) (i owner : Int) (w : World) (hm : IsMap w vm C O) (sC : StrW C) (hks : key.size ≤ maxLen) :
    Calls Tryd.prog 5 #[vm, .string key, .int .i64 i, .int .i64 owner] w fun e w' => e = .returned (.bool true) ∧ Ext w w' := by
  have sc : ∀ k ∈ C, k.size ≤ 9223372036854775807 := fun k hk => by have := sC k hk; unfold maxLen at this; omega
  have hks : key.size ≤ 9223372036854775807 := by unfold maxLen at hks; omega
  obtain ⟨a1, k1, a2, k2, rfl, _, _⟩ := hm.unpack
  have b0 := heap_alloc_new w (.cells #[.slice a1 C.length k1, .slice a2 O.length k2] 28)
  have E0 := (Ext.refl w).alloc (.cells #[.slice a1 C.length k1, .slice a2 O.length k2] 28)
  obtain ⟨w0, hw0⟩ : ∃ w0, w.alloc (.cells #[.slice a1 C.length k1, .slice a2 O.length k2] 28) = w0 := ⟨_, rfl⟩
  obtain ⟨mb, hmb⟩ : ∃ mb, w.heap.size = mb := ⟨_, rfl⟩
  rw [hw0] at b0 E0
  rw [hmb] at b0
  have HA := hid b0
  have IM := hid (fun w' (q : Ext w0 w') => hm.ext (E0.trans q))
  have xa := blk2 b0
  have FD := hid (find_any _ C O key w0 (hm.ext E0) sc hks)
  have HFV := hid (fun (h : mapErr C O ≠ 0) => find_bad h key)
  have HFN := hid (fun (h : mapErr C O = 0) (hk : keyB key = false) => find_no h hk)
  have HFY := hid (fun (h : mapErr C O = 0) (hk : keyB key = true) => find_yes h hk)
  generalize findV C O key = fv at FD HFV HFN HFY
  generalize findE C O key = fe at FD HFV HFN HFY
  clear hm b0
  go_enter Tryd.func5, Tryd.ntmps5
  go_wp2_with fail
  refine (FD.out).mono ?_
  clear FD hw0 hmb
  rintro e w1 ⟨rfl, E1⟩
  have xa := blk2 (E1.heap HA.out)
  have CT := hid (cut_all _ C O key w1 (IM.out _ E1) sc hks)
  have HCB := hid (fun (h : mapErr C O ≠ 0) => cutE_bad h key)
  have HCG := hid (fun (h : mapErr C O = 0) => cutE_ok h key)
  have HCN := hid (fun (h : cutE C O key ≠ 0) => cutM_no h)
  have HCY := hid (fun (h : cutE C O key = 0) => cutM_yes h)
  generalize cutE C O key = ce at CT HCB HCG HCN HCY
  generalize cutMC C O key = CC at CT HCN HCY
  generalize cutMO C O key = CO at CT HCN HCY
  go_wp2_with fail
  refine (CT.out).mono ?_
  clear CT
  rintro e w2 ⟨v2, rfl, hc2, E2⟩
  obtain ⟨c1, n1, c2, n2, rfl, _, _⟩ := hc2.unpack
  have EP := (Ext.refl w2).alloc (.cells #[.slice c1 CC.length n1, .slice c2 CO.length n2] 28)
  have bp := heap_alloc_new w2 (.cells #[.slice c1 CC.length n1, .slice c2 CO.length n2] 28)
  obtain ⟨w3, hw3⟩ : ∃ w3, w2.alloc (.cells #[.slice c1 CC.length n1, .slice c2 CO.length n2] 28) = w3 := ⟨_, rfl⟩
  obtain ⟨cb, hcb⟩ : ∃ cb, w2.heap.size = cb := ⟨_, rfl⟩
  rw [hw3] at EP bp
  rw [hcb] at bp
  have IC := hid (fun w' (q : Ext w3 w') => (hc2.ext EP).ext q)
  have HB := hid bp
  replace E1 := E1.trans (E2.trans EP)
  have xa := blk2 (E1.heap HA.out)
  have GV := hid (give_all _ C O i owner w3 (IM.out _ E1) sc)
  have HGB := hid (fun (h : mapErr C O ≠ 0) => giveE_bad h i owner)
  have HGG := hid (fun (h : mapErr C O = 0) => giveE_ok h i owner)
  have HGN := hid (fun (h : giveE C O i owner ≠ 0) => giveM_no h)
  have HGY := hid (fun (h : giveE C O i owner = 0) => giveM_yes h)
  generalize giveE C O i owner = ge at GV HGB HGG HGN HGY
  generalize giveMC C O i owner = GC at GV HGN HGY
  generalize giveMO C O i owner = GO at GV HGN HGY
  clear hc2 E2 EP bp
  go_wp2_with fail
  refine (GV.out).mono ?_
  clear GV hw3 hcb
  rintro e w4 ⟨v4, rfl, hc4, E4⟩
  obtain ⟨g1, m1, g2, m2, rfl, _, _⟩ := hc4.unpack
  have EP := (Ext.refl w4).alloc (.cells #[.slice g1 GC.length m1, .slice g2 GO.length m2] 28)
  have bp := heap_alloc_new w4 (.cells #[.slice g1 GC.length m1, .slice g2 GO.length m2] 28)
  obtain ⟨w5, hw5⟩ : ∃ w5, w4.alloc (.cells #[.slice g1 GC.length m1, .slice g2 GO.length m2] 28) = w5 := ⟨_, rfl⟩
  obtain ⟨gb, hgb⟩ : ∃ gb, w4.heap.size = gb := ⟨_, rfl⟩
  rw [hw5] at EP bp
  rw [hgb] at bp
  have IG := hid (fun w' (q : Ext w5 w') => (hc4.ext EP).ext q)
  have HG := hid bp
  have E35 := E4.trans EP
  replace E1 := E1.trans E35
  have HB5 := hid (E35.heap HB.out)
  have IC5 := hid (fun w' (q : Ext w5 w') => IC.out w' (E35.trans q))
  have xa := blk2 (E1.heap HA.out)
  have RM := hid (rmap_any _ C O w5 (IM.out _ E1) sc)
  have MC := hid (fun w' (q : Ext w5 w') => mcheck_any _ C O w' (IM.out _ (E1.trans q)) sc)
  clear hc4 E4 EP bp E35 IC HB
  go_wp2_with fail
  refine (RM.out).mono ?_
  clear RM hw5 hgb
  rintro e w6 ⟨rfl, E6⟩
  have xa := blk2 ((E1.trans E6).heap HA.out)
  have MC1 := hid (MC.out w6 E6)
  clear MC
  have qs : (mapErr C O != mapErr C O) = false := by simp
  go_wp2_with fail
  refine (MC1.out).mono ?_
  clear MC1
  rintro e w7 ⟨rfl, E7⟩
  have MN := mcheck_any (.agg #[.slice none 0 0, .slice none 0 0]) [] [] w7 (nilMap_is _) (by simp)
  rw [mapErr_nil] at MN
  have MN := hid MN
  go_wp2_with fail
  refine (MN.out).mono ?_
  clear MN qs
  rintro e w8 ⟨rfl, E8⟩
  have E58 := E6.trans (E7.trans E8)
  replace E1 := E1.trans E58
  have HB8 := hid (E58.heap HB5.out)
  have HG8 := hid (E58.heap HG.out)
  have IC8 := hid (fun w' (q : Ext w8 w') => IC5.out w' (E58.trans q))
  have IG8 := hid (fun w' (q : Ext w8 w') => IG.out w' (E58.trans q))
  clear E6 E7 E8 E58 HB5 HG IC5 IG xa
  by_cases hE : mapErr C O = 0
  · have okM := mapOk_of hE
    have hce := HCG.out hE
    have hge := HGG.out hE
    have HFN1 := hid (HFN.out hE)
    have HFY1 := hid (HFY.out hE)
    have hlO := okM.len
    have hl12 := okM.few
    have HSR := hid okM.srt
    have HCE := hid hce
    have HGE := hid hge
    rw [hE]
    clear hE hce hge okM HCB HCG HGB HGG HFV HFN HFY
    have xa := blk2 (E1.heap HA.out)
    have HM8 := hid (E1.heap HA.out)
    have IM8 := hid (fun w' (q : Ext w8 w') => IM.out w' (E1.trans q))
    have EE := hid (E0.trans E1)
    clear HA IM E0 E1
    have hO0 : 0 < O.length := by omega
    have hOl : O.length ≤ 13 := by omega
    have HLO := hid hlO
    have hlO2 : C.length + 1 ≤ O.length := by omega
    clear hlO
    go_upto_region 9 with fail
    go_cut [93] from 77 to 93 (fun c wx => Hid (c = .bool (giveBad O i owner)) ∧ wx = w8)
    case first =>
      by_cases p1 : i < 0
      · have HR := hid (giveBad_t (O := O) (i := i) (n := owner) (.inl p1))
        go_wp2_with fail
        go_meet
        exact ⟨hid (by rw [HR.out]), rfl⟩
      · by_cases p2 : (O.length : Int) ≤ i
        · have HR := hid (giveBad_t (O := O) (i := i) (n := owner) (.inr (.inl p2)))
          have p2' : i ≥ (O.length : Int) := p2
          clear p2
          go_wp2_with fail
          go_meet
          exact ⟨hid (by rw [HR.out]), rfl⟩
        · have p2' : ¬ (i ≥ (O.length : Int)) := p2
          by_cases p3 : owner < 0
          · have HR := hid (giveBad_t (O := O) (i := i) (n := owner) (.inr (.inr (.inl p3))))
            clear p2
            go_wp2_with fail
            go_meet
            exact ⟨hid (by rw [HR.out]), rfl⟩
          · by_cases p4 : 3 < owner
            · have HR := hid (giveBad_t (O := O) (i := i) (n := owner) (.inr (.inr (.inr p4))))
              have p4' : owner > 3 := p4
              clear p2 p4
              go_wp2_with fail
              go_meet
              exact ⟨hid (by rw [HR.out]), rfl⟩
            · have HR := hid (giveBad_f (O := O) (i := i) (n := owner) (by omega))
              have p4' : ¬ (owner > 3) := p4
              clear p2 p4
              go_wp2_with fail
              go_meet
              exact ⟨hid (by rw [HR.out]), rfl⟩
    case rest =>
      obtain ⟨hc, hw⟩ := hcut
      have hc := hc.out
      subst hc
      subst hw
      obtain ⟨w8, rfl⟩ : ∃ w8 : World, w8 = wc := ⟨_, rfl⟩
      have HGF := hid (show giveBad O i owner = false → 0 ≤ i ∧ i < (O.length : Int) ∧ 0 ≤ owner ∧ owner ≤ 3 from fun h => by
        have : ¬ (i < 0 ∨ (O.length : Int) ≤ i ∨ owner < 0 ∨ 3 < owner) := fun q => by rw [giveBad_t q] at h; cases h
        omega)
      generalize giveBad O i owner = bd at HGE HGF ⊢
      go_upto_if 93 with fail
      go_cut [16] from 94 to 125 (fun _ wx => Ext w8 wx)
      case first =>
        cases bd with
        | true =>
          have hge : ge = 1 := by rw [HGE.out]; rfl
          subst hge
          obtain ⟨r1, r2⟩ := HGN.out (by decide)
          subst r1; subst r2
          have xg := blk2 HG8.out
          have SM := sameMap_any (.agg #[.slice g1 0 m1, .slice g2 0 m2]) (.agg #[.slice none 0 0, .slice none 0 0]) [] [] [] [] w8 (IG8.out _ (Ext.refl _)) (nilMap_is _)
          rw [sameB_self'] at SM
          have SM := hid SM
          simp only [List.length_nil] at xg
          clear HGN HGY HGF HGE
          go_wp2_with fail
          refine (SM.out).mono ?_
          clear SM
          rintro e wa ⟨rfl, Ea⟩
          go_wp2_with fail
          go_meet
          exact Ea
        | false =>
          obtain ⟨i0, i1, w0', w3'⟩ := HGF.out rfl
          have hge : ge = 0 := by rw [HGE.out]; rfl
          subst hge
          obtain ⟨r1, r2⟩ := HGY.out rfl
          have r1 := r1.symm
          subst r1
          have HGO := hid r2
          obtain ⟨ii, rfl⟩ : ∃ ii : Nat, i = ii := ⟨i.toNat, by omega⟩
          have hii : ii < O.length := by omega
          have SO : SegI O (.slice a2 O.length k2) w8 := by
            obtain ⟨_, _, hq, _, q2⟩ := IM8.out _ (Ext.refl _)
            injection hq with hq; injection hq with hq; injection hq with _ hq; injection hq with hq _; subst hq
            exact ⟨q2⟩
          obtain ⟨bO, oO, rfl, _, q1, q2, _⟩ := seg_cells SO.seg hO0
          unfold maxLen at q2
          have HSO := hid (fun w' (q : Ext w8 w') => SO.ext q)
          have HSET := hid (show ct3I (tkI O ii) (oneI owner) (dpI O (ii + 1)) = GO by rw [HGO.out]; exact set_three owner hii)
          have l1 := tkI_len O ii
          have l2 := dpI_len O (ii + 1)
          have l3 := oneI_len owner
          have Hk2 := hid (show k2 ≤ maxLen by unfold maxLen; omega)
          have xc := blk2 HM8.out
          clear SO HGN HGY HGF HGE HGO i0 i1 r2
          go_wp2_with fail
          refine wp_region_ph [.k (.pointer (some ⟨mb, 1, none⟩)), .k (.slice (some ⟨bO, oO, none⟩) O.length k2), .k (.int .i64 ii), .p (SegI (tkI O ii)), .k (.int .i64 owner), .p (SegI (oneI owner)), .k (.pointer (some ⟨mb, 1, none⟩)), .k (.slice (some ⟨bO, oO, none⟩) O.length k2), .k (.int .i64 ii), .k (.int .i64 ((ii : Int) + 1)), .p (SegI (dpI O (ii + 1))), .p (Row3I (tkI O ii) (oneI owner) (dpI O (ii + 1))), .p (SegI (ct3I (tkI O ii) (oneI owner) (dpI O (ii + 1))))] [] (by kernel_rfl) (by kernel_rfl) (by kernel_rfl) rfl rfl ?hs ?hC ?he
          case hC =>
            intro i hi
            simp at hi
          case hs =>
            refine ⟨?_, ?_, ?_, ?_, ?_, ?_, ?_, ?_, ?_, ?_, ?_, ?_, ?_, trivial⟩
            all_goals (
              intro x w' hE hd
              try simp [PhDeps, at_k, at_p, at_t, at_any, Region.binds] at hd
              try ((with_reducible refine Exists.elim hd ?_); clear hd; intro y hd; obtain ⟨hd, hG⟩ := hd)
              have f1 := hE.cell xc.2.1
              have hso := hid (HSO.out _ hE)
              have hl1 := hid (show ii + 1 ≤ O.length by omega)
              try (have hr3 := hid (row3I_now (w0 := w8) hd))
              try (have s3 := segI_now (w0 := w8) hd.1; have s5 := segI_now (w0 := w8) hd.2.1; have s10 := segI_now (w0 := w8) hd.2.2; obtain ⟨p3, r3, u3, e3⟩ := segI_form s3; obtain ⟨p5, r5, u5, e5⟩ := segI_form s5; obtain ⟨p10, r10, u10, e10⟩ := segI_form s10; rw [e3] at s3; rw [e5] at s5; rw [e10] at s10; have hr4 := hid (And.intro s3 (And.intro s5 s10)); clear s3 s5 s10)
              first | simp only [frL, List.length_cons, List.length_nil, List.take_succ_cons, List.take_zero, Nat.reduceAdd, Nat.zero_add, List.setIfInBounds_toArray, List.set_cons_zero, List.set_cons_succ, hd] | simp only [frL, List.length_cons, List.length_nil, List.take_succ_cons, List.take_zero, Nat.reduceAdd, Nat.zero_add, List.setIfInBounds_toArray, List.set_cons_zero, List.set_cons_succ]
              go_wp2_with (first | (go_at_call 34; (with_reducible refine (cat3I hr3.out (by omega)).mono ?_); rintro e wa ⟨v9, rfl, hm9, hea⟩))
              all_goals first
                | ((with_reducible refine phK ?_ ?_); (focus rfl); (repeat (first | (with_reducible assumption) | (with_reducible exact Ext.refl _) | (with_reducible refine Ext.drew ?_) | (with_reducible refine Ext.drewN ?_ _) | (with_reducible refine Ext.alloc ?_ _) | (with_reducible refine Ext.trans ?_ (by with_reducible assumption)))))
                | (exact phN hm9 hE hea)
                | (exact phN (segI_take hso.out rfl (by omega)) hE (Ext.refl _))
                | (exact phN (segI_drop hso.out hl1.out) hE (Ext.refl _))
                | (exact phN (segI_end (by omega) (by omega) (by unfold maxLen; omega)) hE (Ext.refl _))
                | (exact phN (segI_new _ _) hE ((Ext.refl _).alloc _))
                | (exact phN (row3I_new hr4.out.1 hr4.out.2.1 hr4.out.2.2) hE ((Ext.refl _).alloc _))
                | ((with_reducible refine phT rfl hG ?_); (repeat (first | (with_reducible assumption) | (with_reducible exact Ext.refl _) | (with_reducible refine Ext.drew ?_) | (with_reducible refine Ext.drewN ?_ _) | (with_reducible refine Ext.alloc ?_ _) | (with_reducible refine Ext.trans ?_ (by with_reducible assumption)))))
                | ((with_reducible refine phU hG ?_); (repeat (first | (with_reducible assumption) | (with_reducible exact Ext.refl _) | (with_reducible refine Ext.drew ?_) | (with_reducible refine Ext.drewN ?_ _) | (with_reducible refine Ext.alloc ?_ _) | (with_reducible refine Ext.trans ?_ (by with_reducible assumption)))))
                | (with_reducible exact phBox hE)
                | (with_reducible exact phRow hE))
          case he =>
            intro x wb Eb hd
            simp [PhEnd, at_k, at_p] at hd
            have e0 := hd.1
            have e1 := hd.2.1
            have e2 := hd.2.2.1
            have e4 := hd.2.2.2.2.1
            have e6 := hd.2.2.2.2.2.2.1
            have e7 := hd.2.2.2.2.2.2.2.1
            have e8 := hd.2.2.2.2.2.2.2.2.1
            have e9 := hd.2.2.2.2.2.2.2.2.2.1
            have e12 := segI_now hd.2.2.2.2.2.2.2.2.2.2.2.2
            clear hd
            simp only [frL, List.length_cons, List.length_nil, List.take_succ_cons, List.take_zero, Nat.reduceAdd, Nat.zero_add, List.setIfInBounds_toArray, List.set_cons_zero, List.set_cons_succ, e0, e1, e2, e4, e6, e7, e8, e9, List.length_cons, List.length_nil, List.drop_succ_cons, List.drop_zero]
            clear e0 e1 e2 e4 e6 e7 e8 e9
            rw [HSET.out] at e12
            have xa := blk2 (Eb.heap HM8.out)
            have xg := blk2 (Eb.heap HG8.out)
            have SC0 : SegS C (.slice a1 C.length k1) wb := by
              obtain ⟨_, _, hq, q1, _⟩ := IM8.out _ Eb
              injection hq with hq; injection hq with hq; injection hq with hq _; subst hq
              exact ⟨q1⟩
            have SM := sameMap_any _ (.agg #[.slice a1 C.length k1, x 12]) C C GO GO wb (IG8.out _ Eb) ⟨_, _, rfl, SC0.seg, e12.seg⟩
            rw [sameB_self'] at SM
            have SM := hid SM
            obtain ⟨p12, r12, u12, hf12⟩ := segI_form e12
            rw [hf12] at SM ⊢
            clear SC0 e12 hf12
            go_wp2_with fail
            refine (SM.out).mono ?_
            clear SM
            rintro e wa ⟨rfl, Ea⟩
            go_wp2_with fail
            go_meet
            exact Eb.trans Ea
      case rest =>
        have E9 := hcut
        clear hcut
        obtain ⟨w9, rfl⟩ : ∃ w9 : World, w9 = wc := ⟨_, rfl⟩
        have HM9 := hid (E9.heap HM8.out)
        have HB9 := hid (E9.heap HB8.out)
        have IM9 := hid (fun w' (q : Ext w9 w') => IM8.out w' (E9.trans q))
        have IC9 := hid (fun w' (q : Ext w9 w') => IC8.out w' (E9.trans q))
        have EE9 := hid (EE.out.trans E9)
        have RK := hid (rkey_any key w9 hks)
        clear HG8 IG8 HM8 HB8 IM8 IC8 E9 EE HGN HGY HGF HGE xa
        go_wp2_with fail
        refine (RK.out).mono ?_
        clear RK
        rintro e wd ⟨rfl, Ed⟩
        have xc := blk2 (Ed.heap HB9.out)
        have xm := blk2 (Ed.heap HM9.out)
        cases hkb : keyB key with
        | false =>
          obtain ⟨r1, r2⟩ := HFN1.out hkb
          have hce : ce = 3 := by rw [HCE.out, if_pos hkb]
          subst hce; subst r1; subst r2
          obtain ⟨r1, r2⟩ := HCN.out (by decide)
          subst r1; subst r2
          have SM := sameMap_any (.agg #[.slice c1 0 n1, .slice c2 0 n2]) (.agg #[.slice none 0 0, .slice none 0 0]) [] [] [] [] wd (IC9.out _ Ed) (nilMap_is _)
          rw [sameB_self'] at SM
          have SM := hid SM
          simp only [List.length_nil] at xc
          clear HCN HCY HFN1 HFY1 hkb xm HCE
          go_wp2_with fail
          refine (SM.out).mono ?_
          clear SM
          rintro e wa ⟨rfl, Ea⟩
          go_wp2
          go_ret
          exact ⟨rfl, EE9.out.trans (Ed.trans Ea)⟩
        | true =>
          obtain ⟨r1, r2⟩ := HFY1.out hkb
          subst r2
          have hce : ce = if hitS C key (cutAtI C key) = true then 5 else if C.length = 12 then 2 else 0 := by rw [HCE.out, if_neg (by simp [hkb])]
          rw [hit_iff HSR.out] at hce
          have HCE2 := hid hce
          have RW := rwhose_any _ C O key wd (IM9.out _ Ed) HSR.out (HLO.out) hl12
          rw [← r1] at RW
          have RW := hid RW
          have qf : (fv != fv) = false := by simp
          clear HFN1 HFY1 hkb HCE hce r1 xc
          go_wp2_with fail
          refine (RW.out).mono ?_
          clear RW
          rintro e wf ⟨rfl, Ef⟩
          replace Ef := Ed.trans Ef
          have xm := blk2 (Ef.heap HM9.out)
          have CN := hid (conS_any (.slice a1 C.length k1) C key wf (by
            obtain ⟨_, _, hq, q1, _⟩ := IM9.out _ Ef
            injection hq with hq; injection hq with hq; injection hq with hq _; subst hq
            exact q1))
          generalize conS C key = cn at CN HCE2
          clear qf
          go_wp2_with fail
          refine (CN.out).mono ?_
          clear CN
          rintro e wg ⟨rfl, rfl⟩
          have xc := blk2 (Ef.heap HB9.out)
          cases cn with
          | true =>
            have hce : ce = 5 := by rw [HCE2.out]; rfl
            subst hce
            obtain ⟨r1, r2⟩ := HCN.out (by decide)
            subst r1; subst r2
            have SM := sameMap_any (.agg #[.slice c1 0 n1, .slice c2 0 n2]) (.agg #[.slice none 0 0, .slice none 0 0]) [] [] [] [] wg (IC9.out _ Ef) (nilMap_is _)
            rw [sameB_self'] at SM
            have SM := hid SM
            simp only [List.length_nil] at xc
            clear HCN HCY HCE2 xm
            go_wp2_with fail
            refine (SM.out).mono ?_
            clear SM
            rintro e wa ⟨rfl, Ea⟩
            go_wp2
            go_ret
            exact ⟨rfl, EE9.out.trans (Ef.trans Ea)⟩
          | false =>
            by_cases hf : C.length = 12
            · have hce : ce = 2 := by rw [HCE2.out, if_neg (by decide), if_pos hf]
              subst hce
              obtain ⟨r1, r2⟩ := HCN.out (by decide)
              subst r1; subst r2
              have SM := sameMap_any (.agg #[.slice c1 0 n1, .slice c2 0 n2]) (.agg #[.slice none 0 0, .slice none 0 0]) [] [] [] [] wg (IC9.out _ Ef) (nilMap_is _)
              rw [sameB_self'] at SM
              have SM := hid SM
              simp only [List.length_nil] at xc
              have qf : ((C.length : Int) == 12) = true := by simp; omega
              clear HCN HCY HCE2 hf
              go_wp2_with fail
              refine (SM.out).mono ?_
              clear SM
              rintro e wa ⟨rfl, Ea⟩
              go_wp2
              go_ret
              exact ⟨rfl, EE9.out.trans (Ef.trans Ea)⟩
            · have hce : ce = 0 := by rw [HCE2.out, if_neg (by decide), if_neg hf]
              subst hce
              obtain ⟨r1, r2⟩ := HCY.out rfl
              have HR := hid (And.intro r1 r2)
              have qf : ((C.length : Int) == 12) = false := by simp; omega
              clear HCN HCY HCE2 hf r1 r2 xc
              go_wp2_with fail
              go_loopw [17] (fun kv wr => ∃ k : Nat, k ≤ C.length ∧ kv = .int .i64 k ∧ (∀ j, j < k → bltAt C key j = true) ∧ Ext wg wr) (fun kv _ => C.length - (intOf kv).toNat)
              case atStart => exact ⟨0, Nat.zero_le _, rfl, fun j h => absurd h (by omega), Ext.refl _⟩
              case round =>
                obtain ⟨wo, rfl⟩ : ∃ wo : World, wo = wr := ⟨_, rfl⟩
                obtain ⟨k, hk, rfl, hall, Eo⟩ := hrel
                have xm := blk2 (Eo.heap (Ef.heap HM9.out))
                have HALL := hid hall
                clear hall
                have HCx := hid (fun (hk : k < C.length) => (by
                  obtain ⟨_, _, hq, q1, _⟩ := IM9.out _ (Ef.trans Eo)
                  injection hq with hq; injection hq with hq; injection hq with hq _; subst hq
                  obtain ⟨b, off, e, _, g1, g2, hc⟩ := seg_cells q1 (by omega)
                  exact ⟨b, off, e, g1, g2, hc k _ (cS_at0 C k hk)⟩ : ∃ b off, a1 = some ⟨b, off, none⟩ ∧ C.length ≤ k1 ∧ k1 ≤ maxLen ∧ wo.cell? ⟨b, off + k, none⟩ = some (.string C[k])))
                go_upto_region 24 with fail
                go_cut [188] from 175 to 188 (fun c wx => Hid (c = .bool (decide (k < C.length) && bltAt C key k)) ∧ wx = wo)
                case first =>
                  by_cases hlt : k < C.length
                  · obtain ⟨b, off, rfl, g1, g2, hc⟩ := HCx.out hlt
                    unfold maxLen at g2
                    have HB1 := hid (show (decide (k < C.length) && bltAt C key k) = Op.bytesLess C[k].toList key.toList by rw [bltAt_eq hlt]; simp [hlt, blt])
                    generalize C[k] = ck at hc HB1
                    go_wp2_with fail
                    go_meet
                    exact ⟨hid (by rw [HB1.out]), rfl⟩
                  · have HB1 := hid (show (decide (k < C.length) && bltAt C key k) = false by simp [hlt])
                    have hlt2 : ¬ ((k : Int) < (C.length : Int)) := by omega
                    go_wp2_with fail
                    go_meet
                    exact ⟨hid (by rw [HB1.out]), rfl⟩
                case rest =>
                  obtain ⟨hc, hw⟩ := hcut
                  have hc := hc.out
                  subst hc
                  subst hw
                  obtain ⟨wo, rfl⟩ : ∃ wo : World, wo = wc := ⟨_, rfl⟩
                  by_cases hmore : (decide (k < C.length) && bltAt C key k) = true
                  · rw [hmore]
                    simp only [Bool.and_eq_true, decide_eq_true_eq] at hmore
                    have hall2 := hid (fun j (hj : j < k + 1) => (by
                      rcases Nat.lt_succ_iff_lt_or_eq.1 hj with q | q
                      · exact HALL.out j q
                      · subst q; exact hmore.2 : bltAt C key j = true))
                    have hk1 := hmore.1
                    clear hmore
                    go_wp2_with fail
                    go_roundw
                    case rel => exact ⟨k + 1, by omega, by go_num, hall2.out, Eo⟩
                    case measure => simp [intOf] <;> omega
                  · have hm2 : (decide (k < C.length) && bltAt C key k) = false := by simpa using hmore
                    rw [hm2]
                    have hcI : cutAtI C key = k := cutAtI_end HSR.out hk HALL.out (fun q => by simpa [q] using hm2)
                    have hkO : k < O.length := by omega
                    have HCC := hid (show CC = ct3S (tkS C k) (oneS key) (dpS C k) by rw [HR.out.1, hcI]; rfl)
                    have HCO := hid (show CO = ct2I (tkI O (k + 1)) (dpI O k) by rw [HR.out.2, hcI, cutO_two hkO]; rfl)
                    have l1 := tkI_len O (k + 1)
                    have l2 := dpI_len O k
                    have l3 := oneS_len key
                    have l4 := tkS_len C k
                    have l5 := dpS_len C k
                    have SC0 : Hid (∀ w', Ext wo w' → SegS C (.slice a1 C.length k1) w') := hid (by
                      intro w' q
                      obtain ⟨_, _, hq, q1, _⟩ := IM9.out _ (Ef.trans (Eo.trans q))
                      injection hq with hq; injection hq with hq; injection hq with hq _; subst hq
                      exact ⟨q1⟩)
                    have SO0 : Hid (∀ w', Ext wo w' → SegI O (.slice a2 O.length k2) w') := hid (by
                      intro w' q
                      obtain ⟨_, _, hq, _, q2⟩ := IM9.out _ (Ef.trans (Eo.trans q))
                      injection hq with hq; injection hq with hq; injection hq with _ hq; injection hq with hq _; subst hq
                      exact ⟨q2⟩)
                    obtain ⟨bO, oO, rfl, _, q1, q2, _⟩ := seg_cells (SO0.out _ (Ext.refl _)).seg hO0
                    have Hk2 := hid q2
                    unfold maxLen at q2
                    have xc := blk2 ((Ef.trans Eo).heap HB9.out)
                    clear hm2 hmore hcI HR HALL
                    by_cases hC0 : C.length = 0
                    · obtain rfl : k = 0 := by omega
                      have HC0 := hid hC0
                      have HCO1 : Hid (CO = ct2I (tkI O 1) (dpI O 0)) := HCO
                      have q4 : k1 ≤ maxLen := by
                        obtain ⟨_, _, _, e, _, q, _⟩ := (SC0.out _ (Ext.refl _)).seg
                        injection e with _ _ e; subst e; exact q
                      unfold maxLen at q4
                      have l1 := tkI_len O 1
                      have l2 := dpI_len O 0
                      clear hC0 HCO hk
                      go_wp2_with fail
                      refine wp_region_ph [.k (.int .i64 0), .k (.bool true), .k (.bool true), .k (.agg #[.slice c1 CC.length n1, .slice c2 CO.length n2]), .k (.pointer (some ⟨mb, 0, none⟩)), .k (.slice a1 C.length k1), .k (.int .i64 0), .p (SegS (tkS C 0)), .k (.string key), .p (SegS (oneS key)), .k (.pointer (some ⟨mb, 0, none⟩)), .k (.slice a1 C.length k1), .k (.int .i64 0), .p (SegS (dpS C 0)), .p (Row3S (tkS C 0) (oneS key) (dpS C 0)), .p (SegS (ct3S (tkS C 0) (oneS key) (dpS C 0))), .k (.pointer (some ⟨mb, 1, none⟩)), .k (.slice (some ⟨bO, oO, none⟩) O.length k2), .k (.int .i64 0), .k (.int .i64 1), .p (SegI (tkI O 1)), .k (.pointer (some ⟨mb, 1, none⟩)), .k (.slice (some ⟨bO, oO, none⟩) O.length k2), .k (.int .i64 0), .p (SegI (dpI O 0)), .p (Row2I (tkI O 1) (dpI O 0)), .p (SegI (ct2I (tkI O 1) (dpI O 0))), .p (MapVs (ct3S (tkS C 0) (oneS key) (dpS C 0)) (ct2I (tkI O 1) (dpI O 0))), .k (.bool true), .k (.bool true)] [] (by kernel_rfl) (by kernel_rfl) (by kernel_rfl) rfl rfl ?hs ?hC ?he
                      case hC =>
                        intro i hi
                        simp at hi
                      case hs =>
                        refine ⟨?_, ?_, ?_, ?_, ?_, ?_, ?_, ?_, ?_, ?_, ?_, ?_, ?_, ?_, ?_, ?_, ?_, ?_, ?_, ?_, ?_, ?_, ?_, ?_, ?_, ?_, ?_, ?_, ?_, ?_, trivial⟩
                        all_goals (
                          intro x w' hE hd
                          try simp [PhDeps, at_k, at_p, at_t, at_any, Region.binds] at hd
                          try ((with_reducible refine Exists.elim hd ?_); clear hd; intro y hd; obtain ⟨hd, hG⟩ := hd)
                          have f0 := hE.cell xm.1
                          have f1 := hE.cell xm.2.1
                          have f2 := hE.cell xc.1
                          have f3 := hE.cell xc.2.1
                          have hsc := hid (SC0.out _ hE)
                          have hso := hid (SO0.out _ hE)
                          try (have hr3 := hid (row3S_now (w0 := wo) hd.1))
                          try (have hr2 := hid (row2I_now (w0 := wo) hd.1))
                          try ((with_reducible refine segS3_elim (segS_now (w0 := wo) hd.1) (segS_now (w0 := wo) hd.2.1) (segS_now (w0 := wo) hd.2.2.1) ?_); intro p7 r7 u7 p9 r9 u9 p13 r13 u13 e7 e9 e13 hs3)
                          try ((with_reducible refine segI2_elim (segI_now (w0 := wo) hd.1) (segI_now (w0 := wo) hd.2.1) ?_); intro p20 r20 u20 p24 r24 u24 e20 e24 hs2)
                          try ((with_reducible refine segSI_elim (segS_now (w0 := wo) hd.1) (segI_now (w0 := wo) hd.2.1) ?_); intro p15 r15 u15 p26 r26 u26 e15 e26 hsm)
                          try (have QS := hid (same_of (IC9.out _ (Ef.trans (Eo.trans hE))) (mapVs_now (w0 := wo) hd.2.1) HCC.out HCO1.out))
                          first | simp only [frL, List.length_cons, List.length_nil, List.take_succ_cons, List.take_zero, Nat.reduceAdd, Nat.zero_add, List.setIfInBounds_toArray, List.set_cons_zero, List.set_cons_succ, hd] | simp only [frL, List.length_cons, List.length_nil, List.take_succ_cons, List.take_zero, Nat.reduceAdd, Nat.zero_add, List.setIfInBounds_toArray, List.set_cons_zero, List.set_cons_succ]
                          go_wp2_with (first | (go_at_call 38; (with_reducible refine (cat3S hr3.out (by omega)).mono ?_); rintro e wa ⟨v9, rfl, hm9, hea⟩) | (go_at_call 34; (with_reducible refine (cat2I hr2.out (by omega)).mono ?_); rintro e wa ⟨v9, rfl, hm9, hea⟩) | (go_at_call 33; (with_reducible refine (QS.out).mono ?_); rintro e wa ⟨rfl, hea⟩))
                          all_goals first
                            | ((with_reducible refine phK ?_ ?_); (focus rfl); (repeat (first | (with_reducible assumption) | (with_reducible exact Ext.refl _) | (with_reducible refine Ext.drew ?_) | (with_reducible refine Ext.drewN ?_ _) | (with_reducible refine Ext.alloc ?_ _) | (with_reducible refine Ext.trans ?_ (by with_reducible assumption)))))
                            | (exact phN hm9 hE hea)
                            | (exact phN (segS_tk0 (by omega) (by unfold maxLen; omega)) hE (Ext.refl _))
                            | (exact phN (segS_end HC0.out (by have := HC0.out; omega) (by unfold maxLen; omega)) hE (Ext.refl _))
                            | (exact phN (segI_dp0 hso.out) hE (Ext.refl _))
                            | (exact phN (segS_take hsc.out rfl (by omega)) hE (Ext.refl _))
                            | (exact phN (segI_take hso.out rfl (by omega)) hE (Ext.refl _))
                            | (exact phN (segS_drop hsc.out (by omega)) hE (Ext.refl _))
                            | (exact phN (segI_drop hso.out (by omega)) hE (Ext.refl _))
                            | (exact phN (segS_new _ _) hE ((Ext.refl _).alloc _))
                            | (exact phN (row3S_new hs3.out.1 hs3.out.2.1 hs3.out.2.2) hE ((Ext.refl _).alloc _))
                            | (exact phN (row2I_new hs2.out.1 hs2.out.2) hE ((Ext.refl _).alloc _))
                            | (exact phN (show MapVs _ _ _ w' from ⟨_, _, rfl, hsm.out.1.seg, hsm.out.2.seg⟩) hE (Ext.refl _))
                            | (exact phN (segS_end (by omega) (by omega) (by unfold maxLen; omega)) hE (Ext.refl _))
                            | (exact phN (segI_end (by omega) (by omega) (by unfold maxLen; omega)) hE (Ext.refl _))
                            | ((with_reducible refine phT rfl hG ?_); (repeat (first | (with_reducible assumption) | (with_reducible exact Ext.refl _) | (with_reducible refine Ext.drew ?_) | (with_reducible refine Ext.drewN ?_ _) | (with_reducible refine Ext.alloc ?_ _) | (with_reducible refine Ext.trans ?_ (by with_reducible assumption)))))
                            | ((with_reducible refine phU hG ?_); (repeat (first | (with_reducible assumption) | (with_reducible exact Ext.refl _) | (with_reducible refine Ext.drew ?_) | (with_reducible refine Ext.drewN ?_ _) | (with_reducible refine Ext.alloc ?_ _) | (with_reducible refine Ext.trans ?_ (by with_reducible assumption)))))
                            | (with_reducible exact phBox hE)
                            | (with_reducible exact phRow hE))
                      case he =>
                        intro x wb Eb hd
                        simp [PhEnd, at_k, at_p] at hd
                        have e29 := hd.2.2.2.2.2.2.2.2.2.2.2.2.2.2.2.2.2.2.2.2.2.2.2.2.2.2.2.2.2
                        clear hd
                        simp only [frL, List.length_cons, List.length_nil, List.take_succ_cons, List.take_zero, Nat.reduceAdd, Nat.zero_add, List.setIfInBounds_toArray, List.set_cons_zero, List.set_cons_succ, e29, List.length_cons, List.length_nil, List.drop_succ_cons, List.drop_zero]
                        clear e29
                        go_wp2
                        go_ret
                        exact ⟨rfl, EE9.out.trans (Ef.trans (Eo.trans Eb))⟩
                    · obtain ⟨b1, o1, rfl, _, q3, q4, _⟩ := seg_cells (SC0.out _ (Ext.refl _)).seg (by omega)
                      have Hk1 := hid q4
                      unfold maxLen at q4
                      go_wp2_with fail
                      refine wp_region_ph [.k (.int .i64 0), .k (.bool true), .k (.bool true), .k (.agg #[.slice c1 CC.length n1, .slice c2 CO.length n2]), .k (.pointer (some ⟨mb, 0, none⟩)), .k (.slice (some ⟨b1, o1, none⟩) C.length k1), .k (.int .i64 k), .p (SegS (tkS C k)), .k (.string key), .p (SegS (oneS key)), .k (.pointer (some ⟨mb, 0, none⟩)), .k (.slice (some ⟨b1, o1, none⟩) C.length k1), .k (.int .i64 k), .p (SegS (dpS C k)), .p (Row3S (tkS C k) (oneS key) (dpS C k)), .p (SegS (ct3S (tkS C k) (oneS key) (dpS C k))), .k (.pointer (some ⟨mb, 1, none⟩)), .k (.slice (some ⟨bO, oO, none⟩) O.length k2), .k (.int .i64 k), .k (.int .i64 ((k : Int) + 1)), .p (SegI (tkI O (k + 1))), .k (.pointer (some ⟨mb, 1, none⟩)), .k (.slice (some ⟨bO, oO, none⟩) O.length k2), .k (.int .i64 k), .p (SegI (dpI O k)), .p (Row2I (tkI O (k + 1)) (dpI O k)), .p (SegI (ct2I (tkI O (k + 1)) (dpI O k))), .p (MapVs (ct3S (tkS C k) (oneS key) (dpS C k)) (ct2I (tkI O (k + 1)) (dpI O k))), .k (.bool true), .k (.bool true)] [] (by kernel_rfl) (by kernel_rfl) (by kernel_rfl) rfl rfl ?hs ?hC ?he
                      case hC =>
                        intro i hi
                        simp at hi
                      case hs =>
                        refine ⟨?_, ?_, ?_, ?_, ?_, ?_, ?_, ?_, ?_, ?_, ?_, ?_, ?_, ?_, ?_, ?_, ?_, ?_, ?_, ?_, ?_, ?_, ?_, ?_, ?_, ?_, ?_, ?_, ?_, ?_, trivial⟩
                        all_goals (
                          intro x w' hE hd
                          try simp [PhDeps, at_k, at_p, at_t, at_any, Region.binds] at hd
                          try ((with_reducible refine Exists.elim hd ?_); clear hd; intro y hd; obtain ⟨hd, hG⟩ := hd)
                          have f0 := hE.cell xm.1
                          have f1 := hE.cell xm.2.1
                          have f2 := hE.cell xc.1
                          have f3 := hE.cell xc.2.1
                          have hsc := hid (SC0.out _ hE)
                          have hso := hid (SO0.out _ hE)
                          try (have hr3 := hid (row3S_now (w0 := wo) hd.1))
                          try (have hr2 := hid (row2I_now (w0 := wo) hd.1))
                          try ((with_reducible refine segS3_elim (segS_now (w0 := wo) hd.1) (segS_now (w0 := wo) hd.2.1) (segS_now (w0 := wo) hd.2.2.1) ?_); intro p7 r7 u7 p9 r9 u9 p13 r13 u13 e7 e9 e13 hs3)
                          try ((with_reducible refine segI2_elim (segI_now (w0 := wo) hd.1) (segI_now (w0 := wo) hd.2.1) ?_); intro p20 r20 u20 p24 r24 u24 e20 e24 hs2)
                          try ((with_reducible refine segSI_elim (segS_now (w0 := wo) hd.1) (segI_now (w0 := wo) hd.2.1) ?_); intro p15 r15 u15 p26 r26 u26 e15 e26 hsm)
                          try (have QS := hid (same_of (IC9.out _ (Ef.trans (Eo.trans hE))) (mapVs_now (w0 := wo) hd.2.1) HCC.out HCO.out))
                          first | simp only [frL, List.length_cons, List.length_nil, List.take_succ_cons, List.take_zero, Nat.reduceAdd, Nat.zero_add, List.setIfInBounds_toArray, List.set_cons_zero, List.set_cons_succ, hd] | simp only [frL, List.length_cons, List.length_nil, List.take_succ_cons, List.take_zero, Nat.reduceAdd, Nat.zero_add, List.setIfInBounds_toArray, List.set_cons_zero, List.set_cons_succ]
                          go_wp2_with (first | (go_at_call 38; (with_reducible refine (cat3S hr3.out (by omega)).mono ?_); rintro e wa ⟨v9, rfl, hm9, hea⟩) | (go_at_call 34; (with_reducible refine (cat2I hr2.out (by omega)).mono ?_); rintro e wa ⟨v9, rfl, hm9, hea⟩) | (go_at_call 33; (with_reducible refine (QS.out).mono ?_); rintro e wa ⟨rfl, hea⟩))
                          all_goals first
                            | ((with_reducible refine phK ?_ ?_); (focus rfl); (repeat (first | (with_reducible assumption) | (with_reducible exact Ext.refl _) | (with_reducible refine Ext.drew ?_) | (with_reducible refine Ext.drewN ?_ _) | (with_reducible refine Ext.alloc ?_ _) | (with_reducible refine Ext.trans ?_ (by with_reducible assumption)))))
                            | (exact phN hm9 hE hea)
                            | (exact phN (segS_take hsc.out rfl (by omega)) hE (Ext.refl _))
                            | (exact phN (segI_take hso.out rfl (by omega)) hE (Ext.refl _))
                            | (exact phN (segS_drop hsc.out (by omega)) hE (Ext.refl _))
                            | (exact phN (segI_drop hso.out (by omega)) hE (Ext.refl _))
                            | (exact phN (segS_new _ _) hE ((Ext.refl _).alloc _))
                            | (exact phN (row3S_new hs3.out.1 hs3.out.2.1 hs3.out.2.2) hE ((Ext.refl _).alloc _))
                            | (exact phN (row2I_new hs2.out.1 hs2.out.2) hE ((Ext.refl _).alloc _))
                            | (exact phN (show MapVs _ _ _ w' from ⟨_, _, rfl, hsm.out.1.seg, hsm.out.2.seg⟩) hE (Ext.refl _))
                            | (exact phN (segS_end (by omega) (by omega) (by unfold maxLen; omega)) hE (Ext.refl _))
                            | (exact phN (segI_end (by omega) (by omega) (by unfold maxLen; omega)) hE (Ext.refl _))
                            | ((with_reducible refine phT rfl hG ?_); (repeat (first | (with_reducible assumption) | (with_reducible exact Ext.refl _) | (with_reducible refine Ext.drew ?_) | (with_reducible refine Ext.drewN ?_ _) | (with_reducible refine Ext.alloc ?_ _) | (with_reducible refine Ext.trans ?_ (by with_reducible assumption)))))
                            | ((with_reducible refine phU hG ?_); (repeat (first | (with_reducible assumption) | (with_reducible exact Ext.refl _) | (with_reducible refine Ext.drew ?_) | (with_reducible refine Ext.drewN ?_ _) | (with_reducible refine Ext.alloc ?_ _) | (with_reducible refine Ext.trans ?_ (by with_reducible assumption)))))
                            | (with_reducible exact phBox hE)
                            | (with_reducible exact phRow hE))
                      case he =>
                        intro x wb Eb hd
                        simp [PhEnd, at_k, at_p] at hd
                        have e29 := hd.2.2.2.2.2.2.2.2.2.2.2.2.2.2.2.2.2.2.2.2.2.2.2.2.2.2.2.2.2
                        clear hd
                        simp only [frL, List.length_cons, List.length_nil, List.take_succ_cons, List.take_zero, Nat.reduceAdd, Nat.zero_add, List.setIfInBounds_toArray, List.set_cons_zero, List.set_cons_succ, e29, List.length_cons, List.length_nil, List.drop_succ_cons, List.drop_zero]
                        clear e29
                        go_wp2
                        go_ret
                        exact ⟨rfl, EE9.out.trans (Ef.trans (Eo.trans Eb))⟩
  · obtain ⟨r1, r2⟩ := HFV.out hE
    have hce := HCB.out hE
    have hge := HGB.out hE
    subst r1; subst r2; subst hce; subst hge
    obtain ⟨r1, r2⟩ := HCN.out hE
    subst r1; subst r2
    obtain ⟨r1, r2⟩ := HGN.out hE
    subst r1; subst r2
    have q : (mapErr C O != 0) = true := by simp [hE]
    have xc := blk2 HB8.out
    have SM := sameMap_any (.agg #[.slice c1 0 n1, .slice c2 0 n2]) (.agg #[.slice none 0 0, .slice none 0 0]) [] [] [] [] w8 (IC8.out _ (Ext.refl _)) (nilMap_is _)
    rw [sameB_self'] at SM
    have SM := hid SM
    simp only [List.length_nil] at xc
    have HGx := hid (blk2 HG8.out)
    have EE := hid (E0.trans E1)
    clear HCN HCY HGN HGY HCG HGG HFN HFY HFV HCB HGB hE HB8 HA IM IC8
    generalize mapErr C O = er at q ⊢
    go_wp2_with fail
    refine (SM.out).mono ?_
    clear SM
    rintro e wa ⟨rfl, Ea⟩
    have xg := HGx.out
    simp only [List.length_nil] at xg
    have f0 := Ea.cell xg.1
    have f1 := Ea.cell xg.2.1
    have SM := sameMap_any (.agg #[.slice g1 0 m1, .slice g2 0 m2]) (.agg #[.slice none 0 0, .slice none 0 0]) [] [] [] [] wa (IG8.out _ Ea) (nilMap_is _)
    rw [sameB_self'] at SM
    have SM := hid SM
    clear xg xc
    go_wp2_with fail
    refine (SM.out).mono ?_
    clear SM
    rintro e wd ⟨rfl, Ed⟩
    go_wp2
    go_ret
    exact ⟨rfl, EE.out.trans (Ea.trans Ed)⟩
end Go.Proofs.YtghemmmkbpfdhaaDoor
