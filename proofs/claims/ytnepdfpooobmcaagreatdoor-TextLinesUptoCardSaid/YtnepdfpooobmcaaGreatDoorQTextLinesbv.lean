/- Contracts and lemmas for the proof of TextLines; each theorem states its own conditions. -/
import Derived.Test.YtnepdfpooobmcaaGreatDoorQTextLinesbu
set_option linter.unusedVariables false
set_option linter.unusedSimpArgs false
/- Contracts and lemmas for the proofs of this seat; each theorem states its own conditions. -/
namespace Go.Proofs.YtnepdfpooobmcaaGreatDoor
open Go.RowKit
/-! roref.ReadLine -/
theorem lastIx (s : ByteArray) (w : World) (hs : s.size ≤ 4000000000) : Calls Tryz.prog 114 #[.string s, .string ⟨#[32]⟩] w fun e w' => e = .returned (.int .i64 (Lib.lastIndexByte s 32)) ∧ w' = w := by
  have := Any.strings_LastIndex_one lays148 s ⟨#[32]⟩ rfl (by omega) w
  exact this
theorem hasPre (s : ByteArray) (w : World) : Calls Tryz.prog 115 #[.string s, .string ⟨#[109, 97, 112, 32]⟩] w fun e w' => e = .returned (.bool (mapW.isPrefixOf s.data.toList)) ∧ w' = w := Any.strings_HasPrefix lays99 s ⟨#[109, 97, 112, 32]⟩ w
/-- what ReadLine answers -/
def RdR (l : List UInt8) (w : World) (e : Ending) (w' : World) : Prop := ∃ e4 : EV, e = .returned (.tuple #[evV e4, .int .i64 (lnRd l).2.2, .int .i64 (lnRd l).1]) ∧ EntSt w.heap.size w' e4 (lnRd l).2.1 ∧ Ext w w'
set_option maxRecDepth 100000 in
set_option maxHeartbeats 8000000 in
theorem rreadline_any (s : ByteArray) (w : World) (L : LaidT w) (hs : s.size ≤ 4000000000) :
    Calls Tryz.prog 26 #[.string s] w fun e w' => RdR s.data.toList w e w' := by
  have HBX := hid (heap_alloc_new w (.cells #[.slice none 0 0, .bool false, .slice none 0 0, .slice none 0 0] 45))
  have HE := hid ((Ext.refl w).alloc (.cells #[.slice none 0 0, .bool false, .slice none 0 0, .slice none 0 0] 45))
  have CT := hid (cut_any2 s 10 _ (L.ext HE.out) (by omega))
  rw [cut_F] at CT
  have HL := hid L
  cases hF : cutF 10 s.data.toList with
  | none =>
    have hR : lnRd s.data.toList = (7, entN, 0) := by rw [lnRd, hF]
    rw [hF] at CT
    clear hF L
    go_enter Tryz.func26, Tryz.ntmps26
    go_wp2_with fail
    refine (CT.out).mono ?_
    clear CT
    rintro e w1 ⟨rfl, E1⟩
    have HB1 := hid (E1.heap HBX.out)
    have b1' := blk4 HB1.out
    obtain ⟨f1, f2, f3, f4⟩ := frz4 HB1.out
    have r4 := blk4 (blk4_sA HB1.out (.slice none 0 0) (.bool false) (.slice none 0 0) (.slice none 0 0))
    have HE1 := hid (HE.out.trans E1)
    clear E1
    go_wp2
    exact bodyPost_ret (v := .tuple #[evV eZ, .int .i64 0, .int .i64 7]) (by simp [results, Tryz.results26, go_sem, r4.1, r4.2.1, r4.2.2.1, r4.2.2.2, evV, eZ]) rfl ⟨eZ, by rw [hR]; rfl, by rw [hR]; exact eZ_st _ _, ext_s4 HE1.out (Nat.le_refl _) _ _ _ _⟩
  | some p =>
    obtain ⟨line, more⟩ := p
    have hR : lnRd s.data.toList = lnRd1 line := by rw [lnRd, hF]
    rw [hF] at CT
    obtain ⟨e1, h1⟩ := cutF_some hF
    have hsz : line.length ≤ s.size := by rw [← toL_len, e1]; simp
    obtain ⟨B, hB⟩ : ∃ B, bA line = B := ⟨_, rfl⟩
    have hBl : B.data.toList = line := by rw [← hB, bA_toL]
    have hBs : B.size = line.length := by rw [← hB, bA_size]
    have CT : Hid (Calls _ _ _ _ fun e w2 => e = .returned (.tuple #[.string B, .string (bA more), .bool true]) ∧ Ext _ w2) := hid (hB ▸ CT.out)
    generalize bA more = mr at CT
    have LX := hid (fun w' => lastIx B w' (by omega))
    have hBs2 : B.size ≤ 4000000000 := by omega
    cases hZ : cutZ 32 line with
    | none =>
      have hR2 : lnRd s.data.toList = (9, entN, 0) := by rw [hR, lnRd1, hZ]
      rw [lxb_no (by rw [hBl]; exact cutZ_none hZ)] at LX
      clear hF L hZ hR e1 h1 hBl hB
      go_enter Tryz.func26, Tryz.ntmps26
      go_wp2_with fail
      refine (CT.out).mono ?_
      clear CT
      rintro e w1 ⟨rfl, E1⟩
      have HB1 := hid (E1.heap HBX.out)
      have HE1 := hid (HE.out.trans E1)
      clear E1
      go_wp2_with fail
      refine (LX.out _).mono ?_
      clear LX
      rintro e w2 ⟨rfl, rfl⟩
      have b1' := blk4 HB1.out
      obtain ⟨f1, f2, f3, f4⟩ := frz4 HB1.out
      have r4 := blk4 (blk4_sA HB1.out (.slice none 0 0) (.bool false) (.slice none 0 0) (.slice none 0 0))
      go_wp2
      exact bodyPost_ret (v := .tuple #[evV eZ, .int .i64 0, .int .i64 9]) (by simp [results, Tryz.results26, go_sem, r4.1, r4.2.1, r4.2.2.1, r4.2.2.2, evV, eZ]) rfl ⟨eZ, by rw [hR2]; rfl, by rw [hR2]; exact eZ_st _ _, ext_s4 HE1.out (Nat.le_refl _) _ _ _ _⟩
    | some q =>
      obtain ⟨b, n⟩ := q
      obtain ⟨e2, h2⟩ := cutZ_some hZ
      have hBe : B.data.toList = b ++ 32 :: n := by rw [hBl]; exact e2
      rw [lxb_at hBe h2] at LX
      have hll : line.length = b.length + (n.length + 1) := by rw [e2]; simp
      have hX1 : (B.extract (b.length + 1) B.size).data.toList = n := ext_mid (x := b ++ [32]) (m := n) (y := []) (by rw [hBe]; simp) (by simp) (by rw [hBs, hll]; simp; omega)
      have hX2 : (B.extract 0 b.length).data.toList = b := ext_mid (x := []) (m := b) (y := 32 :: n) (by simpa using hBe) rfl (by simp)
      have NN := fun w' => rnum_any (B.extract (b.length + 1) B.size) w' (by simp; omega)
      rw [hX1] at NN
      have NN := hid NN
      have SU := fun w' => rsum_any (B.extract 0 b.length) w' (by simp; omega)
      rw [hX2] at SU
      have SU := hid SU
      have HP := fun w' => hasPre (B.extract 0 b.length) w'
      rw [hX2] at HP
      have HP := hid HP
      have hXb : B.extract 0 b.length = bA b := bA_eq (by rw [hX2, bA_toL])
      have QD := hid (fun w' (q : Ext w w') => rreaddeed_any (B.extract 0 b.length) w' (HL.out.ext q) (by simp; omega))
      have QM := hid (fun w' (q : Ext w w') => rreadmap_any ((B.extract 0 b.length).extract 4 (B.extract 0 b.length).size) w' (HL.out.ext q) (by simp; omega))
      have hX4 : (B.extract 0 b.length).extract 4 (B.extract 0 b.length).size = bA (b.drop 4) := bA_eq (by rw [ext_from, hX2, bA_toL])
      have hbs : (B.extract 0 b.length).size = b.length := by rw [hXb, bA_size]
      obtain ⟨k, hk⟩ : ∃ k, b.length = k := ⟨_, rfl⟩
      rw [hk] at LX NN SU HP QD QM hll hX4 hXb hbs
      have hkB : k + 1 ≤ B.size := by omega
      have hkB2 : k ≤ B.size := by omega
      have iN : IntKind.i64.wrap ((k : Int) + 1) = (k : Int) + 1 := by rw [IntKind.wrap_i64]; omega
      have iN2 : ((k : Int) + 1).toNat = k + 1 := by omega
      have hk0 : ¬ ((k : Int) < 0) := by omega
      have HLL := hid hll
      have hR2 : lnRd s.data.toList = (match numL n with | none => (9, entN, 0) | some v => if v ≠ sbL b then (8, entN, 0) else if (bodyRd b).1 = 0 then (0, (bodyRd b).2, line.length + 1) else ((bodyRd b).1, entN, 0)) := by rw [hR]; simp only [lnRd1, hZ]; cases numL n <;> rfl
      have HR2 := hid hR2
      have HX4 := hid hX4
      have HXb := hid hXb
      have HBD := hid (fun (v : Int) (h : numL n = some v) => numL_bound h)
      have HBS := hid hbs
      have HBSS := hid hBs
      have hln : line.length ≤ 4000000000 := by omega
      have HPF := hid (show mapW.isPrefixOf b = true → 4 ≤ (B.extract 0 k).size from fun hp => by
        obtain ⟨t, ht⟩ := List.isPrefixOf_iff_prefix.1 hp
        rw [hbs, ← hk, ← ht]; simp [mapW])
      clear hF L hZ hR e1 h1 hBl hB e2 h2 hBe hX1 hX2 hX4 hXb hR2 hk hll hbs hBs
      go_enter Tryz.func26, Tryz.ntmps26
      go_wp2_with fail
      refine (CT.out).mono ?_
      clear CT
      rintro e w1 ⟨rfl, E1⟩
      have HB1 := hid (E1.heap HBX.out)
      have HE1 := hid (HE.out.trans E1)
      clear E1
      go_wp2_with fail
      refine (LX.out _).mono ?_
      clear LX
      rintro e w2 ⟨rfl, rfl⟩
      go_wp2_with fail
      refine (NN.out _).mono ?_
      clear NN
      rintro e w3 ⟨vn, okn, rfl, E3, hy, hno⟩
      have HB3 := hid (E3.heap HB1.out)
      have HE3 := hid (HE1.out.trans E3)
      clear E3 HB1 HE1
      cases hnum : numL n with
      | none =>
        obtain rfl := hno hnum
        have HR3 := hid (show lnRd s.data.toList = (9, entN, 0) by rw [HR2.out, hnum])
        clear hnum hy hno
        have b1' := blk4 HB3.out
        obtain ⟨f1, f2, f3, f4⟩ := frz4 HB3.out
        have r4 := blk4 (blk4_sA HB3.out (.slice none 0 0) (.bool false) (.slice none 0 0) (.slice none 0 0))
        go_wp2
        exact bodyPost_ret (v := .tuple #[evV eZ, .int .i64 0, .int .i64 9]) (by simp [results, Tryz.results26, go_sem, r4.1, r4.2.1, r4.2.2.1, r4.2.2.2, evV, eZ]) rfl ⟨eZ, by rw [HR3.out]; rfl, by rw [HR3.out]; exact eZ_st _ _, ext_s4 HE3.out (Nat.le_refl _) _ _ _ _⟩
      | some v =>
        obtain ⟨rfl, rfl⟩ := hy v hnum
        have hvb := HBD.out vn hnum
        have DC0 := fun w' => dec_any vn w' hvb.1 hvb.2
        have hit := (numL_some hnum).1
        rw [hit] at DC0
        have hds : (bA n).size = n.length := bA_size n
        have HDS := hid (show ((k : Int) + 2) + ((bA n).size : Int) = ((line.length + 1 : Nat) : Int) by rw [hds]; have := HLL.out; omega)
        generalize bA n = ds at *
        have DC := hid DC0
        have HRV := hid (show lnRd s.data.toList = if vn ≠ sbL b then (8, entN, 0) else if (bodyRd b).1 = 0 then (0, (bodyRd b).2, line.length + 1) else ((bodyRd b).1, entN, 0) by rw [HR2.out, hnum])
        clear hnum hy hno hit hds DC0
        go_wp2_with fail
        refine (SU.out _).mono ?_
        clear SU
        rintro e w4 ⟨rfl, rfl⟩
        by_cases hv : vn = (sbL b : Int)
        · have hvv : ¬ vn ≠ (sbL b : Int) := fun h => h hv
          have q4 : (vn != (sbL b : Int)) = false := by simp [hv]
          have HRW := hid (show lnRd s.data.toList = if (bodyRd b).1 = 0 then (0, (bodyRd b).2, line.length + 1) else ((bodyRd b).1, entN, 0) by rw [HRV.out, if_neg hvv])
          generalize (sbL b : Nat) = sv at *
          have HLT := hid (show w.heap.size < w4.heap.size from (Array.getElem?_eq_some_iff.1 HB3.out).1)
          clear hv hvv
          rcases hasP b with hp | hp
          · rw [hp] at HP
            have h4 := HPF.out hp
            have hBY : bodyRd b = ((mapRd (bA (b.drop 4))).1, ⟨[], true, (mapRd (bA (b.drop 4))).2.1, (mapRd (bA (b.drop 4))).2.2⟩) := if_pos hp
            have hrw := HRW.out
            rw [hBY] at hrw
            rw [HX4.out] at QM
            obtain ⟨MM, hMM⟩ : ∃ MM, mapRd (bA (b.drop 4)) = MM := ⟨_, rfl⟩
            rw [hMM] at hrw QM
            rw [← HX4.out] at QM
            obtain ⟨em, C, O⟩ := MM
            simp only at hrw
            have HRX := hid hrw
            clear hp hBY hrw hMM
            go_wp2_with fail
            refine (HP.out _).mono ?_
            clear HP
            rintro e w5 ⟨rfl, rfl⟩
            obtain ⟨w5, rfl⟩ : ∃ w5 : World, w5 = w4 := ⟨_, rfl⟩
            clear HX4 HXb HBS HPF
            generalize B.extract 0 k = bk at *
            have HBD9 := hid h4
            have h40 : ¬ ((bk.size : Int) < 4) := by omega
            have HB9 := hid (heap_alloc_new w5 (.cells #[.slice none 0 0, .bool true, .slice none 0 0, .slice none 0 0] 45))
            have HBX := hid (((Ext.refl w5).alloc (.cells #[.slice none 0 0, .bool true, .slice none 0 0, .slice none 0 0] 45)).heap HB3.out)
            have HE := hid (HE3.out.trans ((Ext.refl w5).alloc (.cells #[.slice none 0 0, .bool true, .slice none 0 0, .slice none 0 0] 45)))
            clear HB3 HE3
            go_wp2_with fail
            refine (QM.out _ HE.out).mono ?_
            clear QM
            rintro e w6 ⟨v', rfl, ⟨cv, ov, rfl, h1, h2⟩, E4⟩
            obtain ⟨ac, kc, rfl⟩ := own_form h1
            obtain ⟨ao, ko, rfl⟩ := own_form h2
            have HB9 := hid (E4.heap HB9.out)
            have HBX := hid (E4.heap HBX.out)
            have HE := hid (HE.out.trans E4)
            have c9 := blk4 HB9.out
            obtain ⟨g1, g2, g3, g4⟩ := frz4 HB9.out
            have hne : w.heap.size ≠ w5.heap.size := by have := HLT.out; omega
            have HOC := hid h1
            have HOO := hid h2
            clear h1 h2 E4
            have HB9 := hid (set4_3 (set4_2 HB9.out (.slice ac C.length kc)) (.slice ao O.length ko))
            have HBX : Hid ((((w6.setCell ⟨w5.heap.size, 2, none⟩ (.slice ac C.length kc)).setCell ⟨w5.heap.size, 3, none⟩ (.slice ao O.length ko))).heap[w.heap.size]? = _) := hid (heap_set_far (heap_set_far HBX.out hne) hne)
            have HE := hid ((HE.out.setCell (p := ⟨w5.heap.size, 2, none⟩) (by show w.heap.size ≤ w5.heap.size; have := HLT.out; omega) (.slice ac C.length kc)).setCell (p := ⟨w5.heap.size, 3, none⟩) (by show w.heap.size ≤ w5.heap.size; have := HLT.out; omega) (.slice ao O.length ko))
            have d9 := blk4 HB9.out
            have b1' := blk4 HBX.out
            obtain ⟨f1, f2, f3, f4⟩ := frz4 HBX.out
            have hB : w.heap.size ≤ (w5.alloc (.cells #[.slice none 0 0, .bool true, .slice none 0 0, .slice none 0 0] 45)).heap.size := by simp; have := HLT.out; omega
            have h9 : w5.heap.size < (w5.alloc (.cells #[.slice none 0 0, .bool true, .slice none 0 0, .slice none 0 0] 45)).heap.size := by simp
            have h0 : w.heap.size < (w5.alloc (.cells #[.slice none 0 0, .bool true, .slice none 0 0, .slice none 0 0] 45)).heap.size := by simp; have := HLT.out; omega
            have HH := hid (And.intro hB (And.intro h9 h0))
            clear hB h9 h0
            by_cases he : em = 0
            · subst he
              have HR3 := hid (show lnRd s.data.toList = (0, ⟨[], true, C, O⟩, line.length + 1) by rw [HRX.out, if_pos rfl])
              have iW1 : IntKind.i64.wrap ((k : Int) + 2) = (k : Int) + 2 := by rw [IntKind.wrap_i64]; have := HLL.out; omega
              have iW2 : IntKind.i64.wrap (((k : Int) + 2) + (ds.size : Int)) = ((k : Int) + 2) + (ds.size : Int) := by rw [IntKind.wrap_i64]; have := HDS.out; omega
              have hRows := And.intro (own_set_far (own_set_far HOC.out (p := ⟨w5.heap.size, 2, none⟩) (u := .slice ac C.length kc) HH.out.2.1) (p := ⟨w5.heap.size, 3, none⟩) (u := .slice ao O.length ko) HH.out.2.1) (own_set_far (own_set_far HOO.out (p := ⟨w5.heap.size, 2, none⟩) (u := .slice ac C.length kc) HH.out.2.1) (p := ⟨w5.heap.size, 3, none⟩) (u := .slice ao O.length ko) HH.out.2.1)
              have HRS := hid hRows
              go_wp2_with fail
              clear hRows
              generalize (w6.setCell ⟨w5.heap.size, 2, none⟩ (.slice ac C.length kc)).setCell ⟨w5.heap.size, 3, none⟩ (.slice ao O.length ko) = wz at *
              refine wp_region_mid (by kernel_rfl) (by kernel_rfl) (fun ii => match ii with | 0 => some (.agg #[.slice none 0 0, .bool true, .slice ac C.length kc, .slice ao O.length ko]) | 1 => some (.int .i64 k) | 2 => some (.int .i64 ((k : Int) + 2)) | 3 => some (.int .i64 vn) | 4 => some (.string ds) | 5 => some (.int .i64 ds.size) | 6 => some (.int .i64 (((k : Int) + 2) + (ds.size : Int))) | 8 => some (.int .i64 (((k : Int) + 2) + (ds.size : Int))) | 9 => some (.int .i64 0) | _ => none) 7 (by kernel_rfl) (fun w' => w'.heap[w5.heap.size]? = some (.cells #[.slice none 0 0, .bool true, .slice ac C.length kc, .slice ao O.length ko] 45 (0, 0))) (fun w' => Ext wz w') (fun w' => w'.heap[w.heap.size]? = some (.cells #[.slice none 0 0, .bool true, .slice ac C.length kc, .slice ao O.length ko] 45 (0, 0)) ∧ w'.heap[w5.heap.size]? = some (.cells #[.slice none 0 0, .bool true, .slice ac C.length kc, .slice ao O.length ko] 45 (0, 0)) ∧ Ext w w' ∧ EntSt w.heap.size w' (.slice none 0 0, true, .slice ac C.length kc, .slice ao O.length ko) ⟨[], true, C, O⟩) ?st0 ?st1 ?k0 ?k1 ?h0 ?hs ?he
              case hs =>
                refine ⟨?s0, ?s1, ?s2, ?s3, ?s4, ?s5, ?s6, ?sm, ?s8, ?s9, trivial⟩
                case s0 =>
                  intro x w' hd
                  try simp [Region.binds] at hd
                  refine ⟨fun _ hK => ?_, fun h => absurd h (by decide)⟩
                  have c9 := blk4 hK
                  unfold TPost
                  first | simp only [frL, List.length_cons, List.length_nil, List.take_succ_cons, List.take_zero, Nat.reduceAdd, Nat.zero_add, List.setIfInBounds_toArray, List.set_cons_zero, List.set_cons_succ, hd] | simp only [frL, List.length_cons, List.length_nil, List.take_succ_cons, List.take_zero, Nat.reduceAdd, Nat.zero_add, List.setIfInBounds_toArray, List.set_cons_zero, List.set_cons_succ]
                  go_wp2_with (first | (go_at_call 105; refine (DC.out _).mono ?_; rintro e wa ⟨rfl, rfl⟩))
                  first | (with_reducible exact Ext.refl _) | exact ⟨rfl, _, rfl, (fun u hu => by simpa using hu), (by (repeat (first | (with_reducible assumption) | (with_reducible exact Ext.refl _) | (with_reducible refine Ext.drew ?_) | (with_reducible refine Ext.drewN ?_ _) | (with_reducible refine Ext.alloc ?_ _) | (with_reducible refine Ext.trans ?_ (by with_reducible assumption)))))⟩ | (with_reducible exact (by (repeat (first | (with_reducible assumption) | (with_reducible exact Ext.refl _) | (with_reducible refine Ext.drew ?_) | (with_reducible refine Ext.drewN ?_ _) | (with_reducible refine Ext.alloc ?_ _) | (with_reducible refine Ext.trans ?_ (by with_reducible assumption))))))
                case s1 =>
                  intro x w' hd
                  try simp [Region.binds] at hd
                  refine ⟨fun _ hK => ?_, fun h => absurd h (by decide)⟩
                  have c9 := blk4 hK
                  unfold TPost
                  first | simp only [frL, List.length_cons, List.length_nil, List.take_succ_cons, List.take_zero, Nat.reduceAdd, Nat.zero_add, List.setIfInBounds_toArray, List.set_cons_zero, List.set_cons_succ, hd] | simp only [frL, List.length_cons, List.length_nil, List.take_succ_cons, List.take_zero, Nat.reduceAdd, Nat.zero_add, List.setIfInBounds_toArray, List.set_cons_zero, List.set_cons_succ]
                  go_wp2_with (first | (go_at_call 105; refine (DC.out _).mono ?_; rintro e wa ⟨rfl, rfl⟩))
                  first | (with_reducible exact Ext.refl _) | exact ⟨rfl, _, rfl, (fun u hu => by simpa using hu), (by (repeat (first | (with_reducible assumption) | (with_reducible exact Ext.refl _) | (with_reducible refine Ext.drew ?_) | (with_reducible refine Ext.drewN ?_ _) | (with_reducible refine Ext.alloc ?_ _) | (with_reducible refine Ext.trans ?_ (by with_reducible assumption)))))⟩ | (with_reducible exact (by (repeat (first | (with_reducible assumption) | (with_reducible exact Ext.refl _) | (with_reducible refine Ext.drew ?_) | (with_reducible refine Ext.drewN ?_ _) | (with_reducible refine Ext.alloc ?_ _) | (with_reducible refine Ext.trans ?_ (by with_reducible assumption))))))
                case s2 =>
                  intro x w' hd
                  try simp [Region.binds] at hd
                  refine ⟨fun _ hK => ?_, fun h => absurd h (by decide)⟩
                  have c9 := blk4 hK
                  unfold TPost
                  first | simp only [frL, List.length_cons, List.length_nil, List.take_succ_cons, List.take_zero, Nat.reduceAdd, Nat.zero_add, List.setIfInBounds_toArray, List.set_cons_zero, List.set_cons_succ, hd] | simp only [frL, List.length_cons, List.length_nil, List.take_succ_cons, List.take_zero, Nat.reduceAdd, Nat.zero_add, List.setIfInBounds_toArray, List.set_cons_zero, List.set_cons_succ]
                  go_wp2_with (first | (go_at_call 105; refine (DC.out _).mono ?_; rintro e wa ⟨rfl, rfl⟩))
                  first | (with_reducible exact Ext.refl _) | exact ⟨rfl, _, rfl, (fun u hu => by simpa using hu), (by (repeat (first | (with_reducible assumption) | (with_reducible exact Ext.refl _) | (with_reducible refine Ext.drew ?_) | (with_reducible refine Ext.drewN ?_ _) | (with_reducible refine Ext.alloc ?_ _) | (with_reducible refine Ext.trans ?_ (by with_reducible assumption)))))⟩ | (with_reducible exact (by (repeat (first | (with_reducible assumption) | (with_reducible exact Ext.refl _) | (with_reducible refine Ext.drew ?_) | (with_reducible refine Ext.drewN ?_ _) | (with_reducible refine Ext.alloc ?_ _) | (with_reducible refine Ext.trans ?_ (by with_reducible assumption))))))
                case s3 =>
                  intro x w' hd
                  try simp [Region.binds] at hd
                  refine ⟨fun _ hK => ?_, fun h => absurd h (by decide)⟩
                  have c9 := blk4 hK
                  unfold TPost
                  first | simp only [frL, List.length_cons, List.length_nil, List.take_succ_cons, List.take_zero, Nat.reduceAdd, Nat.zero_add, List.setIfInBounds_toArray, List.set_cons_zero, List.set_cons_succ, hd] | simp only [frL, List.length_cons, List.length_nil, List.take_succ_cons, List.take_zero, Nat.reduceAdd, Nat.zero_add, List.setIfInBounds_toArray, List.set_cons_zero, List.set_cons_succ]
                  go_wp2_with (first | (go_at_call 105; refine (DC.out _).mono ?_; rintro e wa ⟨rfl, rfl⟩))
                  first | (with_reducible exact Ext.refl _) | exact ⟨rfl, _, rfl, (fun u hu => by simpa using hu), (by (repeat (first | (with_reducible assumption) | (with_reducible exact Ext.refl _) | (with_reducible refine Ext.drew ?_) | (with_reducible refine Ext.drewN ?_ _) | (with_reducible refine Ext.alloc ?_ _) | (with_reducible refine Ext.trans ?_ (by with_reducible assumption)))))⟩ | (with_reducible exact (by (repeat (first | (with_reducible assumption) | (with_reducible exact Ext.refl _) | (with_reducible refine Ext.drew ?_) | (with_reducible refine Ext.drewN ?_ _) | (with_reducible refine Ext.alloc ?_ _) | (with_reducible refine Ext.trans ?_ (by with_reducible assumption))))))
                case s4 =>
                  intro x w' hd
                  try simp [Region.binds] at hd
                  refine ⟨fun _ hK => ?_, fun h => absurd h (by decide)⟩
                  have c9 := blk4 hK
                  unfold TPost
                  first | simp only [frL, List.length_cons, List.length_nil, List.take_succ_cons, List.take_zero, Nat.reduceAdd, Nat.zero_add, List.setIfInBounds_toArray, List.set_cons_zero, List.set_cons_succ, hd] | simp only [frL, List.length_cons, List.length_nil, List.take_succ_cons, List.take_zero, Nat.reduceAdd, Nat.zero_add, List.setIfInBounds_toArray, List.set_cons_zero, List.set_cons_succ]
                  go_wp2_with (first | (go_at_call 105; refine (DC.out _).mono ?_; rintro e wa ⟨rfl, rfl⟩))
                  first | (with_reducible exact Ext.refl _) | exact ⟨rfl, _, rfl, (fun u hu => by simpa using hu), (by (repeat (first | (with_reducible assumption) | (with_reducible exact Ext.refl _) | (with_reducible refine Ext.drew ?_) | (with_reducible refine Ext.drewN ?_ _) | (with_reducible refine Ext.alloc ?_ _) | (with_reducible refine Ext.trans ?_ (by with_reducible assumption)))))⟩ | (with_reducible exact (by (repeat (first | (with_reducible assumption) | (with_reducible exact Ext.refl _) | (with_reducible refine Ext.drew ?_) | (with_reducible refine Ext.drewN ?_ _) | (with_reducible refine Ext.alloc ?_ _) | (with_reducible refine Ext.trans ?_ (by with_reducible assumption))))))
                case s5 =>
                  intro x w' hd
                  try simp [Region.binds] at hd
                  refine ⟨fun _ hK => ?_, fun h => absurd h (by decide)⟩
                  have c9 := blk4 hK
                  unfold TPost
                  first | simp only [frL, List.length_cons, List.length_nil, List.take_succ_cons, List.take_zero, Nat.reduceAdd, Nat.zero_add, List.setIfInBounds_toArray, List.set_cons_zero, List.set_cons_succ, hd] | simp only [frL, List.length_cons, List.length_nil, List.take_succ_cons, List.take_zero, Nat.reduceAdd, Nat.zero_add, List.setIfInBounds_toArray, List.set_cons_zero, List.set_cons_succ]
                  go_wp2_with (first | (go_at_call 105; refine (DC.out _).mono ?_; rintro e wa ⟨rfl, rfl⟩))
                  first | (with_reducible exact Ext.refl _) | exact ⟨rfl, _, rfl, (fun u hu => by simpa using hu), (by (repeat (first | (with_reducible assumption) | (with_reducible exact Ext.refl _) | (with_reducible refine Ext.drew ?_) | (with_reducible refine Ext.drewN ?_ _) | (with_reducible refine Ext.alloc ?_ _) | (with_reducible refine Ext.trans ?_ (by with_reducible assumption)))))⟩ | (with_reducible exact (by (repeat (first | (with_reducible assumption) | (with_reducible exact Ext.refl _) | (with_reducible refine Ext.drew ?_) | (with_reducible refine Ext.drewN ?_ _) | (with_reducible refine Ext.alloc ?_ _) | (with_reducible refine Ext.trans ?_ (by with_reducible assumption))))))
                case s6 =>
                  intro x w' hd
                  try simp [Region.binds] at hd
                  refine ⟨fun _ hK => ?_, fun h => absurd h (by decide)⟩
                  have c9 := blk4 hK
                  unfold TPost
                  first | simp only [frL, List.length_cons, List.length_nil, List.take_succ_cons, List.take_zero, Nat.reduceAdd, Nat.zero_add, List.setIfInBounds_toArray, List.set_cons_zero, List.set_cons_succ, hd] | simp only [frL, List.length_cons, List.length_nil, List.take_succ_cons, List.take_zero, Nat.reduceAdd, Nat.zero_add, List.setIfInBounds_toArray, List.set_cons_zero, List.set_cons_succ]
                  go_wp2_with (first | (go_at_call 105; refine (DC.out _).mono ?_; rintro e wa ⟨rfl, rfl⟩))
                  first | (with_reducible exact Ext.refl _) | exact ⟨rfl, _, rfl, (fun u hu => by simpa using hu), (by (repeat (first | (with_reducible assumption) | (with_reducible exact Ext.refl _) | (with_reducible refine Ext.drew ?_) | (with_reducible refine Ext.drewN ?_ _) | (with_reducible refine Ext.alloc ?_ _) | (with_reducible refine Ext.trans ?_ (by with_reducible assumption)))))⟩ | (with_reducible exact (by (repeat (first | (with_reducible assumption) | (with_reducible exact Ext.refl _) | (with_reducible refine Ext.drew ?_) | (with_reducible refine Ext.drewN ?_ _) | (with_reducible refine Ext.alloc ?_ _) | (with_reducible refine Ext.trans ?_ (by with_reducible assumption))))))
                case s8 =>
                  intro x w' hd
                  try simp [Region.binds] at hd
                  refine ⟨fun _ hK => ?_, fun h => absurd h (by decide)⟩
                  have c9 := blk4 hK
                  unfold TPost
                  first | simp only [frL, List.length_cons, List.length_nil, List.take_succ_cons, List.take_zero, Nat.reduceAdd, Nat.zero_add, List.setIfInBounds_toArray, List.set_cons_zero, List.set_cons_succ, hd] | simp only [frL, List.length_cons, List.length_nil, List.take_succ_cons, List.take_zero, Nat.reduceAdd, Nat.zero_add, List.setIfInBounds_toArray, List.set_cons_zero, List.set_cons_succ]
                  go_wp2_with (first | (go_at_call 105; refine (DC.out _).mono ?_; rintro e wa ⟨rfl, rfl⟩))
                  first | (with_reducible exact Ext.refl _) | exact ⟨rfl, _, rfl, (fun u hu => by simpa using hu), (by (repeat (first | (with_reducible assumption) | (with_reducible exact Ext.refl _) | (with_reducible refine Ext.drew ?_) | (with_reducible refine Ext.drewN ?_ _) | (with_reducible refine Ext.alloc ?_ _) | (with_reducible refine Ext.trans ?_ (by with_reducible assumption)))))⟩ | (with_reducible exact (by (repeat (first | (with_reducible assumption) | (with_reducible exact Ext.refl _) | (with_reducible refine Ext.drew ?_) | (with_reducible refine Ext.drewN ?_ _) | (with_reducible refine Ext.alloc ?_ _) | (with_reducible refine Ext.trans ?_ (by with_reducible assumption))))))
                case s9 =>
                  intro x w' hd
                  try simp [Region.binds] at hd
                  refine ⟨fun _ hK => ?_, fun h => absurd h (by decide)⟩
                  have c9 := blk4 hK
                  unfold TPost
                  first | simp only [frL, List.length_cons, List.length_nil, List.take_succ_cons, List.take_zero, Nat.reduceAdd, Nat.zero_add, List.setIfInBounds_toArray, List.set_cons_zero, List.set_cons_succ, hd] | simp only [frL, List.length_cons, List.length_nil, List.take_succ_cons, List.take_zero, Nat.reduceAdd, Nat.zero_add, List.setIfInBounds_toArray, List.set_cons_zero, List.set_cons_succ]
                  go_wp2_with (first | (go_at_call 105; refine (DC.out _).mono ?_; rintro e wa ⟨rfl, rfl⟩))
                  first | (with_reducible exact Ext.refl _) | exact ⟨rfl, _, rfl, (fun u hu => by simpa using hu), (by (repeat (first | (with_reducible assumption) | (with_reducible exact Ext.refl _) | (with_reducible refine Ext.drew ?_) | (with_reducible refine Ext.drewN ?_ _) | (with_reducible refine Ext.alloc ?_ _) | (with_reducible refine Ext.trans ?_ (by with_reducible assumption)))))⟩ | (with_reducible exact (by (repeat (first | (with_reducible assumption) | (with_reducible exact Ext.refl _) | (with_reducible refine Ext.drew ?_) | (with_reducible refine Ext.drewN ?_ _) | (with_reducible refine Ext.alloc ?_ _) | (with_reducible refine Ext.trans ?_ (by with_reducible assumption))))))
                case sm =>
                  intro x' w' hd
                  try simp [Region.binds] at hd
                  refine ⟨fun h => absurd rfl h, fun _ hS => ?_⟩
                  have hEx := hid hS
                  clear hS
                  have bz := blk4 (hEx.out.heap HBX.out)
                  obtain ⟨f1, f2, f3, f4⟩ := frz4 (hEx.out.heap HBX.out)
                  unfold TPost
                  first | simp only [frL, List.length_cons, List.length_nil, List.take_succ_cons, List.take_zero, Nat.reduceAdd, Nat.zero_add, List.setIfInBounds_toArray, List.set_cons_zero, List.set_cons_succ, hd] | simp only [frL, List.length_cons, List.length_nil, List.take_succ_cons, List.take_zero, Nat.reduceAdd, Nat.zero_add, List.setIfInBounds_toArray, List.set_cons_zero, List.set_cons_succ]
                  go_wp2
                  exact ⟨blk4_sA (hEx.out.heap HBX.out) _ _ _ _, heap_set_far (heap_set_far (heap_set_far (heap_set_far (hEx.out.heap HB9.out) hne.symm) hne.symm) hne.symm) hne.symm, ext_s4 (HE.out.trans hEx.out) (Nat.le_refl _) _ _ _ _,
                    ⟨World.ownsRow_nil _ _ _ _, rfl, own_base (own_set_far (own_set_far (own_set_far (own_set_far (own_ext HRS.out.1 hEx.out) HH.out.2.2) HH.out.2.2) HH.out.2.2) HH.out.2.2) HH.out.1, own_base (own_set_far (own_set_far (own_set_far (own_set_far (own_ext HRS.out.2 hEx.out) HH.out.2.2) HH.out.2.2) HH.out.2.2) HH.out.2.2) HH.out.1⟩⟩
              case st0 => intro a b E h; exact Ext.trans h E
              case st1 =>
                rintro a b E ⟨h1, h2, h3, h4⟩
                exact ⟨E.heap h1, E.heap h2, h3.trans E, h4.ext E⟩
              case k0 =>
                intro a hE
                exact hE.heap HB9.out
              case k1 =>
                rintro a ⟨_, h2, _, _⟩
                exact h2
              case h0 => exact (Ext.refl _).drew
              case he =>
                rintro x' w9 hd ⟨h1, h2, h3, h4⟩
                have e0 := hd 0 (by decide) _ rfl
                have e1 := hd 1 (by decide) _ rfl
                have e2 := hd 2 (by decide) _ rfl
                have e3 := hd 3 (by decide) _ rfl
                have e4 := hd 4 (by decide) _ rfl
                have e5 := hd 5 (by decide) _ rfl
                have e6 := hd 6 (by decide) _ rfl
                have e8 := hd 8 (by decide) _ rfl
                have e9 := hd 9 (by decide) _ rfl
                simp only [frL, List.length_cons, List.length_nil, List.take_succ_cons, List.take_zero, Nat.reduceAdd, Nat.zero_add, List.setIfInBounds_toArray, List.set_cons_zero, List.set_cons_succ, e0, e1, e2, e3, e4, e5, e6, e8, e9]
                clear hd e0 e1 e2 e3 e4 e5 e6 e8 e9 h2
                have r4 := blk4 h1
                have HH3 := hid h3
                have HH4 := hid h4
                clear h1 h3 h4
                go_wp2
                exact bodyPost_ret (v := .tuple #[.agg #[.slice none 0 0, .bool true, .slice ac C.length kc, .slice ao O.length ko], .int .i64 (((k : Int) + 2) + (ds.size : Int)), .int .i64 0]) (by simp [results, Tryz.results26, go_sem, r4.1, r4.2.1, r4.2.2.1, r4.2.2.2]) rfl ⟨(.slice none 0 0, true, .slice ac C.length kc, .slice ao O.length ko), by rw [HR3.out, HDS.out]; rfl, by rw [HR3.out]; exact HH4.out, HH3.out⟩
            · have HR3 := hid (show lnRd s.data.toList = (em, entN, 0) by rw [HRX.out, if_neg he])
              have q : (em != 0) = true := by simp [he]
              have r4 := blk4 (blk4_sA HBX.out (.slice none 0 0) (.bool false) (.slice none 0 0) (.slice none 0 0))
              clear he
              go_wp2
              exact bodyPost_ret (v := .tuple #[evV eZ, .int .i64 0, .int .i64 em]) (by simp [results, Tryz.results26, go_sem, r4.1, r4.2.1, r4.2.2.1, r4.2.2.2, evV, eZ]) rfl ⟨eZ, by rw [HR3.out]; rfl, by rw [HR3.out]; exact eZ_st _ _, ext_s4 HE.out (Nat.le_refl _) _ _ _ _⟩
          · rw [hp] at HP
            have hBY : bodyRd b = ((deedRd (bA b)).1, ⟨(deedRd (bA b)).2, false, [], []⟩) := if_neg (by rw [hp]; decide)
            have hrw := HRW.out
            rw [hBY] at hrw
            rw [HXb.out] at QD
            obtain ⟨MM, hMM⟩ : ∃ MM, deedRd (bA b) = MM := ⟨_, rfl⟩
            rw [hMM] at hrw QD
            rw [← HXb.out] at QD
            obtain ⟨em, D⟩ := MM
            simp only at hrw
            have HRX := hid hrw
            clear hp hBY hrw hMM
            go_wp2_with fail
            refine (HP.out _).mono ?_
            clear HP
            rintro e w5 ⟨rfl, rfl⟩
            obtain ⟨w5, rfl⟩ : ∃ w5 : World, w5 = w4 := ⟨_, rfl⟩
            clear HX4 HXb HBS HPF
            generalize B.extract 0 k = bk at *
            have HB9 := hid (heap_alloc_new w5 (.cells #[.slice none 0 0, .bool false, .slice none 0 0, .slice none 0 0] 45))
            have HBX := hid (((Ext.refl w5).alloc (.cells #[.slice none 0 0, .bool false, .slice none 0 0, .slice none 0 0] 45)).heap HB3.out)
            have HE := hid (HE3.out.trans ((Ext.refl w5).alloc (.cells #[.slice none 0 0, .bool false, .slice none 0 0, .slice none 0 0] 45)))
            clear HB3 HE3
            go_wp2_with fail
            refine (QD.out _ HE.out).mono ?_
            clear QD
            rintro e w6 ⟨v', rfl, h1, E4⟩
            obtain ⟨ac, kc, rfl⟩ := own_form h1
            have HB9 := hid (E4.heap HB9.out)
            have HBX := hid (E4.heap HBX.out)
            have HE := hid (HE.out.trans E4)
            have c9 := blk4 HB9.out
            obtain ⟨g1, g2, g3, g4⟩ := frz4 HB9.out
            have hne : w.heap.size ≠ w5.heap.size := by have := HLT.out; omega
            have HOC := hid h1
            clear h1 E4
            have HB9 := hid (set4_0 HB9.out (.slice ac D.length kc))
            have HBX : Hid ((w6.setCell ⟨w5.heap.size, 0, none⟩ (.slice ac D.length kc)).heap[w.heap.size]? = _) := hid (heap_set_far HBX.out hne)
            have HE := hid (HE.out.setCell (p := ⟨w5.heap.size, 0, none⟩) (by show w.heap.size ≤ w5.heap.size; have := HLT.out; omega) (.slice ac D.length kc))
            have d9 := blk4 HB9.out
            have b1' := blk4 HBX.out
            obtain ⟨f1, f2, f3, f4⟩ := frz4 HBX.out
            have hB : w.heap.size ≤ (w5.alloc (.cells #[.slice none 0 0, .bool false, .slice none 0 0, .slice none 0 0] 45)).heap.size := by simp; have := HLT.out; omega
            have h9 : w5.heap.size < (w5.alloc (.cells #[.slice none 0 0, .bool false, .slice none 0 0, .slice none 0 0] 45)).heap.size := by simp
            have h0 : w.heap.size < (w5.alloc (.cells #[.slice none 0 0, .bool false, .slice none 0 0, .slice none 0 0] 45)).heap.size := by simp; have := HLT.out; omega
            have HH := hid (And.intro hB (And.intro h9 h0))
            clear hB h9 h0
            by_cases he : em = 0
            · subst he
              have HR3 := hid (show lnRd s.data.toList = (0, ⟨D, false, [], []⟩, line.length + 1) by rw [HRX.out, if_pos rfl])
              have iW1 : IntKind.i64.wrap ((k : Int) + 2) = (k : Int) + 2 := by rw [IntKind.wrap_i64]; have := HLL.out; omega
              have iW2 : IntKind.i64.wrap (((k : Int) + 2) + (ds.size : Int)) = ((k : Int) + 2) + (ds.size : Int) := by rw [IntKind.wrap_i64]; have := HDS.out; omega
              have hRows := own_set_far HOC.out (p := ⟨w5.heap.size, 0, none⟩) (u := .slice ac D.length kc) HH.out.2.1
              have HRS := hid hRows
              go_wp2_with fail
              clear hRows
              generalize w6.setCell ⟨w5.heap.size, 0, none⟩ (.slice ac D.length kc) = wz at *
              refine wp_region_mid (by kernel_rfl) (by kernel_rfl) (fun ii => match ii with | 0 => some (.agg #[.slice ac D.length kc, .bool false, .slice none 0 0, .slice none 0 0]) | 1 => some (.int .i64 k) | 2 => some (.int .i64 ((k : Int) + 2)) | 3 => some (.int .i64 vn) | 4 => some (.string ds) | 5 => some (.int .i64 ds.size) | 6 => some (.int .i64 (((k : Int) + 2) + (ds.size : Int))) | 8 => some (.int .i64 (((k : Int) + 2) + (ds.size : Int))) | 9 => some (.int .i64 0) | _ => none) 7 (by kernel_rfl) (fun w' => w'.heap[w5.heap.size]? = some (.cells #[.slice ac D.length kc, .bool false, .slice none 0 0, .slice none 0 0] 45 (0, 0))) (fun w' => Ext wz w') (fun w' => w'.heap[w.heap.size]? = some (.cells #[.slice ac D.length kc, .bool false, .slice none 0 0, .slice none 0 0] 45 (0, 0)) ∧ w'.heap[w5.heap.size]? = some (.cells #[.slice ac D.length kc, .bool false, .slice none 0 0, .slice none 0 0] 45 (0, 0)) ∧ Ext w w' ∧ EntSt w.heap.size w' (.slice ac D.length kc, false, .slice none 0 0, .slice none 0 0) ⟨D, false, [], []⟩) ?st0 ?st1 ?k0 ?k1 ?h0 ?hs ?he
              case hs =>
                refine ⟨?s0, ?s1, ?s2, ?s3, ?s4, ?s5, ?s6, ?sm, ?s8, ?s9, trivial⟩
                case s0 =>
                  intro x w' hd
                  try simp [Region.binds] at hd
                  refine ⟨fun _ hK => ?_, fun h => absurd h (by decide)⟩
                  have c9 := blk4 hK
                  unfold TPost
                  first | simp only [frL, List.length_cons, List.length_nil, List.take_succ_cons, List.take_zero, Nat.reduceAdd, Nat.zero_add, List.setIfInBounds_toArray, List.set_cons_zero, List.set_cons_succ, hd] | simp only [frL, List.length_cons, List.length_nil, List.take_succ_cons, List.take_zero, Nat.reduceAdd, Nat.zero_add, List.setIfInBounds_toArray, List.set_cons_zero, List.set_cons_succ]
                  go_wp2_with (first | (go_at_call 105; refine (DC.out _).mono ?_; rintro e wa ⟨rfl, rfl⟩))
                  first | (with_reducible exact Ext.refl _) | exact ⟨rfl, _, rfl, (fun u hu => by simpa using hu), (by (repeat (first | (with_reducible assumption) | (with_reducible exact Ext.refl _) | (with_reducible refine Ext.drew ?_) | (with_reducible refine Ext.drewN ?_ _) | (with_reducible refine Ext.alloc ?_ _) | (with_reducible refine Ext.trans ?_ (by with_reducible assumption)))))⟩ | (with_reducible exact (by (repeat (first | (with_reducible assumption) | (with_reducible exact Ext.refl _) | (with_reducible refine Ext.drew ?_) | (with_reducible refine Ext.drewN ?_ _) | (with_reducible refine Ext.alloc ?_ _) | (with_reducible refine Ext.trans ?_ (by with_reducible assumption))))))
                case s1 =>
                  intro x w' hd
                  try simp [Region.binds] at hd
                  refine ⟨fun _ hK => ?_, fun h => absurd h (by decide)⟩
                  have c9 := blk4 hK
                  unfold TPost
                  first | simp only [frL, List.length_cons, List.length_nil, List.take_succ_cons, List.take_zero, Nat.reduceAdd, Nat.zero_add, List.setIfInBounds_toArray, List.set_cons_zero, List.set_cons_succ, hd] | simp only [frL, List.length_cons, List.length_nil, List.take_succ_cons, List.take_zero, Nat.reduceAdd, Nat.zero_add, List.setIfInBounds_toArray, List.set_cons_zero, List.set_cons_succ]
                  go_wp2_with (first | (go_at_call 105; refine (DC.out _).mono ?_; rintro e wa ⟨rfl, rfl⟩))
                  first | (with_reducible exact Ext.refl _) | exact ⟨rfl, _, rfl, (fun u hu => by simpa using hu), (by (repeat (first | (with_reducible assumption) | (with_reducible exact Ext.refl _) | (with_reducible refine Ext.drew ?_) | (with_reducible refine Ext.drewN ?_ _) | (with_reducible refine Ext.alloc ?_ _) | (with_reducible refine Ext.trans ?_ (by with_reducible assumption)))))⟩ | (with_reducible exact (by (repeat (first | (with_reducible assumption) | (with_reducible exact Ext.refl _) | (with_reducible refine Ext.drew ?_) | (with_reducible refine Ext.drewN ?_ _) | (with_reducible refine Ext.alloc ?_ _) | (with_reducible refine Ext.trans ?_ (by with_reducible assumption))))))
                case s2 =>
                  intro x w' hd
                  try simp [Region.binds] at hd
                  refine ⟨fun _ hK => ?_, fun h => absurd h (by decide)⟩
                  have c9 := blk4 hK
                  unfold TPost
                  first | simp only [frL, List.length_cons, List.length_nil, List.take_succ_cons, List.take_zero, Nat.reduceAdd, Nat.zero_add, List.setIfInBounds_toArray, List.set_cons_zero, List.set_cons_succ, hd] | simp only [frL, List.length_cons, List.length_nil, List.take_succ_cons, List.take_zero, Nat.reduceAdd, Nat.zero_add, List.setIfInBounds_toArray, List.set_cons_zero, List.set_cons_succ]
                  go_wp2_with (first | (go_at_call 105; refine (DC.out _).mono ?_; rintro e wa ⟨rfl, rfl⟩))
                  first | (with_reducible exact Ext.refl _) | exact ⟨rfl, _, rfl, (fun u hu => by simpa using hu), (by (repeat (first | (with_reducible assumption) | (with_reducible exact Ext.refl _) | (with_reducible refine Ext.drew ?_) | (with_reducible refine Ext.drewN ?_ _) | (with_reducible refine Ext.alloc ?_ _) | (with_reducible refine Ext.trans ?_ (by with_reducible assumption)))))⟩ | (with_reducible exact (by (repeat (first | (with_reducible assumption) | (with_reducible exact Ext.refl _) | (with_reducible refine Ext.drew ?_) | (with_reducible refine Ext.drewN ?_ _) | (with_reducible refine Ext.alloc ?_ _) | (with_reducible refine Ext.trans ?_ (by with_reducible assumption))))))
                case s3 =>
                  intro x w' hd
                  try simp [Region.binds] at hd
                  refine ⟨fun _ hK => ?_, fun h => absurd h (by decide)⟩
                  have c9 := blk4 hK
                  unfold TPost
                  first | simp only [frL, List.length_cons, List.length_nil, List.take_succ_cons, List.take_zero, Nat.reduceAdd, Nat.zero_add, List.setIfInBounds_toArray, List.set_cons_zero, List.set_cons_succ, hd] | simp only [frL, List.length_cons, List.length_nil, List.take_succ_cons, List.take_zero, Nat.reduceAdd, Nat.zero_add, List.setIfInBounds_toArray, List.set_cons_zero, List.set_cons_succ]
                  go_wp2_with (first | (go_at_call 105; refine (DC.out _).mono ?_; rintro e wa ⟨rfl, rfl⟩))
                  first | (with_reducible exact Ext.refl _) | exact ⟨rfl, _, rfl, (fun u hu => by simpa using hu), (by (repeat (first | (with_reducible assumption) | (with_reducible exact Ext.refl _) | (with_reducible refine Ext.drew ?_) | (with_reducible refine Ext.drewN ?_ _) | (with_reducible refine Ext.alloc ?_ _) | (with_reducible refine Ext.trans ?_ (by with_reducible assumption)))))⟩ | (with_reducible exact (by (repeat (first | (with_reducible assumption) | (with_reducible exact Ext.refl _) | (with_reducible refine Ext.drew ?_) | (with_reducible refine Ext.drewN ?_ _) | (with_reducible refine Ext.alloc ?_ _) | (with_reducible refine Ext.trans ?_ (by with_reducible assumption))))))
                case s4 =>
                  intro x w' hd
                  try simp [Region.binds] at hd
                  refine ⟨fun _ hK => ?_, fun h => absurd h (by decide)⟩
                  have c9 := blk4 hK
                  unfold TPost
                  first | simp only [frL, List.length_cons, List.length_nil, List.take_succ_cons, List.take_zero, Nat.reduceAdd, Nat.zero_add, List.setIfInBounds_toArray, List.set_cons_zero, List.set_cons_succ, hd] | simp only [frL, List.length_cons, List.length_nil, List.take_succ_cons, List.take_zero, Nat.reduceAdd, Nat.zero_add, List.setIfInBounds_toArray, List.set_cons_zero, List.set_cons_succ]
                  go_wp2_with (first | (go_at_call 105; refine (DC.out _).mono ?_; rintro e wa ⟨rfl, rfl⟩))
                  first | (with_reducible exact Ext.refl _) | exact ⟨rfl, _, rfl, (fun u hu => by simpa using hu), (by (repeat (first | (with_reducible assumption) | (with_reducible exact Ext.refl _) | (with_reducible refine Ext.drew ?_) | (with_reducible refine Ext.drewN ?_ _) | (with_reducible refine Ext.alloc ?_ _) | (with_reducible refine Ext.trans ?_ (by with_reducible assumption)))))⟩ | (with_reducible exact (by (repeat (first | (with_reducible assumption) | (with_reducible exact Ext.refl _) | (with_reducible refine Ext.drew ?_) | (with_reducible refine Ext.drewN ?_ _) | (with_reducible refine Ext.alloc ?_ _) | (with_reducible refine Ext.trans ?_ (by with_reducible assumption))))))
                case s5 =>
                  intro x w' hd
                  try simp [Region.binds] at hd
                  refine ⟨fun _ hK => ?_, fun h => absurd h (by decide)⟩
                  have c9 := blk4 hK
                  unfold TPost
                  first | simp only [frL, List.length_cons, List.length_nil, List.take_succ_cons, List.take_zero, Nat.reduceAdd, Nat.zero_add, List.setIfInBounds_toArray, List.set_cons_zero, List.set_cons_succ, hd] | simp only [frL, List.length_cons, List.length_nil, List.take_succ_cons, List.take_zero, Nat.reduceAdd, Nat.zero_add, List.setIfInBounds_toArray, List.set_cons_zero, List.set_cons_succ]
                  go_wp2_with (first | (go_at_call 105; refine (DC.out _).mono ?_; rintro e wa ⟨rfl, rfl⟩))
                  first | (with_reducible exact Ext.refl _) | exact ⟨rfl, _, rfl, (fun u hu => by simpa using hu), (by (repeat (first | (with_reducible assumption) | (with_reducible exact Ext.refl _) | (with_reducible refine Ext.drew ?_) | (with_reducible refine Ext.drewN ?_ _) | (with_reducible refine Ext.alloc ?_ _) | (with_reducible refine Ext.trans ?_ (by with_reducible assumption)))))⟩ | (with_reducible exact (by (repeat (first | (with_reducible assumption) | (with_reducible exact Ext.refl _) | (with_reducible refine Ext.drew ?_) | (with_reducible refine Ext.drewN ?_ _) | (with_reducible refine Ext.alloc ?_ _) | (with_reducible refine Ext.trans ?_ (by with_reducible assumption))))))
                case s6 =>
                  intro x w' hd
                  try simp [Region.binds] at hd
                  refine ⟨fun _ hK => ?_, fun h => absurd h (by decide)⟩
                  have c9 := blk4 hK
                  unfold TPost
                  first | simp only [frL, List.length_cons, List.length_nil, List.take_succ_cons, List.take_zero, Nat.reduceAdd, Nat.zero_add, List.setIfInBounds_toArray, List.set_cons_zero, List.set_cons_succ, hd] | simp only [frL, List.length_cons, List.length_nil, List.take_succ_cons, List.take_zero, Nat.reduceAdd, Nat.zero_add, List.setIfInBounds_toArray, List.set_cons_zero, List.set_cons_succ]
                  go_wp2_with (first | (go_at_call 105; refine (DC.out _).mono ?_; rintro e wa ⟨rfl, rfl⟩))
                  first | (with_reducible exact Ext.refl _) | exact ⟨rfl, _, rfl, (fun u hu => by simpa using hu), (by (repeat (first | (with_reducible assumption) | (with_reducible exact Ext.refl _) | (with_reducible refine Ext.drew ?_) | (with_reducible refine Ext.drewN ?_ _) | (with_reducible refine Ext.alloc ?_ _) | (with_reducible refine Ext.trans ?_ (by with_reducible assumption)))))⟩ | (with_reducible exact (by (repeat (first | (with_reducible assumption) | (with_reducible exact Ext.refl _) | (with_reducible refine Ext.drew ?_) | (with_reducible refine Ext.drewN ?_ _) | (with_reducible refine Ext.alloc ?_ _) | (with_reducible refine Ext.trans ?_ (by with_reducible assumption))))))
                case s8 =>
                  intro x w' hd
                  try simp [Region.binds] at hd
                  refine ⟨fun _ hK => ?_, fun h => absurd h (by decide)⟩
                  have c9 := blk4 hK
                  unfold TPost
                  first | simp only [frL, List.length_cons, List.length_nil, List.take_succ_cons, List.take_zero, Nat.reduceAdd, Nat.zero_add, List.setIfInBounds_toArray, List.set_cons_zero, List.set_cons_succ, hd] | simp only [frL, List.length_cons, List.length_nil, List.take_succ_cons, List.take_zero, Nat.reduceAdd, Nat.zero_add, List.setIfInBounds_toArray, List.set_cons_zero, List.set_cons_succ]
                  go_wp2_with (first | (go_at_call 105; refine (DC.out _).mono ?_; rintro e wa ⟨rfl, rfl⟩))
                  first | (with_reducible exact Ext.refl _) | exact ⟨rfl, _, rfl, (fun u hu => by simpa using hu), (by (repeat (first | (with_reducible assumption) | (with_reducible exact Ext.refl _) | (with_reducible refine Ext.drew ?_) | (with_reducible refine Ext.drewN ?_ _) | (with_reducible refine Ext.alloc ?_ _) | (with_reducible refine Ext.trans ?_ (by with_reducible assumption)))))⟩ | (with_reducible exact (by (repeat (first | (with_reducible assumption) | (with_reducible exact Ext.refl _) | (with_reducible refine Ext.drew ?_) | (with_reducible refine Ext.drewN ?_ _) | (with_reducible refine Ext.alloc ?_ _) | (with_reducible refine Ext.trans ?_ (by with_reducible assumption))))))
                case s9 =>
                  intro x w' hd
                  try simp [Region.binds] at hd
                  refine ⟨fun _ hK => ?_, fun h => absurd h (by decide)⟩
                  have c9 := blk4 hK
                  unfold TPost
                  first | simp only [frL, List.length_cons, List.length_nil, List.take_succ_cons, List.take_zero, Nat.reduceAdd, Nat.zero_add, List.setIfInBounds_toArray, List.set_cons_zero, List.set_cons_succ, hd] | simp only [frL, List.length_cons, List.length_nil, List.take_succ_cons, List.take_zero, Nat.reduceAdd, Nat.zero_add, List.setIfInBounds_toArray, List.set_cons_zero, List.set_cons_succ]
                  go_wp2_with (first | (go_at_call 105; refine (DC.out _).mono ?_; rintro e wa ⟨rfl, rfl⟩))
                  first | (with_reducible exact Ext.refl _) | exact ⟨rfl, _, rfl, (fun u hu => by simpa using hu), (by (repeat (first | (with_reducible assumption) | (with_reducible exact Ext.refl _) | (with_reducible refine Ext.drew ?_) | (with_reducible refine Ext.drewN ?_ _) | (with_reducible refine Ext.alloc ?_ _) | (with_reducible refine Ext.trans ?_ (by with_reducible assumption)))))⟩ | (with_reducible exact (by (repeat (first | (with_reducible assumption) | (with_reducible exact Ext.refl _) | (with_reducible refine Ext.drew ?_) | (with_reducible refine Ext.drewN ?_ _) | (with_reducible refine Ext.alloc ?_ _) | (with_reducible refine Ext.trans ?_ (by with_reducible assumption))))))
                case sm =>
                  intro x' w' hd
                  try simp [Region.binds] at hd
                  refine ⟨fun h => absurd rfl h, fun _ hS => ?_⟩
                  have hEx := hid hS
                  clear hS
                  have bz := blk4 (hEx.out.heap HBX.out)
                  obtain ⟨f1, f2, f3, f4⟩ := frz4 (hEx.out.heap HBX.out)
                  unfold TPost
                  first | simp only [frL, List.length_cons, List.length_nil, List.take_succ_cons, List.take_zero, Nat.reduceAdd, Nat.zero_add, List.setIfInBounds_toArray, List.set_cons_zero, List.set_cons_succ, hd] | simp only [frL, List.length_cons, List.length_nil, List.take_succ_cons, List.take_zero, Nat.reduceAdd, Nat.zero_add, List.setIfInBounds_toArray, List.set_cons_zero, List.set_cons_succ]
                  go_wp2
                  exact ⟨blk4_sA (hEx.out.heap HBX.out) _ _ _ _, heap_set_far (heap_set_far (heap_set_far (heap_set_far (hEx.out.heap HB9.out) hne.symm) hne.symm) hne.symm) hne.symm, ext_s4 (HE.out.trans hEx.out) (Nat.le_refl _) _ _ _ _,
                    ⟨own_base (own_set_far (own_set_far (own_set_far (own_set_far (own_ext HRS.out hEx.out) HH.out.2.2) HH.out.2.2) HH.out.2.2) HH.out.2.2) HH.out.1, rfl, World.ownsRow_nil _ _ _ _, World.ownsRow_nil _ _ _ _⟩⟩
              case st0 => intro a b E h; exact Ext.trans h E
              case st1 =>
                rintro a b E ⟨h1, h2, h3, h4⟩
                exact ⟨E.heap h1, E.heap h2, h3.trans E, h4.ext E⟩
              case k0 =>
                intro a hE
                exact hE.heap HB9.out
              case k1 =>
                rintro a ⟨_, h2, _, _⟩
                exact h2
              case h0 => exact (Ext.refl _).drew
              case he =>
                rintro x' w9 hd ⟨h1, h2, h3, h4⟩
                have e0 := hd 0 (by decide) _ rfl
                have e1 := hd 1 (by decide) _ rfl
                have e2 := hd 2 (by decide) _ rfl
                have e3 := hd 3 (by decide) _ rfl
                have e4 := hd 4 (by decide) _ rfl
                have e5 := hd 5 (by decide) _ rfl
                have e6 := hd 6 (by decide) _ rfl
                have e8 := hd 8 (by decide) _ rfl
                have e9 := hd 9 (by decide) _ rfl
                simp only [frL, List.length_cons, List.length_nil, List.take_succ_cons, List.take_zero, Nat.reduceAdd, Nat.zero_add, List.setIfInBounds_toArray, List.set_cons_zero, List.set_cons_succ, e0, e1, e2, e3, e4, e5, e6, e8, e9]
                clear hd e0 e1 e2 e3 e4 e5 e6 e8 e9 h2
                have r4 := blk4 h1
                have HH3 := hid h3
                have HH4 := hid h4
                clear h1 h3 h4
                go_wp2
                exact bodyPost_ret (v := .tuple #[.agg #[.slice ac D.length kc, .bool false, .slice none 0 0, .slice none 0 0], .int .i64 (((k : Int) + 2) + (ds.size : Int)), .int .i64 0]) (by simp [results, Tryz.results26, go_sem, r4.1, r4.2.1, r4.2.2.1, r4.2.2.2]) rfl ⟨(.slice ac D.length kc, false, .slice none 0 0, .slice none 0 0), by rw [HR3.out, HDS.out]; rfl, by rw [HR3.out]; exact HH4.out, HH3.out⟩
            · have HR3 := hid (show lnRd s.data.toList = (em, entN, 0) by rw [HRX.out, if_neg he])
              have q : (em != 0) = true := by simp [he]
              have r4 := blk4 (blk4_sA HBX.out (.slice none 0 0) (.bool false) (.slice none 0 0) (.slice none 0 0))
              clear he
              go_wp2
              exact bodyPost_ret (v := .tuple #[evV eZ, .int .i64 0, .int .i64 em]) (by simp [results, Tryz.results26, go_sem, r4.1, r4.2.1, r4.2.2.1, r4.2.2.2, evV, eZ]) rfl ⟨eZ, by rw [HR3.out]; rfl, by rw [HR3.out]; exact eZ_st _ _, ext_s4 HE.out (Nat.le_refl _) _ _ _ _⟩
        · have q4 : (vn != (sbL b : Int)) = true := by simp [hv]
          have HR3 := hid (show lnRd s.data.toList = (8, entN, 0) by rw [HRV.out, if_pos hv])
          clear hv
          have b1' := blk4 HB3.out
          obtain ⟨f1, f2, f3, f4⟩ := frz4 HB3.out
          have r4 := blk4 (blk4_sA HB3.out (.slice none 0 0) (.bool false) (.slice none 0 0) (.slice none 0 0))
          go_wp2
          exact bodyPost_ret (v := .tuple #[evV eZ, .int .i64 0, .int .i64 8]) (by simp [results, Tryz.results26, go_sem, r4.1, r4.2.1, r4.2.2.1, r4.2.2.2, evV, eZ]) rfl ⟨eZ, by rw [HR3.out]; rfl, by rw [HR3.out]; exact eZ_st _ _, ext_s4 HE3.out (Nat.le_refl _) _ _ _ _⟩
end Go.Proofs.YtnepdfpooobmcaaGreatDoor
