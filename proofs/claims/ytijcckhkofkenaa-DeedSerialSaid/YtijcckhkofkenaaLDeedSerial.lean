/- Contracts and lemmas for the proofs of this seat; each theorem states its own conditions. -/
import Derived.Test.YtijcckhkofkenaaDs
import Derived.Test.YtijcckhkofkenaaSrL
namespace Go.Proofs.Ytijcckhkofkenaa
open Go.RowKit
theorem eqB_same (l : List Bool) : decide (l = l) = true := by simp
theorem serB_at {l : Prs} {D : List Ops} {k : Nat} (hk : k < D.length) : (serB l D)[k]? = some (runB (serS l (D.take k)) D[k]) := by
  have h := (serS_take (l := l) hk).2
  have e := (ser_app l (D.take (k + 1)) (D.drop (k + 1))).2
  rw [List.take_append_drop] at e
  rw [e, h]
  have hl : (serB l (D.take k)).length = k := by rw [serB_len, List.length_take]; omega
  rw [List.getElem?_append_left (by simp [hl]), List.getElem?_append_right (by omega), hl]
  simp
set_option maxRecDepth 100000 in
set_option maxHeartbeats 1000000 in
theorem serial_walk (v vd : Value) (l : List Int) (ls : List (List Int)) (k : Int) (w : World) (hv : Seg w v 1 l.length (cI l)) (hb : ∀ z ∈ l, -9223372036854775808 ≤ z ∧ z ≤ 9223372036854775807) (hvd : SegLL w vd ls) :
    Calls Try.prog 15 #[v, vd, .int .i64 k] w fun e w' => e = .returned (.bool true) ∧ Ext w w' := by
  go_enter Try.func15, Try.ntmps15
  go_wp2_with fail
  refine (deedBegun_any _).mono ?_
  rintro e w1 ⟨rfl, E⟩
  replace hv := hv.ext E
  replace hvd := hvd.ext E
  go_wp2_with fail
  refine (pairs_any _ l _ hv hb).mono ?_
  rintro e w2 ⟨vs, S, rfl, oS, lS, hS, E1⟩
  have sS := own_seg hS
  obtain ⟨a0, c0, rfl⟩ := own_form hS
  replace E := Ext.trans E (E1)
  replace hvd := hvd.ext E1
  clear E1 hS hv
  go_wp2_with fail
  refine (deeds_any _ ls 30 _ hvd (by omega)).mono ?_
  rintro e w3 ⟨vD, us, D, rfl, hout, hds, hdg, hdl, E1⟩
  have hD := hds.seg hout
  have hl := hds.len
  have hsh : (∃ g c, vD = .slice (some ⟨g, 0, none⟩) D.length c ∧ D.length ≤ c ∧ c ≤ maxLen) ∨ (vD = .slice none 0 0 ∧ D = []) := by
    rcases hout.2 with ⟨rfl, h0⟩ | ⟨g, cap, cur, rfl, _, _, h1, h2, _⟩
    · exact .inr ⟨rfl, List.eq_nil_of_length_eq_zero (by omega)⟩
    · exact .inl ⟨g, cap, by rw [hl], by omega, h2⟩
  replace E := Ext.trans E (E1); replace sS := Seg.ext sS (E1)
  clear E1 hout hds hl hvd
  have dok : ∀ d ∈ D, DeedOk d := fun d h => (hdg d h).ok
  have dsm : ∀ d ∈ D, ∀ o ∈ d, o.from_.size ≤ 9223372036854775807 := fun d h => (hdg d h).sm
  clear hdg
  obtain ⟨i, hi, hil⟩ : ∃ i : Nat, wi k (D.length + 1) = i ∧ i ≤ D.length := by
    have g1 := wi_lo (k := k) (n := D.length + 1) (by omega)
    have g2 := wi_hi (k := k) (n := D.length + 1) (by omega)
    exact ⟨(wi k (D.length + 1)).toNat, by omega, by omega⟩
  have WI := fun w => within_any k (D.length + 1) w (by omega) (by omega)
  rw [hi] at WI
  have WI := hid WI
  clear hi
  -- what Serial makes
  have s1 := fun w vd h1 h2 => serial_ok (.slice a0 S.length c0) vd S D w h1 h2 oS dok dsm (by omega) (by omega)
  have s2 := fun w vd h1 h2 => serial_ok (.slice a0 S.length c0) vd S (D.take i) w h1 h2 oS (fun d h => dok d (List.mem_of_mem_take h)) (fun d h => dsm d (List.mem_of_mem_take h)) (by simp; omega) (by omega)
  have oT := ser_ok (fun d h => dok d (List.mem_of_mem_take h)) oS (ds := D.take i)
  have lT := ser_len S D (fun d h => (dok d h).hi) i
  have s3 := fun w v vd h1 h2 => serial_ok v vd (serS S (D.take i)) (D.drop i) w h1 h2 oT (fun d h => dok d (List.mem_of_mem_drop h)) (fun d h => dsm d (List.mem_of_mem_drop h)) (by simp; omega) (by omega)
  obtain ⟨q1, q2⟩ := ser_app S (D.take i) (D.drop i)
  rw [List.take_append_drop] at q1 q2
  rw [← q1] at s3
  have okk : ∀ j, StoreOk (serS S (D.take j)) := fun j => ser_ok (fun d h => dok d (List.mem_of_mem_take h)) oS
  have lkk := ser_len S D (fun d h => (dok d h).hi)
  have bl1 : (serB S (D.take i)).length ≤ 30 := by rw [serB_len]; simp; omega
  have bl2 : (serB (serS S (D.take i)) (D.drop i)).length ≤ 30 := by rw [serB_len]; simp; omega
  have e0 : serS S (D.take 0) = S := rfl
  have eN : serS S (D.take D.length) = serS S D := by rw [List.take_of_length_le (Nat.le_refl _)]
  have st : ∀ j (h : j < D.length), serS S (D.take (j + 1)) = runS (serS S (D.take j)) D[j] ∧ (serB S D)[j]? = some (runB (serS S (D.take j)) D[j]) := fun j h => ⟨(serS_take h).1, serB_at h⟩
  generalize serB (serS S (D.take i)) (D.drop i) = O2 at s3 q2 bl2
  generalize serS S (D.take i) = T at s2 s3
  generalize serB S (D.take i) = O1 at s2 q2 bl1
  have CAT := hid q2
  have S1 := hid s1
  have S2 := hid s2
  have S3 := hid s3
  have ST := hid st
  have EN := hid eN
  have E0 := hid e0
  clear s1 s2 s3 st q1 q2 eN e0 oT lT
  rcases hsh with ⟨g, c, rfl, hc1, hc2⟩ | ⟨rfl, rfl⟩
  · have T1 := hD.take hil
    have T2 : ∃ off n : Nat, (i = c ∧ off = 0 ∧ n = 0 ∨ ¬ c = i ∧ i = off ∧ n = D.length - i) ∧ SegDs w3 (.slice (some ⟨g, off, none⟩) n (c - i)) (D.drop i) := by
      by_cases h : i = c
      · refine ⟨0, 0, .inl ⟨h, rfl, rfl⟩, ?_⟩
        have e2 : D.drop i = [] := List.drop_eq_nil_of_le (by omega)
        rw [e2]
        exact SegDs.nil _ _ _ (by omega)
      · have := hD.drop hil
        rw [Nat.zero_add] at this
        exact ⟨i, _, .inr ⟨fun e => h e.symm, rfl, rfl⟩, this⟩
    obtain ⟨off, n, hoff, T2⟩ := T2
    rcases hoff with ⟨rfl, rfl, rfl⟩ | ⟨hci, rfl, rfl⟩
    all_goals
      try rw [Nat.sub_self] at T2
      go_wp2_with fail
      refine (WI.out _).mono ?_
      rintro e w' ⟨rfl, rfl⟩
      clear WI
      go_wp2_with fail
      refine (S1.out _ _ sS hD).mono ?_
      rintro e w4 ⟨vx, vo, rfl, hX, hO, E1⟩
      clear S1
      have sX := own_seg hX
      have sO := own_seg hO
      obtain ⟨ax, cx, rfl⟩ := own_form hX
      obtain ⟨ao, co, rfl⟩ := own_form hO
      replace E := Ext.trans E (E1); replace sS := Seg.ext sS (E1)
      replace hD := hD.ext E1
      replace T1 := T1.ext E1
      replace T2 := T2.ext E1
      clear E1 hX hO
      have hi1 : (i : Int) ≤ (D.length : Int) := by omega
      have hi2 := Int.ofNat_le.2 (Nat.le_trans hil hc1)
      go_wp2_with fail
      refine (S2.out _ _ sS T1).mono ?_
      rintro e w5 ⟨va, v1, rfl, hA, hO1, E1⟩
      clear S2
      have sA := own_seg hA
      have sO1 := own_seg hO1
      obtain ⟨aa, ca, rfl⟩ := own_form hA
      obtain ⟨a1, c1, rfl⟩ := own_form hO1
      replace E := Ext.trans E (E1); replace sS := Seg.ext sS (E1); replace sX := Seg.ext sX (E1); replace sO := Seg.ext sO (E1)
      replace hD := hD.ext E1
      replace T2 := T2.ext E1
      clear E1 hA hO1 T1
      go_wp2_with fail
      refine (S3.out _ _ _ sA T2).mono ?_
      rintro e w6 ⟨vb, v2, rfl, hB, hO2, E1⟩
      clear S3
      have sB := own_seg hB
      have sO2 := own_seg hO2
      obtain ⟨ab, cb, rfl⟩ := own_form hB
      obtain ⟨a2, c2, rfl⟩ := own_form hO2
      replace E := Ext.trans E (E1); replace sS := Seg.ext sS (E1); replace sX := Seg.ext sX (E1); replace sO := Seg.ext sO (E1); replace sO1 := Seg.ext sO1 (E1)
      replace hD := hD.ext E1
      clear E1 hB hO2 T2 sA
      go_wp2_with fail
      refine (equal_Pair _ _ _ _ _ sB sX).mono ?_
      rw [eqP_same]
      rintro e w7 ⟨rfl, d1, rfl⟩
      have E1 := (Ext.refl w6).drewN d1
      replace E := Ext.trans E (E1); replace sS := Seg.ext sS (E1); replace sX := Seg.ext sX (E1); replace sO := Seg.ext sO (E1); replace sO1 := Seg.ext sO1 (E1); replace sO2 := Seg.ext sO2 (E1)
      replace hD := hD.ext E1
      clear E1 sB
      generalize w6.drewN d1 = w7 at E sS sX sO sO1 sO2 hD ⊢
      go_wp2_with fail
      have bN := heap_alloc_new w7 (.cells #[.slice a1 O1.length c1, .slice a2 O2.length c2] 71)
      have E1 := (Ext.refl w7).alloc (.cells #[.slice a1 O1.length c1, .slice a2 O2.length c2] 71)
      replace E := Ext.trans E (E1); replace sS := Seg.ext sS (E1); replace sX := Seg.ext sX (E1); replace sO := Seg.ext sO (E1); replace sO1 := Seg.ext sO1 (E1); replace sO2 := Seg.ext sO2 (E1)
      replace hD := hD.ext E1
      clear E1
      generalize w7.heap.size = bb at bN ⊢
      generalize w7.alloc (.cells #[.slice a1 O1.length c1, .slice a2 O2.length c2] 71) = w8 at E sS sX sO sO1 sO2 hD bN ⊢
      refine (concat2_Bool bb _ _ O1 O2 _ bN sO1 sO2 (by omega)).mono ?_
      rw [← CAT.out]
      rintro e w9 ⟨vc, rfl, hC, E1⟩
      have sC := own_seg hC
      obtain ⟨a5, c5, rfl⟩ := own_form hC
      replace E := Ext.trans E (E1); replace sS := Seg.ext sS (E1); replace sX := Seg.ext sX (E1); replace sO := Seg.ext sO (E1)
      replace hD := hD.ext E1
      clear E1 hC sO1 sO2 bN CAT
      go_wp2_with fail
      refine (equal_Bool _ _ _ _ _ sC sO).mono ?_
      rw [eqB_same]
      rintro e w10 ⟨rfl, d2, rfl⟩
      have E1 := (Ext.refl w9).drewN d2
      replace E := Ext.trans E (E1); replace sS := Seg.ext sS (E1); replace sX := Seg.ext sX (E1); replace sO := Seg.ext sO (E1)
      replace hD := hD.ext E1
      clear E1 sC
      generalize w9.drewN d2 = w10 at E sS sX sO hD ⊢
      have hD0 := hid hD
      clear hD hi1 hi2
      go_wp2_with fail
      go_loopw [7, 18, 19, 20, 21, 22, 86, 91] (fun s _ _ _ _ _ i _ wr => ∃ j : Nat, j ≤ D.length ∧ i = .int .i64 j ∧ Seg wr s 2 (serS S (D.take j)).length (cP (serS S (D.take j))) ∧ Ext w10 wr) (fun _ _ _ _ _ _ i _ _ => D.length - (intOf i).toNat)
      case atStart => exact ⟨0, Nat.zero_le _, rfl, by rw [E0.out]; exact sS, Ext.refl _⟩
      case round =>
        obtain ⟨j, hj, rfl, hs, Er⟩ := hrel
        obtain ⟨a9, c9, rfl⟩ := seg_form hs
        by_cases hlt : j < D.length
        · obtain ⟨aD, cD, eD, _, _, hcell⟩ := hD0.out.form
          obtain ⟨b, off, eb, hcc⟩ := hcell (by omega)
          injection eD with eD1 _ eD3
          rw [← eD1] at eb
          injection eb with eb; injection eb with eb1 eb2
          subst eb1; subst eb2
          clear eD1 eD3 hcell
          obtain ⟨au, cu, c0, hd⟩ := hcc j D[j] (List.getElem?_eq_getElem hlt)
          replace c0 := Er.cell c0
          replace hd := hd.ext Er
          rw [Nat.zero_add] at c0
          obtain ⟨t1, t2⟩ := ST.out j hlt
          obtain ⟨bo, oo, rfl, _, _, _, hco⟩ := seg_cells sO (by rw [serB_len]; omega)
          have o0 := Er.cell (hco j (.bool (runB (serS S (D.take j)) D[j])) (by simp [cB, t2]))
          have hjO : j < (serB S D).length := by rw [serB_len]; exact hlt
          have dk := dok _ (List.getElem_mem hlt)
          have fk := dsm _ (List.getElem_mem hlt)
          have ok' := okk j
          have lk := lkk j
          clear hcc hco t2
          generalize D[j] = d at c0 hd t1 o0 dk fk
          obtain ⟨W, hW, E8, b8, b81, b82, b83, b84⟩ := new_set wr 52 (.slice none 0 0) (.slice au d.length cu)
          have o1 := E8.cell o0
          have K := krun_ok (.slice a9 (serS S (D.take j)).length c9) (.slice au d.length cu) (serS S (D.take j)) d W (hs.ext E8) (hd.ext E8) ok' dk fk (by omega)
          rw [← t1] at K
          generalize runB (serS S (D.take j)) d = rb at o0 o1 K
          have K := hid K
          have hrb : (rb != rb) = false := by simp
          clear t1
          go_wp2_with fail
          refine (K.out).mono ?_
          rintro e w12 ⟨v', rfl, ho, E2⟩
          have o2 := E2.cell o1
          go_wp2
          go_roundw
          case rel => exact ⟨j + 1, by omega, by go_num, own_seg ho, (Er.trans E8).trans E2⟩
          case measure => simp [intOf]; omega
        · obtain rfl : j = D.length := by omega
          rw [EN.out] at hs
          have sX' := sX.ext Er
          clear sX
          go_wp2_with fail
          refine (equal_Pair _ _ _ _ _ hs sX').mono ?_
          rw [eqP_same]
          rintro e w13 ⟨rfl, d3, rfl⟩
          go_wp2
          go_ret
          exact ⟨rfl, (E.trans Er).drewN d3⟩
  · obtain rfl : i = 0 := by simpa using hil
    have T1 : SegDs w3 (.slice none 0 0) (List.take 0 ([] : List Ops)) := SegDs.nil _ _ _ (by simp [maxLen])
    have T2 : SegDs w3 (.slice none 0 0) (List.drop 0 ([] : List Ops)) := SegDs.nil _ _ _ (by simp [maxLen])
    go_wp2_with fail
    refine (WI.out _).mono ?_
    rintro e w' ⟨rfl, rfl⟩
    clear WI
    go_wp2_with fail
    refine (S1.out _ _ sS hD).mono ?_
    rintro e w4 ⟨vx, vo, rfl, hX, hO, E1⟩
    clear S1
    have sX := own_seg hX
    have sO := own_seg hO
    obtain ⟨ax, cx, rfl⟩ := own_form hX
    obtain ⟨ao, co, rfl⟩ := own_form hO
    replace E := Ext.trans E (E1); replace sS := Seg.ext sS (E1)
    replace hD := hD.ext E1
    replace T1 := T1.ext E1
    replace T2 := T2.ext E1
    clear E1 hX hO
    go_wp2_with fail
    refine (S2.out _ _ sS T1).mono ?_
    rintro e w5 ⟨va, v1, rfl, hA, hO1, E1⟩
    clear S2
    have sA := own_seg hA
    have sO1 := own_seg hO1
    obtain ⟨aa, ca, rfl⟩ := own_form hA
    obtain ⟨a1, c1, rfl⟩ := own_form hO1
    replace E := Ext.trans E (E1); replace sS := Seg.ext sS (E1); replace sX := Seg.ext sX (E1); replace sO := Seg.ext sO (E1)
    replace hD := hD.ext E1
    replace T2 := T2.ext E1
    clear E1 hA hO1 T1
    go_wp2_with fail
    refine (S3.out _ _ _ sA T2).mono ?_
    rintro e w6 ⟨vb, v2, rfl, hB, hO2, E1⟩
    clear S3
    have sB := own_seg hB
    have sO2 := own_seg hO2
    obtain ⟨ab, cb, rfl⟩ := own_form hB
    obtain ⟨a2, c2, rfl⟩ := own_form hO2
    replace E := Ext.trans E (E1); replace sS := Seg.ext sS (E1); replace sX := Seg.ext sX (E1); replace sO := Seg.ext sO (E1); replace sO1 := Seg.ext sO1 (E1)
    replace hD := hD.ext E1
    clear E1 hB hO2 T2 sA
    go_wp2_with fail
    refine (equal_Pair _ _ _ _ _ sB sX).mono ?_
    rw [eqP_same]
    rintro e w7 ⟨rfl, d1, rfl⟩
    have E1 := (Ext.refl w6).drewN d1
    replace E := Ext.trans E (E1); replace sS := Seg.ext sS (E1); replace sX := Seg.ext sX (E1); replace sO := Seg.ext sO (E1); replace sO1 := Seg.ext sO1 (E1); replace sO2 := Seg.ext sO2 (E1)
    replace hD := hD.ext E1
    clear E1 sB
    generalize w6.drewN d1 = w7 at E sS sX sO sO1 sO2 hD ⊢
    go_wp2_with fail
    have bN := heap_alloc_new w7 (.cells #[.slice a1 O1.length c1, .slice a2 O2.length c2] 71)
    have E1 := (Ext.refl w7).alloc (.cells #[.slice a1 O1.length c1, .slice a2 O2.length c2] 71)
    replace E := Ext.trans E (E1); replace sS := Seg.ext sS (E1); replace sX := Seg.ext sX (E1); replace sO := Seg.ext sO (E1); replace sO1 := Seg.ext sO1 (E1); replace sO2 := Seg.ext sO2 (E1)
    replace hD := hD.ext E1
    clear E1
    generalize w7.heap.size = bb at bN ⊢
    generalize w7.alloc (.cells #[.slice a1 O1.length c1, .slice a2 O2.length c2] 71) = w8 at E sS sX sO sO1 sO2 hD bN ⊢
    refine (concat2_Bool bb _ _ O1 O2 _ bN sO1 sO2 (by omega)).mono ?_
    rw [← CAT.out]
    rintro e w9 ⟨vc, rfl, hC, E1⟩
    have sC := own_seg hC
    obtain ⟨a5, c5, rfl⟩ := own_form hC
    replace E := Ext.trans E (E1); replace sS := Seg.ext sS (E1); replace sX := Seg.ext sX (E1); replace sO := Seg.ext sO (E1)
    replace hD := hD.ext E1
    clear E1 hC sO1 sO2 bN CAT
    go_wp2_with fail
    refine (equal_Bool _ _ _ _ _ sC sO).mono ?_
    rw [eqB_same]
    rintro e w10 ⟨rfl, d2, rfl⟩
    have E1 := (Ext.refl w9).drewN d2
    replace E := Ext.trans E (E1); replace sS := Seg.ext sS (E1); replace sX := Seg.ext sX (E1); replace sO := Seg.ext sO (E1)
    replace hD := hD.ext E1
    clear E1 sC
    generalize w9.drewN d2 = w10 at E sS sX sO hD ⊢
    have hD0 := hid hD
    clear hD
    go_wp2_with fail
    go_loopw [7, 18, 19, 20, 21, 22, 86, 91] (fun s _ _ _ _ _ i _ wr => ∃ j : Nat, j ≤ 0 ∧ i = .int .i64 j ∧ Seg wr s 2 (serS S (List.take j ([] : List Ops))).length (cP (serS S (List.take j ([] : List Ops)))) ∧ Ext w10 wr) (fun _ _ _ _ _ _ i _ _ => 0 - (intOf i).toNat)
    case atStart => exact ⟨0, Nat.zero_le _, rfl, by rw [E0.out]; exact sS, Ext.refl _⟩
    case round =>
      obtain ⟨j, hj, rfl, hs, Er⟩ := hrel
      obtain ⟨a9, c9, rfl⟩ := seg_form hs
      obtain rfl : j = 0 := by simpa using hj
      replace hs : Seg wr (.slice a9 (serS S []).length c9) 2 (serS S []).length (cP (serS S [])) := hs
      have sX' := sX.ext Er
      go_wp2_with fail
      refine (equal_Pair _ _ _ _ _ hs sX').mono ?_
      rw [eqP_same]
      rintro e w13 ⟨rfl, d3, rfl⟩
      go_wp2
      go_ret
      exact ⟨rfl, (E.trans Er).drewN d3⟩
end Go.Proofs.Ytijcckhkofkenaa
