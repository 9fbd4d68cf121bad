/- Contracts and lemmas for the proofs of this seat; each theorem states its own conditions. -/
import Derived.Test.YtijcckhkofkenaaLStorePuts
namespace Go.Proofs.Ytijcckhkofkenaa
open Go.RowKit
theorem scan_len' (l : Prs) (f t : ByteArray) : (scanP l f t).length ≤ l.length := List.length_filter_le _ _
theorem scan_apart {l m : Prs} (hl : StoreOk l) (hm : StoreOk m) {c : ByteArray} (hc : c.toList ≠ []) : apartB (scanP l ⟨#[]⟩ c) (scanP m c ⟨#[]⟩) = true := by
  refine apart_of (scan_ok' hm _ _).srt (scan_ok' hm _ _).nz fun k hk => ?_
  rw [val_scan hm.srt] at hk
  rw [val_scan hl.srt]
  split at hk
  · rename_i h
    rw [if_neg]
    intro h'
    simp only [inB, Bool.and_eq_true, Bool.or_eq_true, Bool.not_eq_true'] at h h'
    rcases h'.2 with e | e
    · simp at e; exact hc e
    · rw [h.1] at e; cases e
  · exact absurd rfl hk
theorem tot_bd' {l : Prs} (h : StoreOk l) : -1000000000 * (l.length : Int) ≤ totTo l ∧ totTo l ≤ 1000000000 * (l.length : Int) := by
  have := tot_bd (fun p hp => (h.val p hp).2) l.length (Nat.le_refl _)
  rwa [List.take_of_length_le (Nat.le_refl _)] at this
theorem joinE_there {l : Prs} (h : StoreOk l) {k : ByteArray} (hk : keyB k = true) (hv : valP l k ≠ 0) : joinE l [(k, 1)] = 5 := by
  have h1 : storeErr [(k, (1 : Int))] = 0 := storeErr_ok ⟨by simpa using hk, by simp, by simp [srtP]⟩
  have h2 : apartB l [(k, 1)] = false := by simp [apartB, hv]
  simp [joinE, storeErr_ok h, h1, h2]
def abL : Prs := [(⟨#[97]⟩, 3), (⟨#[98]⟩, -1)]
theorem abL_ok : storeErr abL = 0 := by decide +kernel
theorem abL_tot : totTo abL = 2 := by decide +kernel
set_option maxRecDepth 100000 in
set_option maxHeartbeats 2000000 in
theorem totals_walk (v v2 : Value) (l l2 : List Int) (k : Int) (w : World) (hv : Seg w v 1 l.length (cI l)) (hb : ∀ z ∈ l, -9223372036854775808 ≤ z ∧ z ≤ 9223372036854775807)
    (hv2 : Seg w v2 1 l2.length (cI l2)) (hb2 : ∀ z ∈ l2, -9223372036854775808 ≤ z ∧ z ≤ 9223372036854775807) :
    Calls Try.prog 12 #[v, v2, .int .i64 k] w fun e w' => e = .returned (.bool true) ∧ Ext w w' := by
  have bA := heap_alloc_new w (.cells (cP abL).toArray 90)
  have E := (Ext.refl w).alloc (.cells (cP abL).toArray 90)
  have sA := seg_blk (xs := cP abL) (sz := 2) (n := 2) (c := 2) bA rfl (Nat.le_refl _) (by simp [maxLen])
  replace hv := hv.ext E
  replace hv2 := hv2.ext E
  have T0 := total_ok _ abL _ sA (by decide +kernel) (by decide) abL_ok
  rw [abL_tot] at T0
  have T0 := hid T0
  clear bA sA
  go_enter Try.func12, Try.ntmps12
  go_wp2_with fail
  refine (T0.out).mono ?_
  rintro e w1 ⟨rfl, E1⟩
  clear T0
  replace E := Ext.trans E (E1)
  replace hv := hv.ext E1
  replace hv2 := hv2.ext E1
  clear E1
  go_wp2_with fail
  refine (pairs_any _ l _ hv hb).mono ?_
  rintro e w2 ⟨vs, S, rfl, oS, lS, hS, E1⟩
  have sS := own_seg hS
  obtain ⟨a0, c0, rfl⟩ := own_form hS
  replace E := Ext.trans E (E1)
  replace hv2 := hv2.ext E1
  clear E1 hS
  go_wp2_with fail
  refine (scan_ok _ S _ _ _ sS (store_small oS) (by omega) (storeErr_ok oS)).mono ?_
  rintro e w3 ⟨vx, rfl, hX, E1⟩
  have sX := own_seg hX
  obtain ⟨a1, c1, rfl⟩ := own_form hX
  replace E := Ext.trans E (E1); replace sS := Seg.ext sS (E1)
  replace hv2 := hv2.ext E1
  clear E1 hX
  go_wp2_with fail
  refine (pairs_any _ l2 _ hv2 hb2).mono ?_
  rintro e w4 ⟨vs2, S2, rfl, oS2, lS2, hS2, E1⟩
  have sS2 := own_seg hS2
  obtain ⟨a2, c2, rfl⟩ := own_form hS2
  replace E := Ext.trans E (E1); replace sS := Seg.ext sS (E1); replace sX := Seg.ext sX (E1)
  clear E1 hS2 hv2 hv
  go_wp2_with fail
  refine (scan_ok _ S2 _ _ _ sS2 (store_small oS2) (by omega) (storeErr_ok oS2)).mono ?_
  rintro e w5 ⟨vy, rfl, hY, E1⟩
  have sY := own_seg hY
  obtain ⟨a3, c3, rfl⟩ := own_form hY
  replace E := Ext.trans E (E1); replace sS := Seg.ext sS (E1); replace sX := Seg.ext sX (E1)
  clear E1 hY sS2
  have ap := scan_apart oS oS2 (c := ⟨#[99]⟩) (by rw [toList_data]; decide)
  have oX := scan_ok' oS ⟨#[]⟩ ⟨#[99]⟩
  have oY := scan_ok' oS2 ⟨#[99]⟩ ⟨#[]⟩
  have lX := scan_len' S ⟨#[]⟩ ⟨#[99]⟩
  have lY := scan_len' S2 ⟨#[99]⟩ ⟨#[]⟩
  generalize scanP S ⟨#[]⟩ ⟨#[99]⟩ = X at ap oX lX sX ⊢
  generalize scanP S2 ⟨#[99]⟩ ⟨#[]⟩ = Y at ap oY lY sY ⊢
  have ap2 := apart_symm oX.srt oX.nz ap
  have cm := join_comm oX oY ap
  have tt := tot_join oX oY ap
  have oJ := join_okS oX oY
  have lJ := join_len X Y
  have t1 := tot_bd' oX
  have t2 := tot_bd' oY
  have J1 := fun w h1 h2 => join_ok (.slice a1 X.length c1) (.slice a3 Y.length c3) X Y w h1 h2 oX oY (by omega) ap
  have J2 := fun w h1 h2 => join_ok (.slice a3 Y.length c3) (.slice a1 X.length c1) Y X w h1 h2 oY oX (by omega) ap2
  rw [← cm] at J2
  have J1 := hid J1
  have J2 := hid J2
  have TT := hid tt
  clear tt cm ap ap2
  generalize joinP X Y = J at J1 J2 TT oJ lJ
  go_wp2_with fail
  refine (J1.out _ sX sY).mono ?_
  rintro e w6 ⟨vj, rfl, hJ, E1⟩
  have sJ := own_seg hJ
  obtain ⟨a4, c4, rfl⟩ := own_form hJ
  replace E := Ext.trans E (E1); replace sS := Seg.ext sS (E1); replace sX := Seg.ext sX (E1); replace sY := Seg.ext sY (E1)
  clear E1 hJ J1
  go_wp2_with fail
  refine (J2.out _ sY sX).mono ?_
  rintro e w7 ⟨vi, rfl, hI, E1⟩
  have sI := own_seg hI
  obtain ⟨a5, c5, rfl⟩ := own_form hI
  replace E := Ext.trans E (E1); replace sS := Seg.ext sS (E1); replace sX := Seg.ext sX (E1); replace sY := Seg.ext sY (E1); replace sJ := Seg.ext sJ (E1)
  clear E1 hI J2
  go_wp2_with fail
  refine (total_ok _ X _ sX (store_small oX) (by omega) (storeErr_ok oX)).mono ?_
  rintro e w8 ⟨rfl, E1⟩
  replace E := Ext.trans E (E1); replace sS := Seg.ext sS (E1); replace sY := Seg.ext sY (E1); replace sJ := Seg.ext sJ (E1); replace sI := Seg.ext sI (E1)
  clear E1 sX
  go_wp2_with fail
  refine (total_ok _ Y _ sY (store_small oY) (by omega) (storeErr_ok oY)).mono ?_
  rintro e w9 ⟨rfl, E1⟩
  replace E := Ext.trans E (E1); replace sS := Seg.ext sS (E1); replace sJ := Seg.ext sJ (E1); replace sI := Seg.ext sI (E1)
  clear E1 sY
  go_wp2_with fail
  refine (total_ok _ J _ sJ (store_small oJ) (by omega) (storeErr_ok oJ)).mono ?_
  rw [TT.out]
  rintro e w10 ⟨rfl, E1⟩
  replace E := Ext.trans E (E1); replace sS := Seg.ext sS (E1); replace sJ := Seg.ext sJ (E1); replace sI := Seg.ext sI (E1)
  clear E1 TT
  generalize totTo X = n at t1 ⊢
  generalize totTo Y = m at t2 ⊢
  go_wp2_with fail
  have bL := heap_alloc_new w10 (.cells #[.int .i64 0, .int .i64 0, .int .i64 0, .int .i64 0, .int .i64 0, .int .i64 0, .int .i64 0] 29)
  have E1 := (Ext.refl w10).alloc (.cells #[.int .i64 0, .int .i64 0, .int .i64 0, .int .i64 0, .int .i64 0, .int .i64 0, .int .i64 0] 29)
  replace E := Ext.trans E (E1); replace sS := Seg.ext sS (E1); replace sJ := Seg.ext sJ (E1); replace sI := Seg.ext sI (E1)
  clear E1
  generalize w10.alloc (.cells #[.int .i64 0, .int .i64 0, .int .i64 0, .int .i64 0, .int .i64 0, .int .i64 0, .int .i64 0] 29) = w12 at bL sS sJ sI E ⊢
  generalize w10.heap.size = bb at bL ⊢
  go_loopw [25, 90] (fun _ i wr => ∃ k : Nat, k ≤ 7 ∧ i = .int .i64 k ∧ Ext w12 wr) (fun _ i _ => 7 - (intOf i).toNat)
  case atStart => exact ⟨0, by omega, rfl, Ext.refl _⟩
  case round =>
    obtain ⟨j, hj, rfl, Er⟩ := hrel
    by_cases hlt : j < 7
    · have c0 : wr.cell? ⟨bb, j, none⟩ = some (.int .i64 0) := Er.cell (by
        have : j = 0 ∨ j = 1 ∨ j = 2 ∨ j = 3 ∨ j = 4 ∨ j = 5 ∨ j = 6 := by omega
        rcases this with rfl | rfl | rfl | rfl | rfl | rfl | rfl <;> simp [World.cell?, bL])
      clear bL
      go_wp2
      go_roundw
      case rel => exact ⟨j + 1, by omega, by go_num, Er⟩
      case measure => simp [intOf]; omega
    · obtain rfl : j = 7 := by omega
      clear bL
      replace E := Ext.trans E (Er); replace sS := Seg.ext sS (Er); replace sJ := Seg.ext sJ (Er); replace sI := Seg.ext sI (Er)
      clear Er
      go_wp2_with fail
      refine (equal_Pair _ _ J J _ sI sJ).mono ?_
      rw [eqP_self]
      rintro e w13 ⟨rfl, d, rfl⟩
      have E1 := (Ext.refl wr).drewN d
      replace E := Ext.trans E (E1); replace sS := Seg.ext sS (E1)
      clear E1 sI sJ
      generalize wr.drewN d = w13 at E sS ⊢
      by_cases hz : S.length = 0
      · have hz' : ((S.length : Int) == 0) = true := by simp [hz]
        clear hz
        go_wp2
        go_ret
        exact ⟨rfl, E⟩
      · have hz' : ((S.length : Int) == 0) = false := by simp [hz]
        have g1 := wi_lo (k := k) (n := S.length) (by omega)
        have g2 := wi_hi (k := k) (n := S.length) (by omega)
        obtain ⟨i, hi⟩ : ∃ i : Nat, wi k S.length = i := ⟨(wi k S.length).toNat, by omega⟩
        have hil : i < S.length := by omega
        have W := fun w => within_any k S.length w (by omega) (by omega)
        rw [hi] at W
        have W := hid W
        clear hz g1 g2 hi
        go_wp2_with fail
        refine (W.out _).mono ?_
        rintro e w' ⟨rfl, rfl⟩
        clear W
        obtain ⟨b, off, rfl, _, _, _, hc⟩ := seg_cells sS (by omega)
        have x0 := (seg_pair hc hil).1
        have kk := oS.key S[i] (List.getElem_mem hil)
        have vv : valP S S[i].1 ≠ 0 := by rw [valP_mem oS.srt (List.getElem_mem hil)]; exact (oS.val _ (List.getElem_mem hil)).1
        have jE := joinE_there oS kk vv
        have JB := join_bad (.slice (some ⟨b, off, none⟩) S.length c0) (.slice (some ⟨w13.heap.size, 0, none⟩) 1 1) S [(S[i].1, 1)] (w13.alloc (.cells #[.string S[i].1, .int .i64 1] 90)) (sS.ext ((Ext.refl _).alloc _)) (seg_blk (xs := cP [(S[i].1, 1)]) (heap_alloc_new _ _) rfl (Nat.le_refl _) (by simp [maxLen])) (store_small oS) (by have := keyB_size kk; simp; omega) (by simp; omega) (by rw [jE]; decide)
        rw [jE] at JB
        have JB := hid JB
        have E1 := (Ext.refl w13).alloc (.cells #[.string S[i].1, .int .i64 1] 90)
        clear hc kk vv jE
        go_wp2_with fail
        refine (JB.out).mono ?_
        rintro e w14 ⟨rfl, E2⟩
        go_wp2
        go_ret
        exact ⟨rfl, (E.trans E1).trans E2⟩
end Go.Proofs.Ytijcckhkofkenaa
