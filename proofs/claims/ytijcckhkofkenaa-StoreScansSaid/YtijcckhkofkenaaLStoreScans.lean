/- Contracts and lemmas for the proofs of this seat; each theorem states its own conditions. -/
import Derived.Test.YtijcckhkofkenaaLStoreTotals
import Derived.Test.YtijcckhkofkenaaCat
namespace Go.Proofs.Ytijcckhkofkenaa
open Go.RowKit
theorem join_scan {l : Prs} (h : StoreOk l) {q : ByteArray} (hq : q.toList ≠ []) : joinP (scanP l ⟨#[]⟩ q) (scanP l q ⟨#[]⟩) = l := by
  refine store_ext (join_okS (scan_ok' h _ _) (scan_ok' h _ _)) h fun k => ?_
  have e0 : (ByteArray.mk #[]).toList = [] := by rw [toList_data]
  have e1 : blt k ⟨#[]⟩ = false := by unfold blt; rw [e0]; cases k.toList <;> rfl
  rw [val_join (scan_ok' h _ _).srt (scan_ok' h _ _).srt (scan_ok' h _ _).nz, val_scan h.srt, val_scan h.srt]
  cases hb : blt k q with
  | true => simp [inB, hb, e0, e1]
  | false => simp [inB, hb, e0, e1, hq]; intro h; exact h.symm
theorem scan_none (l : Prs) (q : ByteArray) (hq : q.toList ≠ []) : scanP l q q = [] := by
  unfold scanP
  rw [List.filter_eq_nil_iff]
  intro p _ h
  simp only [inB, Bool.and_eq_true, Bool.or_eq_true, Bool.not_eq_true'] at h
  rcases h.2 with e | e
  · simp at e; exact hq e
  · rw [h.1] at e; cases e
theorem less_snoc : ∀ x y : List UInt8, Op.bytesLess x (y ++ [0]) = true → Op.bytesLess x y = true ∨ x = y
  | [], [], _ => .inr rfl
  | [], _ :: _, _ => .inl rfl
  | a :: x, [], h => by
    exfalso
    cases x with
    | nil => simp only [List.nil_append, Op.bytesLess, Bool.and_false, Bool.or_false, decide_eq_true_eq] at h; rw [u8_lt] at h; simp at h
    | cons c x => simp only [List.nil_append, Op.bytesLess, Bool.and_false, Bool.or_false, decide_eq_true_eq] at h; rw [u8_lt] at h; simp at h
  | a :: x, b :: y, h => by
    simp only [List.cons_append, Op.bytesLess, Bool.or_eq_true, Bool.and_eq_true, decide_eq_true_eq, beq_iff_eq] at h ⊢
    rcases h with h | ⟨h1, h2⟩
    · exact .inl (.inl h)
    · rcases less_snoc x y h2 with e | e
      · exact .inl (.inr ⟨h1, e⟩)
      · right; rw [h1, e]
theorem less_snoc' : ∀ y : List UInt8, Op.bytesLess y (y ++ [0]) = true
  | [] => rfl
  | b :: y => by
    simp only [List.cons_append, Op.bytesLess, Bool.or_eq_true, Bool.and_eq_true, beq_self_eq_true, true_and]
    exact .inr (less_snoc' y)
def oneP (l : Prs) (k : ByteArray) : Prs := if valP l k = 0 then [] else [(k, valP l k)]
theorem scan_one {l : Prs} (h : StoreOk l) {k t : ByteArray} (ht : t.toList = k.toList ++ [0]) : scanP l k t = oneP l k := by
  have hin : ∀ x, inB k t (x, valP l x) = decide (x = k) := fun x => by
    have h0 : t.toList.isEmpty = false := by rw [ht]; simp
    by_cases e : x = k
    · subst e
      have : blt x t = true := by unfold blt; rw [ht]; exact less_snoc' _
      simp [inB, blt_irrefl, this]
    · simp only [e, decide_false]
      cases hi : inB k t (x, valP l x) with
      | false => rfl
      | true =>
        simp only [inB, Bool.and_eq_true, Bool.or_eq_true, Bool.not_eq_true', h0] at hi
        have h1 := hi.1
        have h2 : blt x t = true := by rcases hi.2 with h | h; (cases h); exact h
        unfold blt at h1 h2
        rw [ht] at h2
        rcases less_snoc _ _ h2 with h3 | h3
        · rw [h1] at h3; cases h3
        · exact absurd (toList_inj h3) e
  unfold oneP
  split
  · rename_i hv
    refine prs_ext (scan_ok' h k t).srt srtP_nil (scan_ok' h k t).nz (by intro p hp; cases hp) fun x => ?_
    rw [val_scan h.srt, hin]
    by_cases e : x = k
    · subst e; simp [hv, valP]
    · simp [e, valP]
  · rename_i hv
    refine prs_ext (scan_ok' h k t).srt (by simp [srtP]) (scan_ok' h k t).nz (by intro p hp; simp at hp; subst hp; exact hv) fun x => ?_
    rw [val_scan h.srt, hin]
    by_cases e : x = k
    · subst e; simp [valP]
    · simp [e, valP, Ne.symm e]
def abL2 : Prs := [(⟨#[97]⟩, 1), (⟨#[98]⟩, 2)]
theorem abL2_ok : storeErr abL2 = 0 := by decide +kernel
theorem abL2_scan : (scanP abL2 ⟨#[98]⟩ ⟨#[]⟩).length = 1 := by decide +kernel
theorem seg_two {w : World} {b : Nat} {u v : Value} {t : TypeId} (h : w.heap[b]? = some (.cells #[u, v] t (0, 0))) : Seg w (.slice (some ⟨b, 0, none⟩) 2 2) 1 2 [u, v] :=
  seg_blk (xs := [u, v]) h rfl (Nat.le_refl _) (by simp [maxLen])
theorem concat2_Pair (b : Nat) (u v : Value) (x y : Prs) (w : World) (h : w.heap[b]? = some (.cells #[u, v] 82 (0, 0))) (hu : Seg w u 2 x.length (cP x)) (hv : Seg w v 2 y.length (cP y)) (hn : x.length + y.length ≤ 1000000000) :
    Calls Try.prog 66 #[.slice (some ⟨b, 0, none⟩) 2 2] w fun e w' => ∃ v', e = .returned v' ∧ w'.ownsRow w.heap.size 90 2 v' (x ++ y).length (cP (x ++ y)) ∧ Ext w w' := by
  have := concat_Pair _ [u, v] [(x.length, cP x), (y.length, cP y)] w (seg_two h) (Nat.le_refl _) (Nat.le_refl _) (fun i a p ha hp => by
    match i, ha, hp with
    | 0, ha, hp => simp at ha hp; subst ha; subst hp; exact hu
    | 1, ha, hp => simp at ha hp; subst ha; subst hp; exact hv) (by intro p hp; simp at hp; rcases hp with rfl | rfl <;> exact cP_one _) (by simp [totN]; omega)
  have e1 : totN [(x.length, cP x), (y.length, cP y)] = (x ++ y).length := by simp [totN]
  have e2 : totC [(x.length, cP x), (y.length, cP y)] = cP (x ++ y) := by simp [totC, cP_app]
  rw [e1, e2] at this
  exact this
set_option maxRecDepth 100000 in
set_option maxHeartbeats 4000000 in
theorem scans_walk (v : Value) (l : List Int) (at_ key : ByteArray) (w : World) (hv : Seg w v 1 l.length (cI l)) (hb : ∀ z ∈ l, -9223372036854775808 ≤ z ∧ z ≤ 9223372036854775807) (hks : key.size ≤ 9223372036854775807) :
    Calls Try.prog 13 #[v, .string at_, .string key] w fun e w' => e = .returned (.bool true) ∧ Ext w w' := by
  have bA := heap_alloc_new w (.cells (cP abL2).toArray 90)
  have E := (Ext.refl w).alloc (.cells (cP abL2).toArray 90)
  have sA := seg_blk (xs := cP abL2) (sz := 2) (n := 2) (c := 2) bA rfl (Nat.le_refl _) (by simp [maxLen])
  replace hv := hv.ext E
  have T0 := scan_ok _ abL2 ⟨#[98]⟩ ⟨#[]⟩ _ sA (by decide +kernel) (by decide) abL2_ok
  rw [abL2_scan] at T0
  have T0 := hid T0
  clear bA sA
  have hat : at_.toList = [] ∨ ¬ at_.toList = [] := by by_cases h : at_.toList = [] <;> simp [h]
  go_enter Try.func13, Try.ntmps13
  go_wp2_with fail
  refine (T0.out).mono ?_
  rintro e w1 ⟨v0, rfl, h0, E1⟩
  obtain ⟨a9, c9, rfl⟩ := own_form h0
  clear T0 h0
  replace E := Ext.trans E (E1)
  replace hv := hv.ext E1
  clear E1
  go_wp2_with fail
  refine (pairs_any _ l _ hv hb).mono ?_
  rintro e w2 ⟨vs, S, rfl, oS, lS, hS, E1⟩
  have sS := own_seg hS
  obtain ⟨a0, c0, rfl⟩ := own_form hS
  replace E := Ext.trans E (E1)
  clear E1 hS hv
  have q0 : (ByteArray.mk #[]).toList = [] := by rw [toList_data]
  have key2 : ∀ q : ByteArray, q.toList ≠ [] → Hid (StoreOk (scanP S ⟨#[]⟩ q) ∧ StoreOk (scanP S q ⟨#[]⟩) ∧ apartB (scanP S ⟨#[]⟩ q) (scanP S q ⟨#[]⟩) = true ∧ joinP (scanP S ⟨#[]⟩ q) (scanP S q ⟨#[]⟩) = S ∧ scanP S ⟨#[]⟩ q ++ scanP S q ⟨#[]⟩ = S ∧ scanP S q q = [] ∧ (scanP S ⟨#[]⟩ q).length ≤ 30 ∧ (scanP S q ⟨#[]⟩).length ≤ 30) := fun q hq =>
    ⟨scan_ok' oS _ _, scan_ok' oS _ _, scan_apart oS oS hq, join_scan oS hq, scan_cut oS.srt q hq, scan_none S q hq, Nat.le_trans (scan_len' _ _ _) lS, Nat.le_trans (scan_len' _ _ _) lS⟩
  have K2 := hid key2
  clear key2
  rcases hat with hat | hat
  · have hat' : at_.toList.isEmpty = true := by simp [hat]
    go_wp2_with fail
    have K3 := K2.out ⟨#[99]⟩ (by rw [toList_data]; decide)
    generalize (⟨#[99]⟩ : ByteArray) = q at K3 ⊢
    obtain ⟨oX, oY, ap, jn, cat, nn, lX, lY⟩ := K3.out
    have P1 := fun w h => scan_ok (.slice a0 S.length c0) S ⟨#[]⟩ q w h (store_small oS) (by omega) (storeErr_ok oS)
    have P2 := fun w h => scan_ok (.slice a0 S.length c0) S q ⟨#[]⟩ w h (store_small oS) (by omega) (storeErr_ok oS)
    have P3 := fun w h => scan_ok (.slice a0 S.length c0) S q q w h (store_small oS) (by omega) (storeErr_ok oS)
    rw [nn] at P3
    clear nn K2 K3
    generalize scanP S ⟨#[]⟩ q = X at oX ap jn cat lX P1
    generalize scanP S q ⟨#[]⟩ = Y at oY ap jn cat lY P2
    have P1 := hid P1
    have P2 := hid P2
    have P3 := hid P3
    have JN := hid jn
    have CAT := hid cat
    clear jn cat
    refine (P1.out _ sS).mono ?_
    rintro e w3 ⟨vx, rfl, hX, E1⟩
    have sX := own_seg hX
    obtain ⟨a1, c1, rfl⟩ := own_form hX
    replace E := Ext.trans E (E1); replace sS := Seg.ext sS (E1)
    clear E1 hX
    go_wp2_with fail
    refine (P2.out _ sS).mono ?_
    rintro e w4 ⟨vy, rfl, hY, E1⟩
    have sY := own_seg hY
    obtain ⟨a2, c2, rfl⟩ := own_form hY
    replace E := Ext.trans E (E1); replace sS := Seg.ext sS (E1); replace sX := Seg.ext sX (E1)
    clear E1 hY
    go_wp2_with fail
    refine (join_ok _ _ X Y _ sX sY oX oY (by omega) ap).mono ?_
    rw [JN.out]
    rintro e w5 ⟨vj, rfl, hJ, E1⟩
    have sJ := own_seg hJ
    obtain ⟨a3, c3, rfl⟩ := own_form hJ
    replace E := Ext.trans E (E1); replace sS := Seg.ext sS (E1); replace sX := Seg.ext sX (E1); replace sY := Seg.ext sY (E1)
    clear E1 hJ ap
    go_wp2_with fail
    refine (P3.out _ sS).mono ?_
    rintro e w6 ⟨vn, rfl, hN, E1⟩
    obtain ⟨a4, c4, rfl⟩ := own_form hN
    replace E := Ext.trans E (E1); replace sS := Seg.ext sS (E1); replace sX := Seg.ext sX (E1); replace sY := Seg.ext sY (E1); replace sJ := Seg.ext sJ (E1)
    clear E1 hN P1 P2 P3
    go_wp2_with fail
    refine (equal_Pair _ _ S S _ sJ sS).mono ?_
    rw [eqP_self]
    rintro e w7 ⟨rfl, d, rfl⟩
    have E1 := (Ext.refl w6).drewN d
    replace E := Ext.trans E (E1); replace sS := Seg.ext sS (E1); replace sX := Seg.ext sX (E1); replace sY := Seg.ext sY (E1)
    clear E1 sJ
    generalize w6.drewN d = w7 at E sS sX sY ⊢
    go_wp2_with fail
    have E1 := (Ext.refl w7).alloc (.cells #[.slice a1 X.length c1, .slice a2 Y.length c2] 82)
    replace E := Ext.trans E (E1); replace sS := Seg.ext sS (E1); replace sX := Seg.ext sX (E1); replace sY := Seg.ext sY (E1)
    have bN := heap_alloc_new w7 (.cells #[.slice a1 X.length c1, .slice a2 Y.length c2] 82)
    clear E1
    generalize w7.heap.size = bb at bN ⊢
    generalize w7.alloc (.cells #[.slice a1 X.length c1, .slice a2 Y.length c2] 82) = w8 at E sS sX sY bN ⊢
    refine (concat2_Pair bb _ _ X Y _ bN sX sY (by omega)).mono ?_
    rw [CAT.out]
    rintro e w9 ⟨vc, rfl, hC, E1⟩
    have sC := own_seg hC
    obtain ⟨a5, c5, rfl⟩ := own_form hC
    replace E := Ext.trans E (E1); replace sS := Seg.ext sS (E1)
    clear E1 hC sX sY bN JN CAT
    go_wp2_with fail
    refine (equal_Pair _ _ S S _ sC sS).mono ?_
    rw [eqP_self]
    rintro e w10 ⟨rfl, d2, rfl⟩
    have E1 := (Ext.refl w9).drewN d2
    replace E := Ext.trans E (E1); replace sS := Seg.ext sS (E1)
    clear E1 sC
    generalize w9.drewN d2 = w10 at E sS ⊢
    go_wp2_with fail
    refine (key_any _ _ hks).mono ?_
    rintro e w' ⟨rfl, rfl⟩
    cases hkb : keyB key with
    | false =>
      go_wp2
      go_ret
      exact ⟨rfl, E⟩
    | true =>
      have hk6 := keyB_size hkb
      go_wp2_with fail
      have gE : getE S key = 0 := by simp [getE, storeErr_ok oS, hkb]
      have gV : getV S key = valP S key := by simp [getV, storeErr_ok oS, hkb]
      have G := get_any (.slice a0 S.length c0) S key
      rw [gE, gV] at G
      have T := fun t w h => scan_ok (.slice a0 S.length c0) S key t w h (store_small oS) (by omega) (storeErr_ok oS)
      have T := hid T
      clear gE gV
      refine (T.out _ _ sS).mono ?_
      rw [scan_one oS (by rw [toList_data, toList_data]; simp)]
      clear T
      by_cases hz : valP S key = 0
      · rw [show oneP S key = [] from by simp [oneP, hz]]
        rw [hz] at G
        have G := hid G
        clear hz
        rintro e w11 ⟨vo, rfl, hO, E1⟩
        obtain ⟨a6, c6, rfl⟩ := own_form hO
        replace E := Ext.trans E (E1); replace sS := Seg.ext sS (E1)
        clear E1 hO
        go_wp2_with fail
        refine (G.out _ sS (store_small oS) hks (by omega)).mono ?_
        rintro e w12 ⟨rfl, E1⟩
        go_wp2
        go_ret
        exact ⟨rfl, E.trans E1⟩
      · rw [show oneP S key = [(key, valP S key)] from by simp [oneP, hz]]
        have hz' : (valP S key == 0) = false := by simp [hz]
        clear hz
        generalize valP S key = n at hz' G ⊢
        have G := hid G
        rintro e w11 ⟨vo, rfl, hO, E1⟩
        have sO := own_seg hO
        obtain ⟨a6, c6, rfl⟩ := own_form hO
        replace E := Ext.trans E (E1); replace sS := Seg.ext sS (E1)
        clear E1 hO
        go_wp2_with fail
        refine (G.out _ sS (store_small oS) hks (by omega)).mono ?_
        rintro e w12 ⟨rfl, E1⟩
        replace E := Ext.trans E (E1); replace sO := Seg.ext sO (E1)
        clear E1 G
        obtain ⟨b6, o6, rfl, _, _, _, hc6⟩ := seg_cells sO (by simp)
        have x6 := hc6 1 (.int .i64 n) rfl
        clear hc6 sO
        go_wp2
        go_ret
        exact ⟨rfl, E⟩
  · have hat' : at_.toList.isEmpty = false := by simp [hat]
    go_wp2_with fail
    have K3 := K2.out at_ hat
    clear hat hat'
    generalize at_ = q at K3 ⊢
    obtain ⟨oX, oY, ap, jn, cat, nn, lX, lY⟩ := K3.out
    have P1 := fun w h => scan_ok (.slice a0 S.length c0) S ⟨#[]⟩ q w h (store_small oS) (by omega) (storeErr_ok oS)
    have P2 := fun w h => scan_ok (.slice a0 S.length c0) S q ⟨#[]⟩ w h (store_small oS) (by omega) (storeErr_ok oS)
    have P3 := fun w h => scan_ok (.slice a0 S.length c0) S q q w h (store_small oS) (by omega) (storeErr_ok oS)
    rw [nn] at P3
    clear nn K2 K3
    generalize scanP S ⟨#[]⟩ q = X at oX ap jn cat lX P1
    generalize scanP S q ⟨#[]⟩ = Y at oY ap jn cat lY P2
    have P1 := hid P1
    have P2 := hid P2
    have P3 := hid P3
    have JN := hid jn
    have CAT := hid cat
    clear jn cat
    refine (P1.out _ sS).mono ?_
    rintro e w3 ⟨vx, rfl, hX, E1⟩
    have sX := own_seg hX
    obtain ⟨a1, c1, rfl⟩ := own_form hX
    replace E := Ext.trans E (E1); replace sS := Seg.ext sS (E1)
    clear E1 hX
    go_wp2_with fail
    refine (P2.out _ sS).mono ?_
    rintro e w4 ⟨vy, rfl, hY, E1⟩
    have sY := own_seg hY
    obtain ⟨a2, c2, rfl⟩ := own_form hY
    replace E := Ext.trans E (E1); replace sS := Seg.ext sS (E1); replace sX := Seg.ext sX (E1)
    clear E1 hY
    go_wp2_with fail
    refine (join_ok _ _ X Y _ sX sY oX oY (by omega) ap).mono ?_
    rw [JN.out]
    rintro e w5 ⟨vj, rfl, hJ, E1⟩
    have sJ := own_seg hJ
    obtain ⟨a3, c3, rfl⟩ := own_form hJ
    replace E := Ext.trans E (E1); replace sS := Seg.ext sS (E1); replace sX := Seg.ext sX (E1); replace sY := Seg.ext sY (E1)
    clear E1 hJ ap
    go_wp2_with fail
    refine (P3.out _ sS).mono ?_
    rintro e w6 ⟨vn, rfl, hN, E1⟩
    obtain ⟨a4, c4, rfl⟩ := own_form hN
    replace E := Ext.trans E (E1); replace sS := Seg.ext sS (E1); replace sX := Seg.ext sX (E1); replace sY := Seg.ext sY (E1); replace sJ := Seg.ext sJ (E1)
    clear E1 hN P1 P2 P3
    go_wp2_with fail
    refine (equal_Pair _ _ S S _ sJ sS).mono ?_
    rw [eqP_self]
    rintro e w7 ⟨rfl, d, rfl⟩
    have E1 := (Ext.refl w6).drewN d
    replace E := Ext.trans E (E1); replace sS := Seg.ext sS (E1); replace sX := Seg.ext sX (E1); replace sY := Seg.ext sY (E1)
    clear E1 sJ
    generalize w6.drewN d = w7 at E sS sX sY ⊢
    go_wp2_with fail
    have E1 := (Ext.refl w7).alloc (.cells #[.slice a1 X.length c1, .slice a2 Y.length c2] 82)
    replace E := Ext.trans E (E1); replace sS := Seg.ext sS (E1); replace sX := Seg.ext sX (E1); replace sY := Seg.ext sY (E1)
    have bN := heap_alloc_new w7 (.cells #[.slice a1 X.length c1, .slice a2 Y.length c2] 82)
    clear E1
    generalize w7.heap.size = bb at bN ⊢
    generalize w7.alloc (.cells #[.slice a1 X.length c1, .slice a2 Y.length c2] 82) = w8 at E sS sX sY bN ⊢
    refine (concat2_Pair bb _ _ X Y _ bN sX sY (by omega)).mono ?_
    rw [CAT.out]
    rintro e w9 ⟨vc, rfl, hC, E1⟩
    have sC := own_seg hC
    obtain ⟨a5, c5, rfl⟩ := own_form hC
    replace E := Ext.trans E (E1); replace sS := Seg.ext sS (E1)
    clear E1 hC sX sY bN JN CAT
    go_wp2_with fail
    refine (equal_Pair _ _ S S _ sC sS).mono ?_
    rw [eqP_self]
    rintro e w10 ⟨rfl, d2, rfl⟩
    have E1 := (Ext.refl w9).drewN d2
    replace E := Ext.trans E (E1); replace sS := Seg.ext sS (E1)
    clear E1 sC
    generalize w9.drewN d2 = w10 at E sS ⊢
    go_wp2_with fail
    refine (key_any _ _ hks).mono ?_
    rintro e w' ⟨rfl, rfl⟩
    cases hkb : keyB key with
    | false =>
      go_wp2
      go_ret
      exact ⟨rfl, E⟩
    | true =>
      have hk6 := keyB_size hkb
      go_wp2_with fail
      have gE : getE S key = 0 := by simp [getE, storeErr_ok oS, hkb]
      have gV : getV S key = valP S key := by simp [getV, storeErr_ok oS, hkb]
      have G := get_any (.slice a0 S.length c0) S key
      rw [gE, gV] at G
      have T := fun t w h => scan_ok (.slice a0 S.length c0) S key t w h (store_small oS) (by omega) (storeErr_ok oS)
      have T := hid T
      clear gE gV
      refine (T.out _ _ sS).mono ?_
      rw [scan_one oS (by rw [toList_data, toList_data]; simp)]
      clear T
      by_cases hz : valP S key = 0
      · rw [show oneP S key = [] from by simp [oneP, hz]]
        rw [hz] at G
        have G := hid G
        clear hz
        rintro e w11 ⟨vo, rfl, hO, E1⟩
        obtain ⟨a6, c6, rfl⟩ := own_form hO
        replace E := Ext.trans E (E1); replace sS := Seg.ext sS (E1)
        clear E1 hO
        go_wp2_with fail
        refine (G.out _ sS (store_small oS) hks (by omega)).mono ?_
        rintro e w12 ⟨rfl, E1⟩
        go_wp2
        go_ret
        exact ⟨rfl, E.trans E1⟩
      · rw [show oneP S key = [(key, valP S key)] from by simp [oneP, hz]]
        have hz' : (valP S key == 0) = false := by simp [hz]
        clear hz
        generalize valP S key = n at hz' G ⊢
        have G := hid G
        rintro e w11 ⟨vo, rfl, hO, E1⟩
        have sO := own_seg hO
        obtain ⟨a6, c6, rfl⟩ := own_form hO
        replace E := Ext.trans E (E1); replace sS := Seg.ext sS (E1)
        clear E1 hO
        go_wp2_with fail
        refine (G.out _ sS (store_small oS) hks (by omega)).mono ?_
        rintro e w12 ⟨rfl, E1⟩
        replace E := Ext.trans E (E1); replace sO := Seg.ext sO (E1)
        clear E1 G
        obtain ⟨b6, o6, rfl, _, _, _, hc6⟩ := seg_cells sO (by simp)
        have x6 := hc6 1 (.int .i64 n) rfl
        clear hc6 sO
        go_wp2
        go_ret
        exact ⟨rfl, E⟩
end Go.Proofs.Ytijcckhkofkenaa
