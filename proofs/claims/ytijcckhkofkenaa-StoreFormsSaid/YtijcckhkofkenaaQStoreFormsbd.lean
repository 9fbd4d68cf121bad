/- Contracts and lemmas for the proof of StoreForms; each theorem states its own conditions. -/
import Derived.Test.YtijcckhkofkenaaQStoreFormsbb
import Derived.Test.YtijcckhkofkenaaQStoreFormsav
import Derived.Test.YtijcckhkofkenaaQStoreFormsaz
import Derived.Test.YtijcckhkofkenaaQStoreFormsau
import Derived.BigCall
import Derived.BigGuard
import Derived.Test.YtijcckhkofkenaaQStoreFormsbc
import Derived.Test.YtijcckhkofkenaaQStoreFormsat
set_option linter.unusedVariables false
set_option linter.unusedSimpArgs false
/- Contracts and lemmas for the proofs of this seat; each theorem states its own conditions. -/
namespace Go.Proofs.Ytijcckhkofkenaa
open Go.RowKit
/-! deeds in a row, opened; parts of them -/
theorem SegDs.form {w : World} {v : Value} {D : List Ops} (h : SegDs w v D) : ∃ a c, v = .slice a D.length c ∧ D.length ≤ c ∧ c ≤ maxLen ∧
    (0 < D.length → ∃ b off, a = some ⟨b, off, none⟩ ∧ ∀ (j : Nat) (d : Ops), D[j]? = some d → ∃ au cu, w.cell? ⟨b, off + j, none⟩ = some (.slice au d.length cu) ∧ Seg w (.slice au d.length cu) 4 d.length (cO d)) := by
  obtain ⟨vs, h1, ⟨_, a, c, rfl, h2, h3, h4⟩, h5⟩ := h
  refine ⟨a, c, by rw [h1], by omega, h3, fun h0 => ?_⟩
  obtain ⟨b, off, rfl, h6⟩ := h4 (by omega)
  refine ⟨b, off, rfl, fun j d hd => ?_⟩
  have hj := (List.getElem?_eq_some_iff.1 hd).1
  have hs := h5 j (vs[j]'(by omega)) d (List.getElem?_eq_getElem _) hd
  obtain ⟨au, cu, e⟩ := seg_form hs
  have hc := h6 j (vs[j]'(by omega)) (List.getElem?_eq_getElem _)
  rw [e] at hs hc
  exact ⟨au, cu, hc, hs⟩
theorem SegDs.mk' {w : World} {b off c : Nat} {D : List Ops} (hc : D.length ≤ c) (hm : c ≤ maxLen) (h : ∀ (j : Nat) (d : Ops), D[j]? = some d → ∃ au cu, w.cell? ⟨b, off + j, none⟩ = some (.slice au d.length cu) ∧ Seg w (.slice au d.length cu) 4 d.length (cO d)) : SegDs w (.slice (some ⟨b, off, none⟩) D.length c) D := by
  have each : ∀ j, j < D.length → ∃ u : Value, w.cell? ⟨b, off + j, none⟩ = some u ∧ Seg w u 4 (D.getD j []).length (cO (D.getD j [])) := fun j hj => by
    obtain ⟨au, cu, h1, h2⟩ := h j D[j] (List.getElem?_eq_getElem hj)
    refine ⟨_, h1, ?_⟩
    simp [hj]; exact h2
  have : ∃ f : Nat → Value, ∀ j, j < D.length → w.cell? ⟨b, off + j, none⟩ = some (f j) ∧ Seg w (f j) 4 (D.getD j []).length (cO (D.getD j [])) := by
    refine ⟨fun j => if hj : j < D.length then Classical.choose (each j hj) else .bool false, fun j hj => ?_⟩
    simp only [hj, dif_pos]
    exact Classical.choose_spec (each j hj)
  obtain ⟨f, hf⟩ := this
  refine ⟨(List.range D.length).map f, by simp, ⟨by simp, some ⟨b, off, none⟩, c, by simp, by simpa using hc, hm, fun _ => ⟨b, off, rfl, fun j u hu => ?_⟩⟩, fun i u d hu hd => ?_⟩
  · obtain ⟨hj, e⟩ := List.getElem?_eq_some_iff.1 hu
    simp at hj e
    subst e
    exact (hf j hj).1
  · obtain ⟨hj, e⟩ := List.getElem?_eq_some_iff.1 hu
    obtain ⟨hj', e'⟩ := List.getElem?_eq_some_iff.1 hd
    simp at hj e
    subst e; subst e'
    have := (hf i hj).2
    simpa [hj'] using this
theorem SegDs.take {w : World} {b off c k : Nat} {D : List Ops} (h : SegDs w (.slice (some ⟨b, off, none⟩) D.length c) D) (hk : k ≤ D.length) : SegDs w (.slice (some ⟨b, off, none⟩) k c) (D.take k) := by
  obtain ⟨a', c', e, h1, h2, h3⟩ := h.form
  injection e with e1 e2 e3
  subst e1; subst e3
  have hl : (D.take k).length = k := by rw [List.length_take]; omega
  have := SegDs.mk' (w := w) (b := b) (off := off) (c := c) (D := D.take k) (by omega) h2 (fun j d hd => by
    have hj := (List.getElem?_eq_some_iff.1 hd).1
    rw [List.getElem?_take, if_pos (by omega)] at hd
    obtain ⟨b', off', e, h4⟩ := h3 (by omega)
    injection e with e; injection e with e1 e2
    subst e1; subst e2
    exact h4 j d hd)
  rwa [hl] at this
theorem SegDs.drop {w : World} {b off c k : Nat} {D : List Ops} (h : SegDs w (.slice (some ⟨b, off, none⟩) D.length c) D) (hk : k ≤ D.length) : SegDs w (.slice (some ⟨b, off + k, none⟩) (D.length - k) (c - k)) (D.drop k) := by
  obtain ⟨a', c', e, h1, h2, h3⟩ := h.form
  injection e with e1 e2 e3
  subst e1; subst e3
  have hl : (D.drop k).length = D.length - k := by rw [List.length_drop]
  have := SegDs.mk' (w := w) (b := b) (off := off + k) (c := c - k) (D := D.drop k) (by omega) (by omega) (fun j d hd => by
    have hj := (List.getElem?_eq_some_iff.1 hd).1
    rw [List.getElem?_drop] at hd
    obtain ⟨b', off', e, h4⟩ := h3 (by omega)
    injection e with e; injection e with e1 e2
    subst e1; subst e2
    rw [Nat.add_assoc]
    exact h4 (k + j) d hd)
  rwa [hl] at this
theorem SegDs.nil (w : World) (a : Option Addr) (c : Nat) (hc : c ≤ maxLen) : SegDs w (.slice a 0 c) [] := ⟨[], rfl, ⟨rfl, a, c, rfl, Nat.zero_le _, hc, fun h => absurd h (by simp)⟩, fun i u d h => by simp at h⟩
theorem one_slice (a a' : Option Addr) (n c n' c' : Nat) : ∀ u ∈ [Value.slice a n c, .slice a' n' c'], u.oneCell' = true := by
  intro u hu; simp at hu; rcases hu with rfl | rfl <;> rfl
theorem seg_2 {w : World} {b : Nat} {u v : Value} {t : TypeId} (h : w.heap[b]? = some (.cells #[u, v] t (0, 0))) : Seg w (.slice (some ⟨b, 0, none⟩) 2 2) 1 2 [u, v] :=
  seg_blk (xs := [u, v]) h rfl (Nat.le_refl _) (by simp [maxLen])
theorem concat2_Bool (b : Nat) (u v : Value) (x y : List Bool) (w : World) (h : w.heap[b]? = some (.cells #[u, v] 71 (0, 0))) (hu : Seg w u 1 x.length (cB x)) (hv : Seg w v 1 y.length (cB y)) (hn : x.length + y.length ≤ 1000000000) :
    Calls Try.prog 72 #[.slice (some ⟨b, 0, none⟩) 2 2] w fun e w' => ∃ v', e = .returned v' ∧ w'.ownsRow w.heap.size 4 1 v' (x ++ y).length (cB (x ++ y)) ∧ Ext w w' := by
  have := concat_Bool _ [u, v] [(x.length, cB x), (y.length, cB y)] w (seg_2 h) (Nat.le_refl _) (Nat.le_refl _) (fun i a p ha hp => by
    match i, ha, hp with
    | 0, ha, hp => simp at ha hp; subst ha; subst hp; exact hu
    | 1, ha, hp => simp at ha hp; subst ha; subst hp; exact hv) (by intro p hp; simp at hp; rcases hp with rfl | rfl <;> exact cB_one _) (by simp [totN]; omega)
  have e1 : totN [(x.length, cB x), (y.length, cB y)] = (x ++ y).length := by simp [totN]
  have e2 : totC [(x.length, cB x), (y.length, cB y)] = cB (x ++ y) := by simp [totC, cB_app]
  rw [e1, e2] at this
  exact this
end Go.Proofs.Ytijcckhkofkenaa

/- Contracts and lemmas for the proofs of this seat; each theorem states its own conditions. -/
namespace Go.Proofs.Ytijcckhkofkenaa
open Go.RowKit
/-- what the row tells of a slice of slices of numbers, as mine -/
theorem segll_of_rows {w : World} {base : Nat} {x : Addr} {len cap : Nat} {A : Nat → Option Addr} {L C : Nat → Nat} {Z : Nat → List Int} (hl : len ≤ cap) (hm : cap ≤ maxLen)
    (h : ∀ r, r < cap → w.cell? (x.add r) = some (.slice (A r) (L r) (C r)) ∧ L r ≤ C r ∧ C r ≤ maxLen ∧ (Z r).length = C r ∧ (∀ n ∈ Z r, (Lit.int .i64 n).wf = true) ∧ (A r = none → C r = 0) ∧
        ∀ a', A r = some a' → base ≤ a'.block ∧ ∀ c, c < C r → w.cell? (a'.add c) = some (.int .i64 ((Z r).getD c 0))) :
    ∃ ls : List (List Int), SegLL w (.slice (some x) len cap) ls ∧ ls.length = len ∧ ∀ l ∈ ls, ∀ z ∈ l, -9223372036854775808 ≤ z ∧ z ≤ 9223372036854775807 := by
  have row : ∀ r, r < cap → Seg w (.slice (A r) (L r) (C r)) 1 ((Z r).take (L r)).length (cI ((Z r).take (L r))) ∧ ∀ z ∈ (Z r).take (L r), -9223372036854775808 ≤ z ∧ z ≤ 9223372036854775807 := fun r hr => by
    obtain ⟨h1, h2, h3, h4, h5, h6, h7⟩ := h r hr
    have hrow := seg_of_row (w := w) (a := A r) (len := L r) (cap := C r) (zs := Z r) (by
      cases ha : A r with
      | none =>
        have := h6 ha
        left
        exact ⟨rfl, by omega, this, List.eq_nil_of_length_eq_zero (by omega)⟩
      | some a' =>
        right
        exact ⟨a', rfl, h2, h3, h4, fun i hi => (h7 a' ha).2 i (by omega), h5⟩)
    exact ⟨hrow.1, hrow.2.1⟩
  refine ⟨(List.range len).map fun r => (Z r).take (L r), ⟨(List.range len).map fun r => .slice (A r) (L r) (C r), by simp, ⟨by simp, some x, cap, by simp, by simpa using hl, hm, fun hn => ?_⟩, fun i u m hu hm' => ?_⟩, by simp, fun l hl' z hz => ?_⟩
  · simp at hn
    have hs := cell_spot (h 0 (by omega)).1
    obtain ⟨b, off, sp⟩ := x
    have : sp = none := by simpa [Addr.add] using hs
    subst this
    refine ⟨b, off, rfl, fun j u hu => ?_⟩
    rw [← addr_add]
    obtain ⟨hj, e⟩ := List.getElem?_eq_some_iff.1 hu
    simp at hj e
    subst e
    exact (h j (by omega)).1
  · obtain ⟨hj, e⟩ := List.getElem?_eq_some_iff.1 hu
    obtain ⟨_, e'⟩ := List.getElem?_eq_some_iff.1 hm'
    simp at hj e e'
    subst e; subst e'
    exact (row i (by omega)).1
  · simp at hl'
    obtain ⟨r, hr, rfl⟩ := hl'
    exact (row r (by omega)).2 z hz
theorem segll_nil (w : World) : SegLL w (.slice none 0 0) [] := ⟨[], rfl, Seg.nil _ _, fun i u m h => by simp at h⟩
theorem seg_rows {w : World} {a : Option Addr} {len cap : Nat} {zs : List Int} (h : (a = none ∧ len = 0 ∧ cap = 0 ∧ zs = []) ∨
    ∃ x, a = some x ∧ len ≤ cap ∧ cap ≤ maxLen ∧ zs.length = cap ∧ (∀ i, i < zs.length → w.cell? (x.add i) = some (.int .i64 (zs.getD i 0))) ∧ ∀ n ∈ zs, (Lit.int .i64 n).wf = true) :
    ∃ l : List Int, Seg w (.slice a len cap) 1 l.length (cI l) ∧ ∀ z ∈ l, -9223372036854775808 ≤ z ∧ z ≤ 9223372036854775807 := ⟨_, (seg_of_row h).1, (seg_of_row h).2.1⟩
end Go.Proofs.Ytijcckhkofkenaa

/- Contracts and lemmas for the proofs of this seat; each theorem states its own conditions. -/
namespace Go.Proofs.Ytijcckhkofkenaa
open Go.RowKit
set_option maxRecDepth 10000 in
theorem kept_any (v : Value) (Y : Prs) (w : World) (sY : Seg w v 2 Y.length (cP Y)) (oY : StoreOk Y) (hl : Y.length ≤ 1000) :
    Calls Try.prog 74 #[v] w fun e w' => e = .returned (.bool true) ∧ Ext w w' := by
  go_enter Try.func74, Try.ntmps74
  go_wp2_with fail
  refine (scheck_any _ Y _ sY (store_small oY)).mono ?_
  rw [storeErr_ok oY]
  rintro e w14 ⟨rfl, E14⟩
  go_wp2
  go_ret
  exact ⟨rfl, E14⟩
set_option maxRecDepth 100000 in
set_option maxHeartbeats 2000000 in
theorem forms_walk (v v2 vd : Value) (l m : List Int) (ls : List (List Int)) (k n : Int) (w : World) (hv : Seg w v 1 l.length (cI l)) (hb : ∀ z ∈ l, -9223372036854775808 ≤ z ∧ z ≤ 9223372036854775807)
    (hv2 : Seg w v2 1 m.length (cI m)) (hb2 : ∀ z ∈ m, -9223372036854775808 ≤ z ∧ z ≤ 9223372036854775807) (hvd : SegLL w vd ls) :
    Calls Try.prog 17 #[v, v2, vd, .int .i64 k, .int .i64 n] w fun e w' => e = .returned (.bool true) ∧ Ext w w' := by
  have ka := keyOf_is k
  have g1 := wi_lo (k := n) (n := 9) (by omega)
  have g2 := wi_hi (k := n) (n := 9) (by omega)
  obtain ⟨i, hi, hil⟩ : ∃ i : Nat, wi n 4 = i ∧ i < 4 := by
    have g1 := wi_lo (k := n) (n := 4) (by omega)
    have g2 := wi_hi (k := n) (n := 4) (by omega)
    exact ⟨(wi n 4).toNat, by omega, by omega⟩
  have WI := fun w => within_any n 4 w (by omega) (by omega)
  rw [hi] at WI
  have WI := hid WI
  clear hi
  go_enter Try.func17, Try.ntmps17
  go_wp2_with fail
  refine (storeBegun_any _).mono ?_
  rintro e w1 ⟨rfl, E⟩
  replace hv := hv.ext E
  replace hv2 := hv2.ext E
  replace hvd := hvd.ext E
  go_wp2_with fail
  refine (pairs_any _ l _ hv hb).mono ?_
  rintro e w2 ⟨vs, S, rfl, oS, lS, hS, E1⟩
  have sS := own_seg hS
  obtain ⟨a0, c0, rfl⟩ := own_form hS
  replace E := E.trans E1
  replace hv2 := hv2.ext E1
  replace hvd := hvd.ext E1
  clear E1 hS hv
  go_wp2_with fail
  refine (kKey_any _ _).mono ?_
  rintro e w3 ⟨rfl, E3⟩
  generalize keyOf k = p at ka ⊢
  go_wp2_with fail
  refine (within_any _ _ _ (by omega) (by omega)).mono ?_
  rintro e w' ⟨rfl, rfl⟩
  have vx : valB (wi n 9 - 4) = true := valB_iff.2 (by omega)
  replace E := E.trans E3
  replace sS := sS.ext E3
  replace hv2 := hv2.ext E3
  replace hvd := hvd.ext E3
  clear E3
  go_wp2_with fail
  generalize wi n 9 - 4 = x at vx ⊢
  clear g1 g2
  have bx := valB_iff.1 vx
  have oX := storeOk_with oS ka.1 bx
  have lX := with_len S p x
  refine (put_ok _ S p x _ sS (store_small oS) ka.2 (by omega) oS ka.1 vx).mono ?_
  rintro e w5 ⟨v5, rfl, ho, E5⟩
  have sX := own_seg ho
  obtain ⟨a5, c5, rfl⟩ := own_form ho
  replace sS := sS.ext E5
  replace hv2 := hv2.ext E5
  replace hvd := hvd.ext E5
  replace E := E.trans E5
  clear ho E5
  generalize withP S p x = X at oX lX sX ⊢
  go_wp2_with fail
  refine (kMap_any _ m _ hv2 hb2).mono ?_
  rintro e w6 ⟨vm, rfl, om, E1⟩
  have hm := om.is
  have mok := mk_ok m
  have msm := mk_small m
  generalize mkC m 6 = C at hm mok msm
  generalize mkO m 6 = O at hm mok
  obtain ⟨am, km, ao, ko, rfl, _, _⟩ := hm.unpack
  replace sS := sS.ext E1
  replace sX := sX.ext E1
  replace hvd := hvd.ext E1
  replace E := E.trans E1
  clear om E1 hv2
  go_wp2_with fail
  refine (WI.out _).mono ?_
  rintro e w' ⟨rfl, rfl⟩
  clear WI
  have oP : StoreOk (partP C O S i) := storeOk_filter oS _
  have lP : (partP C O S i).length ≤ S.length := List.length_filter_le _ _
  go_wp2_with fail
  refine (part_ok (.agg #[.slice am C.length km, .slice ao O.length ko]) (.slice a0 S.length c0) C O S i _ hm mok msm sS oS (by omega) (by omega) (by omega)).mono ?_
  rintro e w7 ⟨v7, rfl, o7, E7⟩
  generalize partP C O S i = P at oP lP o7
  have sP := own_seg o7
  obtain ⟨a7, c7, rfl⟩ := own_form o7
  replace sS := sS.ext E7
  replace sX := sX.ext E7
  replace hvd := hvd.ext E7
  replace E := E.trans E7
  clear o7 E7 hm mok msm
  go_wp2_with fail
  refine (deeds_any _ ls 10 _ hvd (by omega)).mono ?_
  rintro e w8 ⟨vD, us, D, rfl, hout, hds, hdg, hdl, E1⟩
  have hD := hds.seg hout
  obtain ⟨aD, cD, rfl⟩ := own_form hout
  have hl := hds.len
  rw [hl] at hD
  simp only [hl]
  clear hl
  replace sS := sS.ext E1
  replace sX := sX.ext E1
  replace sP := sP.ext E1
  replace E := E.trans E1
  clear E1 hout hds hvd
  have dok : ∀ d ∈ D, DeedOk d := fun d h => (hdg d h).ok
  have dsm : ∀ d ∈ D, ∀ o ∈ d, o.from_.size ≤ 9223372036854775807 := fun d h => (hdg d h).sm
  clear hdg
  go_wp2_with fail
  have oT := ser_ok dok oS
  have lT := ser_len S D (fun d h => (dok d h).hi) D.length
  rw [List.take_of_length_le (Nat.le_refl _)] at lT
  refine (serial_ok (.slice a0 S.length c0) _ S D _ sS hD oS dok dsm (by omega) (by omega)).mono ?_
  rintro e w9 ⟨v9, vo, rfl, hZ, hO, E9⟩
  have sZ := own_seg hZ
  obtain ⟨a9, c9, rfl⟩ := own_form hZ
  generalize serS S D = Z at oT lT sZ
  replace sX := sX.ext E9
  replace sP := sP.ext E9
  replace E := E.trans E9
  clear E9 hZ hO sS hD dok dsm
  go_wp2_with fail
  refine (kept_any _ X _ sX oX (by omega)).mono ?_
  rintro e w10 ⟨rfl, E1⟩
  go_wp2_with fail
  refine (kept_any _ P _ (sP.ext E1) oP (by omega)).mono ?_
  rintro e w11 ⟨rfl, E2⟩
  go_wp2_with fail
  refine (kept_any _ Z _ ((sZ.ext E1).ext E2) oT (by omega)).mono ?_
  rintro e w12 ⟨rfl, E3⟩
  go_wp2
  go_ret
  exact ⟨rfl, ((E.trans E1).trans E2).trans E3⟩
end Go.Proofs.Ytijcckhkofkenaa
