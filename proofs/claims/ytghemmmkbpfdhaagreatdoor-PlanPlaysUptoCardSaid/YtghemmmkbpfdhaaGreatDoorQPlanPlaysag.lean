/- Contracts and lemmas for the proof of PlanPlays; each theorem states its own conditions. -/
import Derived.Test.YtghemmmkbpfdhaaGreatDoorQPlanPlaysaf
set_option linter.unusedVariables false
set_option linter.unusedSimpArgs false
/- Contracts and lemmas for the proofs of this seat; each theorem states its own conditions. -/
namespace Go.Proofs.YtghemmmkbpfdhaaGreatDoor
open Go.RowKit Go.Shelf
/-- strings compared -/
def cmpB (a b : ByteArray) : Int := if blt a b then -1 else if a = b then 0 else 1
theorem cmpL : ∀ x y : List UInt8, Lib.compareBytes x y = if Op.bytesLess x y then -1 else if x = y then 0 else 1
  | [], [] => rfl
  | [], _ :: _ => rfl
  | _ :: _, [] => by simp [Lib.compareBytes, Op.bytesLess]
  | a :: x, b :: y => by
    have ih := cmpL x y
    simp only [Lib.compareBytes, Op.bytesLess]
    by_cases h1 : a < b
    · simp [h1]
    · by_cases h2 : b < a
      · have hne : a ≠ b := by rintro rfl; exact h1 h2
        simp [h1, h2, hne]
      · have he : a = b := by
          rw [u8_lt] at h1 h2
          exact u8_eq.2 (by omega)
        subst he
        simp [ih, UInt8.lt_irrefl]
theorem cmp_eq (a b : ByteArray) : Lib.compareBytes a.data.toList b.data.toList = cmpB a b := by
  rw [cmpL, ← toList_data, ← toList_data]
  unfold cmpB blt
  have : (a.toList = b.toList) = (a = b) := propext ⟨toList_inj, fun h => by rw [h]⟩
  simp only [this]
theorem compare_any (a b : ByteArray) (w : World) : Calls Tryz.prog 128 #[.string a, .string b] w fun e w' => e = .returned (.int .i64 (cmpB a b)) ∧ w = w' := by
  have := Any.strings_Compare lays106 a b w
  rw [cmp_eq] at this
  exact this.mono fun _ _ ⟨h1, h2⟩ => ⟨h1, h2.symm⟩
theorem findc_any (p : ByteArray × Int) (key : ByteArray) (w : World) : Calls Tryz.prog 127 #[.agg #[.string p.1, .int .i64 p.2], .string key] w fun e w' => e = .returned (.int .i64 (cmpB p.1 key)) ∧ Ext w w' := by
  go_enter Tryz.func127, Tryz.ntmps127
  go_wp2_with fail
  refine (compare_any _ _ _).mono ?_
  rintro e w' ⟨rfl, rfl⟩
  go_wp2
  go_ret
  exact ⟨rfl, by (repeat (first | (with_reducible assumption) | (with_reducible exact Ext.refl _) | (with_reducible refine Ext.drew ?_) | (with_reducible refine Ext.drewN ?_ _) | (with_reducible refine Ext.alloc ?_ _) | (with_reducible refine Ext.trans ?_ (by with_reducible assumption))))⟩
theorem cmpB_lt {a b : ByteArray} (h : blt a b = true) : cmpB a b = -1 := by simp [cmpB, h]
theorem cmpB_ge {a b : ByteArray} (h : blt a b = false) : 0 ≤ cmpB a b := by
  unfold cmpB; rw [if_neg (by simp [h])]; split <;> decide
theorem cmpB_zero {a b : ByteArray} (h : blt a b = false) : (cmpB a b == 0) = (a.toList == b.toList) := by
  by_cases e : a = b
  · subst e; simp [cmpB, h]
  · have : (a.toList == b.toList) = false := by
      simp; exact fun h => e (toList_inj h)
    rw [this]; simp [cmpB, h, e]
set_option maxRecDepth 10000 in
set_option maxHeartbeats 1000000 in
theorem bsearchP_any (v : Value) (l : Prs) (t : ByteArray) (w : World) (hv : Seg w v 2 l.length (cP l)) (hd : dropsB (bltAt (keysP l) t) l.length) (hn : l.length < 1000000000) :
    Calls Tryz.prog 126 #[v, .string t, .func (.func 127) #[] #[]] w fun e w' => ∃ i : Nat, cutAt (bltAt (keysP l) t) l.length i ∧ e = .returned (.tuple #[.int .i64 i, .bool (hitS (keysP l) t i)]) ∧ Ext w w' := by
  obtain ⟨h0, a, cap, rfl, h1, h2, h3⟩ := hv
  unfold maxLen at h2
  go_enter Tryz.func126, Tryz.ntmps126
  go_wp2
  go_loopw [9, 10, 11] (fun x y _ wr => ∃ i j : Nat, x = .int .i64 i ∧ y = .int .i64 j ∧ bsInv (bltAt (keysP l) t) l.length i j ∧ Ext w wr) (fun x y _ _ => (intOf y).toNat - (intOf x).toNat)
  case atStart => exact ⟨0, l.length, rfl, rfl, bsInv_start _ _, Ext.refl _⟩
  case round =>
    obtain ⟨i, j, rfl, rfl, hinv, E⟩ := hrel
    have hij := hinv.1
    have hjn := hinv.2.1
    by_cases hlt : i < j
    · obtain ⟨b, off, rfl, hc⟩ := h3 (by omega)
      have c := seg_pair hc (show (i + j) / 2 < l.length by omega)
      have c0 := E.cell c.1
      have c1 := E.cell c.2
      clear hc h3 c
      have he : bltAt (keysP l) t ((i + j) / 2) = blt (l[(i + j) / 2]'(by omega)).1 t := by rw [bltAt, keysP_at (by omega)]
      cases hb : blt (l[(i + j) / 2]'(by omega)).1 t with
      | true =>
        have hs := bsInv_up hd hinv hlt (by rw [he, hb])
        have q := cmpB_lt hb
        clear he
        go_wp2_with fail
        refine (findc_any (l[(i + j) / 2]'(by omega)) t _).mono ?_
        rw [q]
        rintro e w' ⟨rfl, E2⟩
        clear q
        go_wp2
        go_roundw
        case rel => exact ⟨(i + j) / 2 + 1, j, by go_num, rfl, hs, by (repeat (first | (with_reducible assumption) | (with_reducible exact Ext.refl _) | (with_reducible refine Ext.drew ?_) | (with_reducible refine Ext.drewN ?_ _) | (with_reducible refine Ext.alloc ?_ _) | (with_reducible refine Ext.trans ?_ (by with_reducible assumption))))⟩
        case measure => simp [intOf]; omega
      | false =>
        have hs := bsInv_down hd hinv hlt (by rw [he, hb])
        have q := cmpB_ge hb
        clear he
        go_wp2_with fail
        refine (findc_any (l[(i + j) / 2]'(by omega)) t _).mono ?_
        generalize cmpB (l[(i + j) / 2]'(by omega)).1 t = n at q ⊢
        rintro e w' ⟨rfl, E2⟩
        go_wp2
        go_roundw
        case rel => exact ⟨i, (i + j) / 2, rfl, by go_num, hs, by (repeat (first | (with_reducible assumption) | (with_reducible exact Ext.refl _) | (with_reducible refine Ext.drew ?_) | (with_reducible refine Ext.drewN ?_ _) | (with_reducible refine Ext.alloc ?_ _) | (with_reducible refine Ext.trans ?_ (by with_reducible assumption))))⟩
        case measure => simp [intOf]; omega
    · obtain rfl : i = j := by omega
      by_cases hin : i < l.length
      · obtain ⟨b, off, rfl, hc⟩ := h3 (by omega)
        have c := seg_pair hc hin
        have c0 := E.cell c.1
        have c1 := E.cell c.2
        clear hc h3 c
        have hf : blt l[i].1 t = false := by
          have := hinv.2.2.2 i (Nat.le_refl _) hin
          rwa [bltAt, keysP_at hin] at this
        have hq : hitS (keysP l) t i = (cmpB l[i].1 t == 0) := by
          rw [hitS_eq (by rw [keysP_len]; exact hin), cmpB_zero hf, keysP_get]
        have HQ := hid hq
        clear hq
        go_wp2_with fail
        refine (findc_any l[i] t _).mono ?_
        generalize cmpB l[i].1 t = n at HQ ⊢
        rintro e w' ⟨rfl, E2⟩
        go_wp2
        all_goals (
          go_ret2
          exact ⟨i, bsInv_end hinv, rT2 rfl (vB (by rw [HQ.out]; try simp_all)), by (repeat (first | (with_reducible assumption) | (with_reducible exact Ext.refl _) | (with_reducible refine Ext.drew ?_) | (with_reducible refine Ext.drewN ?_ _) | (with_reducible refine Ext.alloc ?_ _) | (with_reducible refine Ext.trans ?_ (by with_reducible assumption))))⟩)
      · have HQ := hid (hitS_out (ks := keysP l) (t := t) (i := i) (by rw [keysP_len]; exact hin))
        go_wp2
        go_ret2
        exact ⟨i, bsInv_end hinv, rT2 rfl (vB HQ.out.symm), E⟩
set_option maxRecDepth 10000 in
theorem sfind_any (v : Value) (l : Prs) (t : ByteArray) (w : World) (hv : Seg w v 2 l.length (cP l)) (hs : srtP l) (hn : l.length < 1000000000) :
    Calls Tryz.prog 85 #[v, .string t] w fun e w' => ∃ i : Nat, cutAt (bltAt (keysP l) t) l.length i ∧ e = .returned (.tuple #[.int .i64 i, .bool (hitS (keysP l) t i)]) ∧ Ext w w' := by
  have hd := dropsB_blt (srtP_keys hs) t
  rw [keysP_len] at hd
  go_enter Tryz.func85, Tryz.ntmps85
  go_wp2_with fail
  refine (bsearchP_any v l t _ hv hd hn).mono ?_
  rintro e w' ⟨i, hc, rfl, E⟩
  go_wp2
  go_ret2
  exact ⟨i, hc, rfl, E⟩
theorem hit_lt {ks : List ByteArray} {t : ByteArray} {i : Nat} (h : hitS ks t i = true) : i < ks.length := by
  simp only [hitS, Bool.and_eq_true, decide_eq_true_eq] at h; exact h.1
theorem sat_any (v : Value) (l : Prs) (t : ByteArray) (w : World) (hv : Seg w v 2 l.length (cP l)) (hs : srtP l) (hn : l.length < 1000000000) :
    Calls Tryz.prog 54 #[v, .string t] w fun e w' => e = .returned (.int .i64 (valP l t)) ∧ Ext w w' := by
  obtain ⟨h0, a, cap, rfl, h1, h2, h3⟩ := hv
  have hv : Seg w (.slice a l.length cap) 2 l.length (cP l) := ⟨h0, a, cap, rfl, h1, h2, h3⟩
  unfold maxLen at h2
  go_enter Tryz.func54, Tryz.ntmps54
  go_wp2_with fail
  refine (sfind_any _ l t _ hv hs hn).mono ?_
  rintro e w' ⟨i, hc, rfl, E⟩
  have hval := val_cut hs hc
  cases hh : hitS (keysP l) t i with
  | true =>
    have hi := hit_lt hh
    rw [keysP_len] at hi
    rw [dif_pos hi, if_pos hh] at hval
    have HV := hid hval
    obtain ⟨b, off, rfl, hcc⟩ := h3 (by omega)
    have c1 := E.cell (seg_pair hcc hi).2
    clear hval hcc h3
    go_wp2
    go_ret
    exact ⟨rI HV.out.symm, E⟩
  | false =>
    have hv0 : valP l t = 0 := by rw [hval]; split <;> simp [hh]
    have HV := hid hv0
    clear hval hv0
    go_wp2
    go_ret
    exact ⟨rI HV.out.symm, E⟩
end Go.Proofs.YtghemmmkbpfdhaaGreatDoor
