/- Contracts and lemmas for the proof of MergePlays; each theorem states its own conditions. -/
import Derived.Test.YtddghaoejnbkaaaDoorQMergePlaysbe
import Derived.Test.YtddghaoejnbkaaaDoorQMergePlaysap
import Derived.Test.YtddghaoejnbkaaaDoorQMergePlaysah
import Derived.Test.YtddghaoejnbkaaaDoorQMergePlaysaq
import Derived.WalkLawsBesides
import Derived.Carry
set_option linter.unusedVariables false
set_option linter.unusedSimpArgs false
/- Contracts and lemmas for the proofs of this seat; each theorem states its own conditions. -/
namespace Go.Proofs.YtddghaoejnbkaaaDoor
open Go.RowKit
theorem rmap1_any (n : Int) (w : World) : Calls Tryd.prog 46 #[.int .i64 n] w fun e w' => e = .returned (.bool (!(decide (0 ≤ n) && decide (n ≤ 3)))) ∧ Ext w w' := by
  have WI := hid (rwithin_any n 0 3 w)
  generalize (decide (0 ≤ n) && decide (n ≤ 3)) = b at WI ⊢
  go_enter Tryd.func46, Tryd.ntmps46
  go_wp2_with fail
  refine (WI.out).mono ?_
  rintro e w' ⟨rfl, rfl⟩
  go_wp2
  go_ret
  exact ⟨rfl, Ext.refl _⟩
theorem enMap1 : ∀ args w, (callFunc 46 args).run Tryd.prog w = .ok (.enter 46 args) w := enters_of Tryd.func46 (by kernel_rfl) rfl
/-- the key ahead of the k-th one -/
def prevS (C : List ByteArray) (k : Nat) : ByteArray := if k = 0 then ⟨#[]⟩ else C.getD (k - 1) ⟨#[]⟩
theorem prevS_succ {C : List ByteArray} {k : Nat} (h : k < C.length) : prevS C (k + 1) = C[k] := by simp [prevS, h]
theorem blt_empty {s : ByteArray} (h : keyB s = true) : blt ⟨#[]⟩ s = true := by
  have h1 : ¬ s.toList = [] := by simp [keyB] at h; simpa using h.1.1
  unfold blt
  cases e : s.toList with
  | nil => exact absurd e h1
  | cons a l =>
    have : (⟨#[]⟩ : ByteArray).toList = [] := by rw [toList_data]
    rw [this]; rfl
theorem cut_prev {C : List ByteArray} {k : Nat} (h : k < C.length) : cutOk C k = (keyB C[k] && blt (prevS C k) C[k]) := by
  cases hk : keyB C[k] with
  | false => rw [cutOk_key h hk]; rfl
  | true =>
    cases k with
    | zero => rw [cutOk_zero h hk]; simp [prevS, blt_empty hk]
    | succ k =>
      rw [prevS_succ (show k < C.length by omega)]
      cases hb : blt (C[k]'(by omega)) C[k + 1] with
      | false => rw [cutOk_lt h hb]; rfl
      | true => rw [cutOk_yes h hk hb]; rfl
theorem own_any (O : List Int) : (List.range O.length).all (ownOk O) = !(O.any fun n => !(decide (0 ≤ n) && decide (n ≤ 3))) := by
  rw [Bool.eq_iff_iff]
  simp only [List.all_eq_true, List.mem_range, Bool.not_eq_true', List.any_eq_false]
  constructor
  · intro h x hx
    obtain ⟨i, hi, rfl⟩ := List.mem_iff_getElem.1 hx
    have := h i hi
    simp [ownOk, hi] at this
    simp; omega
  · intro h i hi
    have := h O[i] (List.getElem_mem hi)
    simp at this
    simp [ownOk, hi]; omega
theorem allTo_snoc {p : Nat → Bool} {k : Nat} (h : allTo p k) (hk : p k = true) : allTo p (k + 1) := fun j hj => by
  rcases Nat.lt_or_ge j k with h' | h'
  · exact h j h'
  · have : j = k := by omega
    subst this; exact hk
set_option maxRecDepth 10000 in
set_option maxHeartbeats 1000000 in
theorem rmap_any (v : Value) (C : List ByteArray) (O : List Int) (w : World) (hv : IsMap w v C O) (hk : ∀ k ∈ C, k.size ≤ 9223372036854775807) :
    Calls Tryd.prog 35 #[v] w fun e w' => e = .returned (.int .i64 (mapErr C O)) ∧ Ext w w' := by
  obtain ⟨a1, k1, a2, k2, rfl, m1, m2⟩ := hv.unpack
  have b0 := heap_alloc_new w (.cells #[.slice a1 C.length k1, .slice a2 O.length k2] 39)
  have E0 := (Ext.refl w).alloc (.cells #[.slice a1 C.length k1, .slice a2 O.length k2] 39)
  have x := blk2 b0
  have l1 : C.length ≤ 9223372036854775807 := by obtain ⟨_, _, _, e, h1, h2, _⟩ := m1; injection e with _ _ e3; subst e3; unfold maxLen at h2; omega
  have l2 : O.length ≤ 9223372036854775807 := by obtain ⟨_, _, _, e, h1, h2, _⟩ := m2; injection e with _ _ e3; subst e3; unfold maxLen at h2; omega
  have M1 := hid m1
  have M2 := hid m2
  have B0 := hid b0
  clear m1 m2 hv b0
  by_cases h12 : 12 < C.length
  · have q : ((C.length : Int) > 12) := by omega
    go_enter Tryd.func35, Tryd.ntmps35
    go_wp2
    go_ret
    exact ⟨rI (mapErr_2 h12).symm, E0⟩
  have q12 : ¬ ((C.length : Int) > 12) := by omega
  by_cases hl : O.length = C.length + 1
  case neg =>
    have q : (((O.length : Int) - (C.length : Int)) != 1) = true := by simp; omega
    have hr := hid (mapErr_3 h12 hl)
    go_enter Tryd.func35, Tryd.ntmps35
    go_wp2
    go_ret
    exact ⟨rI hr.out.symm, E0⟩
  have q : (((O.length : Int) - (C.length : Int)) != 1) = false := by simp; omega
  have HL := hid hl
  clear hl
  go_enter Tryd.func35, Tryd.ntmps35
  go_wp2_with fail
  go_loopw [3, 5, 21] (fun lv _ iv wr => ∃ k : Nat, k ≤ C.length ∧ iv = .int .i64 k ∧ lv = .string (prevS C k) ∧ allTo (cutOk C) k ∧ Ext (w.alloc (.cells #[.slice a1 C.length k1, .slice a2 O.length k2] 39)) wr) (fun _ _ iv _ => C.length - (intOf iv).toNat)
  case atStart => exact ⟨0, Nat.zero_le _, rfl, rfl, fun j h => absurd h (by omega), Ext.refl _⟩
  case round =>
    obtain ⟨wo, rfl⟩ : ∃ wo : World, wo = wr := ⟨_, rfl⟩
    obtain ⟨k, hk', rfl, rfl, hall, E⟩ := hrel
    have HA := hid hall
    clear hall
    by_cases hlt : k < C.length
    · obtain ⟨b, off, rfl, _, n1, n2, hc⟩ := seg_cells M1.out (by omega)
      have c0 := E.cell (E0.cell (hc k _ (cS_at0 C k hlt)))
      have hsz := hk _ (List.getElem_mem hlt)
      have RK := hid (rkey_any C[k] wo hsz)
      have hcp := hid (cut_prev hlt)
      have hps := hid (prevS_succ hlt)
      unfold maxLen at n2
      generalize prevS C k = lst at hcp ⊢
      generalize C[k] = key at c0 RK hcp hps hsz
      cases hkb : keyB key with
      | false =>
        rw [hkb] at RK hcp
        have RK2 := hid RK.out
        have hr := hid (mapErr_cut h12 HL.out hlt (show cutOk C k = false by rw [hcp.out]; rfl))
        go_wp2_with fail
        refine (RK2.out).mono ?_
        rintro e w' ⟨rfl, E'⟩
        go_wp2
        go_ret
        exact ⟨rI hr.out.symm, E0.trans (E.trans E')⟩
      | true =>
        rw [hkb] at RK hcp
        have RK2 := hid RK.out
        cases hb : blt lst key with
        | false =>
          have hr := hid (mapErr_cut h12 HL.out hlt (show cutOk C k = false by rw [hcp.out, hb]; rfl))
          cases hb2 : blt key lst with
          | true =>
            have hb3 : Op.bytesLess key.toList lst.toList = true := hb2
            clear hb hb2
            go_wp2_with fail
            refine (RK2.out).mono ?_
            rintro e w' ⟨rfl, E'⟩
            go_wp2
            go_ret
            exact ⟨rI hr.out.symm, E0.trans (E.trans E')⟩
          | false =>
            have hb3 : Op.bytesLess key.toList lst.toList = false := hb2
            have hb4 : (key.toList == lst.toList) = true := by
              rcases bl_tri key.toList lst.toList with h | h | h
              · rw [hb3] at h; cases h
              · simpa using h
              · have h' : blt lst key = true := h
                rw [hb] at h'; cases h'
            have hb5 : key.toList = lst.toList := by simpa using hb4
            clear hb hb2
            go_wp2_with fail
            refine (RK2.out).mono ?_
            rintro e w' ⟨rfl, E'⟩
            go_wp2
            go_ret
            exact ⟨rI hr.out.symm, E0.trans (E.trans E')⟩
        | true =>
          have hb3 : Op.bytesLess key.toList lst.toList = false := blt_asymm hb
          have hb4 : (key.toList == lst.toList) = false := by
            cases h : (key.toList == lst.toList) with
            | false => rfl
            | true =>
              have h' : key = lst := toList_inj (by simpa using h)
              rw [h', blt_irrefl] at hb; cases hb
          have hb5 : ¬ key.toList = lst.toList := by simpa using hb4
          have hst := hid (show cutOk C k = true by rw [hcp.out, hb]; rfl)
          go_wp2_with fail
          refine (RK2.out).mono ?_
          rintro e w' ⟨rfl, E'⟩
          go_wp2
          go_roundw
          case rel => exact ⟨k + 1, by omega, by go_num, by rw [hps.out], allTo_snoc HA.out hst.out, E.trans E'⟩
          case measure => simp [intOf] <;> omega
    · obtain rfl : k = C.length := by omega
      have xx := blk2 (E.heap B0.out)
      have CF := hid (containsF_Int 46 #[] enMap1 (fun n => !(decide (0 ≤ n) && decide (n ≤ 3))) (.slice a2 O.length k2) O wo ((M2.out.ext E0).ext E) (fun x _ w' _ => rmap1_any x w'))
      have ho := hid (own_any O)
      have hr := hid (show mapErr C O = if (O.any fun n => !(decide (0 ≤ n) && decide (n ≤ 3))) = true then 1 else 0 by
        unfold mapErr
        rw [if_neg h12, if_neg (by simp [HL.out]), if_pos (all_true HA.out), own_any]
        cases (O.any fun n => !(decide (0 ≤ n) && decide (n ≤ 3))) <;> rfl)
      generalize (O.any fun n => !(decide (0 ≤ n) && decide (n ≤ 3))) = ob at CF ho hr
      go_wp2_with fail
      refine (CF.out).mono ?_
      rintro e w' ⟨rfl, E'⟩
      cases ob with
      | true =>
        go_wp2
        go_ret
        exact ⟨rI (by rw [hr.out]; rfl), E0.trans (E.trans E')⟩
      | false =>
        go_wp2
        go_ret
        exact ⟨rI (by rw [hr.out]; rfl), E0.trans (E.trans E')⟩
end Go.Proofs.YtddghaoejnbkaaaDoor

/- Contracts and lemmas for the proofs of this seat; each theorem states its own conditions. -/
namespace Go.Proofs.YtddghaoejnbkaaaDoor
open Go.RowKit Go.Maps
/-! maps of texts to numbers: m[k] -/
section
variable {P : Program} (w : World) {ops : Array Oper} {rest : List Oper} {o : Oper} {a : Act} {Q : Exit → Act → World → Prop}
end
end Go.Proofs.YtddghaoejnbkaaaDoor

/- Contracts and lemmas for the proofs of this seat; each theorem states its own conditions. -/
namespace Go.Proofs.YtddghaoejnbkaaaDoor
open Go.RowKit Go.Maps
/-! the document's Value, Store, Of -/
theorem rvalue_any (n : Int) (w : World) : Calls Tryd.prog 47 #[.int .i64 n] w fun e w' => e = .returned (.bool (valB n)) ∧ w' = w := by
  have WI := hid (rwithin_any n (-1000000000) 1000000000 w)
  have hv : (decide (-1000000000 ≤ n) && decide (n ≤ 1000000000)) = valB n := by rw [Bool.eq_iff_iff]; simp [valB]
  rw [hv] at WI
  have WI2 := hid WI.out
  clear WI hv
  go_enter Tryd.func47, Tryd.ntmps47
  go_wp2_with fail
  refine (WI2.out).mono ?_
  rintro e w' ⟨rfl, rfl⟩
  go_wp2
  go_ret
  exact ⟨rfl, rfl⟩
end Go.Proofs.YtddghaoejnbkaaaDoor

/- Contracts and lemmas for the proofs of this seat; each theorem states its own conditions. -/
namespace Go.Proofs.YtddghaoejnbkaaaDoor
open Go.RowKit
/-! the document's Store -/
end Go.Proofs.YtddghaoejnbkaaaDoor
