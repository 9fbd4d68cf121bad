/- Contracts and lemmas for the proof of TextEntry; each theorem states its own conditions. -/
import Derived.Test.YtnepdfpooobmcaaDoorQTextEntrybp
set_option linter.unusedVariables false
set_option linter.unusedSimpArgs false
/- Contracts and lemmas for the proofs of this seat; each theorem states its own conditions. -/
namespace Go.Proofs.YtnepdfpooobmcaaDoor
/-! a changed byte of a line, plain -/
theorem getD_set_ne (l : List UInt8) {i k : Nat} (c : UInt8) (h : k ≠ i) : (l.set i c).getD k 0 = l.getD k 0 := by
  rw [List.getD_eq_getElem?_getD, List.getD_eq_getElem?_getD, List.getElem?_set_ne (fun e => h e.symm)]
theorem getD_set_eq (l : List UInt8) {i : Nat} (c : UInt8) (h : i < l.length) : (l.set i c).getD i 0 = c := by
  rw [List.getD_eq_getElem?_getD, List.getElem?_set_self h]; rfl
theorem sb_low (l : List UInt8) (i : Nat) (c : UInt8) : ∀ k, k ≤ i → sbTo (l.set i c) k = sbTo l k
  | 0, _ => rfl
  | k + 1, h => by rw [sbTo, sbTo, sb_low l i c k (by omega), getD_set_ne l c (by omega)]
theorem sb_high (l : List UInt8) (i : Nat) (c : UInt8) (hi : i < l.length) : ∀ k, i < k → (sbTo (l.set i c) k + (i + 1) * (l.getD i 0).toNat) % 65521 = (sbTo l k + (i + 1) * c.toNat) % 65521
  | 0, h => by omega
  | k + 1, h => by
    rcases Nat.lt_or_ge i k with g | g
    · have ih := sb_high l i c hi k g
      rw [sbTo, sbTo, getD_set_ne l c (by omega)]
      generalize (k + 1) * (l.getD k 0).toNat = y
      generalize (i + 1) * (l.getD i 0).toNat = p at ih ⊢
      generalize (i + 1) * c.toNat = q at ih ⊢
      omega
    · obtain rfl : i = k := by omega
      rw [sbTo, sbTo, getD_set_eq l c hi, sb_low l i c i (Nat.le_refl _)]
      generalize (i + 1) * (l.getD i 0).toNat = p
      generalize (i + 1) * c.toNat = q
      omega
theorem noDiv : ∀ d : Fin 256, 2 ≤ d.val → 65521 % d.val ≠ 0 := by decide +kernel
theorem mul_ne {n d : Nat} (hn : 1 ≤ n) (hn2 : n ≤ 500) (hd : 1 ≤ d) (hd2 : d < 256) : n * d % 65521 ≠ 0 := by
  intro h
  have h1 : n * d ≤ 500 * 255 := Nat.mul_le_mul hn2 (by omega)
  have h0 : 1 ≤ n * d := Nat.mul_le_mul hn hd
  have e : n * d = 65521 := by omega
  rcases Nat.lt_or_ge d 2 with g | g
  · obtain rfl : d = 1 := by omega
    omega
  · refine noDiv ⟨d, hd2⟩ g ?_
    rw [← e]
    exact Nat.mul_mod_left n d
theorem sb_ne {b : List UInt8} {i : Nat} (hi : i < b.length) (hb : b.length ≤ 500) {c : UInt8} (hc : c ≠ b.getD i 0) : sbL (b.set i c) ≠ sbL b := by
  intro e
  have h := sb_high b i c hi b.length hi
  have e' : sbTo (b.set i c) b.length = sbTo b b.length := by have := e; rw [sbL, sbL, List.length_set] at this; exact this
  rw [e'] at h
  have hne : c.toNat ≠ (b.getD i 0).toNat := fun q => hc (UInt8.toNat_inj.1 q)
  have l1 := c.toNat_lt
  have l2 := (b.getD i 0).toNat_lt
  generalize hp : (b.getD i 0).toNat = p at *
  generalize hq : c.toNat = q at *
  rcases Nat.lt_or_ge p q with g | g
  · refine mul_ne (n := i + 1) (d := q - p) (by omega) (by omega) (by omega) (by omega) ?_
    rw [Nat.mul_sub]
    have : (i + 1) * p ≤ (i + 1) * q := Nat.mul_le_mul_left _ (by omega)
    generalize (i + 1) * p = x at *
    generalize (i + 1) * q = y at *
    omega
  · refine mul_ne (n := i + 1) (d := p - q) (by omega) (by omega) (by omega) (by omega) ?_
    rw [Nat.mul_sub]
    have : (i + 1) * q ≤ (i + 1) * p := Nat.mul_le_mul_left _ (by omega)
    generalize (i + 1) * p = x at *
    generalize (i + 1) * q = y at *
    omega
theorem set_cut {l : List UInt8} {i : Nat} {c : UInt8} (h : i < l.length) : l.set i c = l.take i ++ c :: l.drop (i + 1) := by
  rw [List.set_eq_take_append_cons_drop, if_pos h]
theorem first_eq {c : UInt8} {a b r s : List UInt8} (h : a ++ c :: r = b ++ c :: s) (ha : c ∉ a) (hb : c ∉ b) : a = b ∧ r = s := by
  have h1 := cutF_at r ha
  rw [h, cutF_at s hb] at h1
  injection h1 with h1; injection h1 with h1 h2
  exact ⟨h1.symm, h2.symm⟩
theorem last_eq {c : UInt8} {a b r s : List UInt8} (h : a ++ c :: r = b ++ c :: s) (hr : c ∉ r) (hs : c ∉ s) : a = b ∧ r = s := by
  have h1 := cutZ_at a hr
  rw [h, cutZ_at b hs] at h1
  injection h1 with h1; injection h1 with h1 h2
  exact ⟨h1.symm, h2.symm⟩
/-- a body that is cut behind a space: what is ahead is no body -/
theorem bod_cut {b b2 r : List UInt8} (hb : BodP b) (h2 : BodP b2) (e : b = b2 ++ 32 :: r) : False := by
  rcases hb.sp with ⟨h, _⟩ | ⟨m, hm, h⟩
  · exact h (by rw [e]; simp)
  · rw [hm, show mapW ++ m = [109, 97, 112] ++ 32 :: m from rfl] at e
    rcases h2.sp with ⟨g, gn⟩ | ⟨m2, hm2, g⟩
    · exact gn (first_eq e (by decide) g).1.symm
    · rw [hm2, show mapW ++ m2 ++ 32 :: r = [109, 97, 112] ++ 32 :: (m2 ++ 32 :: r) by simp [mapW]] at e
      have := (first_eq e (by decide) (by decide)).2
      exact h (by rw [this]; simp)
/-- the same, where more follows behind the last space -/
theorem bod_cut2 {b b2 d r : List UInt8} {c : UInt8} (hb : BodP b) (h2 : BodP b2) (hc : c ≠ 32) (hd : (32 : UInt8) ∉ d) (hr : (32 : UInt8) ∉ r) (e : b ++ c :: d = b2 ++ 32 :: r) : False := by
  rcases hb.sp with ⟨h, _⟩ | ⟨m, hm, h⟩
  · have : (32 : UInt8) ∈ b ++ c :: d := by rw [e]; simp
    simp only [List.mem_append, List.mem_cons] at this
    rcases this with q | q | q
    · exact h q
    · exact hc q.symm
    · exact hd q
  · rw [hm, show mapW ++ m ++ c :: d = [109, 97, 112] ++ 32 :: (m ++ c :: d) by simp [mapW]] at e
    have hq : (32 : UInt8) ∉ m ++ c :: d := by
      simp only [List.mem_append, List.mem_cons, not_or]
      exact ⟨h, fun q => hc q.symm, hd⟩
    have := (last_eq e hq hr).1
    rcases h2.sp with ⟨_, gn⟩ | ⟨m2, hm2, _⟩
    · exact gn this.symm
    · rw [hm2] at this; simp [mapW] at this
/-- of a line one byte of which is another one no entry is read -/
theorem lnRd_bad {b : List UInt8} (hb : BodP b) (hl : b.length ≤ 500) {i : Nat} (hi : i + 1 < (lineT b).length) {c : UInt8} (hc : c ≠ (lineT b).getD i 0) : (lnRd ((lineT b).set i c)).1 ≠ 0 := by
  intro h
  obtain ⟨b2, more, e, h2, -, hn2⟩ := lnRd_ok h
  have hn1 := itoaN_not (sbL b) 32 rfl
  have ht1 := itoaN_not (sbL b) 10 rfl
  have ht2 := itoaN_not (sbL b2) 10 rfl
  have hlen : (lineT b).length = b.length + 1 + (Lib.itoa (sbL b)).length + 1 := by simp [lineT]; omega
  have hinj : Lib.itoa (sbL b2) = Lib.itoa (sbL b) → sbL b2 = sbL b := fun q => by
    have h1 := sbL_lt b; have h2 := sbL_lt b2
    have := itoa_inj (n := (sbL b2 : Int)) (m := (sbL b : Int)) (by omega) (by omega) (by omega) (by omega) q
    omega
  have e0 : lineT b = (b ++ 32 :: Lib.itoa (sbL b)) ++ [10] := by simp [lineT]
  have e2 : lineT b2 ++ more = (b2 ++ 32 :: Lib.itoa (sbL b2)) ++ 10 :: more := by simp [lineT]
  have hnl2 : (10 : UInt8) ∉ b2 ++ 32 :: Lib.itoa (sbL b2) := by
    simp only [List.mem_append, List.mem_cons, not_or]
    exact ⟨h2.nl, by decide, ht2⟩
  have hiL : i < (b ++ 32 :: Lib.itoa (sbL b)).length := by simp; omega
  rw [e2] at e
  rw [e0, List.set_append_left _ _ hiL] at e
  have hcut : ∀ j, j < (b ++ 32 :: Lib.itoa (sbL b)).length → (lineT b).getD j 0 = (b ++ 32 :: Lib.itoa (sbL b)).getD j 0 := fun j hj => by
    rw [e0, List.getD_eq_getElem?_getD, List.getD_eq_getElem?_getD, List.getElem?_append_left hj]
  rw [hcut i hiL] at hc
  by_cases h10 : c = 10
  · -- the line ends at the changed byte
    subst h10
    have hsp : (b ++ 32 :: Lib.itoa (sbL b)).set i 10 = (b ++ 32 :: Lib.itoa (sbL b)).take i ++ 10 :: (b ++ 32 :: Lib.itoa (sbL b)).drop (i + 1) := set_cut hiL
    rw [hsp, List.append_assoc, List.cons_append] at e
    have hnl1 : (10 : UInt8) ∉ (b ++ 32 :: Lib.itoa (sbL b)).take i := fun q => by
      have := List.mem_of_mem_take q
      simp only [List.mem_append, List.mem_cons] at this
      rcases this with q | q | q
      · exact hb.nl q
      · exact absurd q (by decide)
      · exact ht1 q
    have e3 := (first_eq e hnl1 hnl2).1
    rcases Nat.lt_or_ge b.length i with g | g
    · rw [List.take_append, List.take_of_length_le (by omega), show i - b.length = (i - b.length - 1) + 1 by omega, List.take_succ_cons] at e3
      obtain ⟨e4, e5⟩ := last_eq e3 (fun q => hn1 (List.mem_of_mem_take q)) hn2
      subst e4
      have := congrArg List.length e5
      simp at this
      simp at hiL
      omega
    · rw [List.take_append_of_le_length g] at e3
      have eb : b = b2 ++ 32 :: (Lib.itoa (sbL b2) ++ b.drop i) := by
        conv => lhs; rw [← List.take_append_drop i b, e3]
        simp
      exact bod_cut hb h2 eb
  · -- the line ends where it did
    have hnl1 : (10 : UInt8) ∉ (b ++ 32 :: Lib.itoa (sbL b)).set i c := fun q => by
      rcases List.mem_or_eq_of_mem_set q with q | q
      · simp only [List.mem_append, List.mem_cons] at q
        rcases q with q | q | q
        · exact hb.nl q
        · exact absurd q (by decide)
        · exact ht1 q
      · exact h10 q.symm
    have e3 := (first_eq e hnl1 hnl2).1
    rcases Nat.lt_trichotomy i b.length with g | g | g
    · rw [List.set_append_left _ _ g] at e3
      obtain ⟨e4, e5⟩ := last_eq e3 hn1 hn2
      have := hinj e5.symm
      rw [← e4] at this
      rw [List.getD_eq_getElem?_getD, List.getElem?_append_left g, ← List.getD_eq_getElem?_getD] at hc
      exact sb_ne g hl hc this
    · subst g
      rw [List.set_append_right _ _ (Nat.le_refl _), Nat.sub_self, List.set_cons_zero] at e3
      have hc32 : c ≠ 32 := fun q => hc (by rw [q, List.getD_eq_getElem?_getD, List.getElem?_append_right (Nat.le_refl _), Nat.sub_self]; rfl)
      exact bod_cut2 hb h2 hc32 hn1 hn2 e3
    · rw [List.set_append_right _ _ (by omega), show i - b.length = (i - b.length - 1) + 1 by omega, List.set_cons_succ] at e3
      have hj : i - b.length - 1 < (Lib.itoa (sbL b)).length := by simp at hiL; omega
      have hcj : c ≠ (Lib.itoa (sbL b)).getD (i - b.length - 1) 0 := by
        rw [List.getD_eq_getElem?_getD, List.getElem?_append_right (by omega), show i - b.length = (i - b.length - 1) + 1 by omega, List.getElem?_cons_succ, ← List.getD_eq_getElem?_getD] at hc
        exact hc
      generalize i - b.length - 1 = j at e3 hj hcj
      by_cases h32 : c = 32
      · subst h32
        rw [set_cut hj] at e3
        have hd : (32 : UInt8) ∉ (Lib.itoa (sbL b)).drop (j + 1) := fun q => hn1 (List.mem_of_mem_drop q)
        rw [show b ++ 32 :: ((Lib.itoa (sbL b)).take j ++ 32 :: (Lib.itoa (sbL b)).drop (j + 1)) = (b ++ 32 :: (Lib.itoa (sbL b)).take j) ++ 32 :: (Lib.itoa (sbL b)).drop (j + 1) by simp] at e3
        have e4 := (last_eq e3 hd hn2).1
        exact bod_cut h2 hb e4.symm
      · have hs : (32 : UInt8) ∉ (Lib.itoa (sbL b)).set j c := fun q => by
          rcases List.mem_or_eq_of_mem_set q with q | q
          · exact hn1 q
          · exact h32 q.symm
        obtain ⟨e4, e5⟩ := last_eq e3 hs hn2
        subst e4
        have : ((Lib.itoa (sbL b)).set j c).getD j 0 = (Lib.itoa (sbL b)).getD j 0 := by rw [e5]
        rw [getD_set_eq _ _ hj] at this
        exact hcj this
end Go.Proofs.YtnepdfpooobmcaaDoor
