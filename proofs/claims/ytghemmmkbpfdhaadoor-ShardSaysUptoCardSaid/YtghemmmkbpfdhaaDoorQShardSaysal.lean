/- Contracts and lemmas for the proof of ShardSays; each theorem states its own conditions. -/
import Derived.Test.YtghemmmkbpfdhaaDoorQShardSaysak
set_option linter.unusedVariables false
set_option linter.unusedSimpArgs false
/- Contracts and lemmas for the proofs of this seat; each theorem states its own conditions. -/
namespace Go.Proofs.YtghemmmkbpfdhaaDoor
/-! Plain, in plain lists -/
def lastO (O : List Int) : Int := O.getD (O.length - 1) 0
def pl (C : List ByteArray) (O : List Int) : Nat → List ByteArray × List Int
  | 0 => ([], [O.getD 0 0])
  | k + 1 => if O.getD (k + 1) 0 = lastO (pl C O k).2 then pl C O k else ((pl C O k).1 ++ [kAt C k], (pl C O k).2 ++ [O.getD (k + 1) 0])
theorem pl_len (C : List ByteArray) (O : List Int) : ∀ k, (pl C O k).2.length = (pl C O k).1.length + 1
  | 0 => rfl
  | k + 1 => by have := pl_len C O k; simp only [pl]; split <;> simp [this]
theorem pl_le (C : List ByteArray) (O : List Int) : ∀ k, (pl C O k).1.length ≤ k
  | 0 => by simp [pl]
  | k + 1 => by have := pl_le C O k; simp only [pl]; split <;> simp <;> omega
theorem lastO_snoc (O : List Int) (n : Int) : lastO (O ++ [n]) = n := by simp [lastO]
theorem lastO_single (n : Int) : lastO [n] = n := rfl
theorem pl_last (C : List ByteArray) (O : List Int) : ∀ k, lastO (pl C O k).2 = O.getD k 0
  | 0 => rfl
  | k + 1 => by
    simp only [pl]; split
    · rename_i h; exact h.symm
    · exact lastO_snoc _ _
theorem pl_mem (C : List ByteArray) (O : List Int) : ∀ k, k ≤ C.length → ∀ x ∈ (pl C O k).1, ∃ j, ∃ h : j < C.length, j < k ∧ x = C[j]
  | 0, _, x, hx => by simp [pl] at hx
  | k + 1, hk, x, hx => by
    have ih := pl_mem C O k (by omega)
    simp only [pl] at hx
    split at hx
    · obtain ⟨j, h, h1, h2⟩ := ih x hx; exact ⟨j, h, by omega, h2⟩
    · rw [List.mem_append] at hx
      rcases hx with hx | hx
      · obtain ⟨j, h, h1, h2⟩ := ih x hx; exact ⟨j, h, by omega, h2⟩
      · rw [List.mem_singleton, kAt_eq (by omega)] at hx
        exact ⟨k, by omega, by omega, hx⟩
theorem srt_lt {C : List ByteArray} (hs : srt C) {i j : Nat} (hi : i < C.length) (hj : j < C.length) (h : i < j) : blt C[i] C[j] = true := by
  have := hs i j h hj; rwa [kAt_eq hi, kAt_eq hj] at this
theorem pl_pw (C : List ByteArray) (O : List Int) (hs : srt C) : ∀ k, k ≤ C.length → (pl C O k).1.Pairwise fun a b => blt a b = true
  | 0, _ => by simp [pl]
  | k + 1, hk => by
    have ih := pl_pw C O hs k (by omega)
    simp only [pl]; split
    · exact ih
    · rw [List.pairwise_append]
      refine ⟨ih, by simp, fun a ha b hb => ?_⟩
      rw [List.mem_singleton, kAt_eq (by omega)] at hb
      obtain ⟨j, h, h1, h2⟩ := pl_mem C O k (by omega) a ha
      rw [h2, hb]; exact srt_lt hs _ _ h1
theorem pl_own (C : List ByteArray) (O : List Int) (hO : ∀ n ∈ O, 0 ≤ n ∧ n < 4) : ∀ k, k < O.length → ∀ n ∈ (pl C O k).2, 0 ≤ n ∧ n < 4
  | 0, hk, n, hn => by
    simp only [pl, List.mem_singleton] at hn
    rw [hn]
    have e : O.getD 0 0 = O[0] := by simp [hk]
    rw [e]; exact hO _ (List.getElem_mem hk)
  | k + 1, hk, n, hn => by
    simp only [pl] at hn
    split at hn
    · exact pl_own C O hO k (by omega) n hn
    · rw [List.mem_append] at hn
      rcases hn with hn | hn
      · exact pl_own C O hO k (by omega) n hn
      · rw [List.mem_singleton] at hn
        have e : O.getD (k + 1) 0 = O[k + 1] := by simp [hk]
        rw [hn, e]; exact hO _ (List.getElem_mem hk)
theorem cut_key {C : List ByteArray} (h : allTo (cutOk C) C.length) : ∀ x ∈ C, keyB x = true := by
  intro x hx
  obtain ⟨i, hi, rfl⟩ := List.mem_iff_getElem.1 hx
  have := h i hi
  simp [cutOk, kAt_eq hi] at this
  exact this.1
theorem pl_ok {C : List ByteArray} {O : List Int} (ok : MapOk C O) : MapOk (pl C O C.length).1 (pl C O C.length).2 :=
  ⟨by have := pl_le C O C.length; have := ok.few; omega, pl_len C O C.length,
   cutsOk_of (pl_pw C O ok.srt C.length (Nat.le_refl _)) (fun x hx => by
     obtain ⟨j, h, _, h2⟩ := pl_mem C O C.length (Nat.le_refl _) x hx; rw [h2]; exact cut_key ok.cut _ (List.getElem_mem h)),
   ownsOk_of (pl_own C O (mem_range_of ok.own) C.length (by have := ok.len; omega))⟩
theorem srt_of_pw {C : List ByteArray} (h : C.Pairwise fun a b => blt a b = true) : srt C := fun i j hij hj => by
  have := List.pairwise_iff_getElem.1 h i j (by omega) hj hij
  rwa [kAt_eq hj, kAt_eq (show i < C.length by omega)]
/-- one cut more, behind all -/
theorem whose_snoc {C : List ByteArray} {O : List Int} {c : ByteArray} {n : Int} (hs : srt (C ++ [c])) (hl : O.length = C.length + 1) (key : ByteArray) :
    whose (C ++ [c]) (O ++ [n]) key = if blt key c then whose C O key else n := by
  have hsC : srt C := fun i j hij hj => by
    have := hs i j hij (by simp; omega)
    simpa [kAt, List.getElem?_append_left (show i < C.length by omega), List.getElem?_append_left hj] using this
  have hk : ∀ j, j < C.length → kAt (C ++ [c]) j = kAt C j := fun j hj => by simp [kAt, List.getElem?_append_left hj]
  have hc : kAt (C ++ [c]) C.length = c := by simp [kAt]
  obtain ⟨h1, h2, h3⟩ := plc_cut hsC key
  cases hb : blt key c with
  | true =>
    have : plc (C ++ [c]) key = plc C key := by
      refine idx_spec _ _ _ ⟨by simp; omega, fun j hj => ?_, fun j hj hjn => ?_⟩
      · have := h2 j hj; simp only [leAt] at this ⊢; rw [hk j (by omega)]; exact this
      · rcases Nat.lt_or_ge j C.length with h | h
        · have := h3 j hj h; simp only [leAt] at this ⊢; rw [hk j h]; exact this
        · have : j = C.length := by simp at hjn; omega
          subst this; simp [leAt, hc, hb]
    rw [whose_plc, whose_plc, this, if_pos rfl]
    simp [List.getElem?_append_left (show plc C key < O.length by omega)]
  | false =>
    have : plc (C ++ [c]) key = C.length + 1 := by
      refine idx_spec _ _ _ ⟨by simp, fun j hj => ?_, fun j hj hjn => by simp at hjn; omega⟩
      rcases Nat.lt_or_ge j C.length with h | h
      · have := hs j C.length h (by simp)
        rw [hc] at this
        simp only [leAt, Bool.not_eq_true']
        exact ble_trans (blt_asymm this) hb
      · have : j = C.length := by omega
        subst this; simp [leAt, hc, hb]
    rw [whose_plc, this, if_neg (by simp)]
    simp [hl]
theorem take_snoc' {α : Type} (l : List α) (k : Nat) (h : k < l.length) : l.take (k + 1) = l.take k ++ [l[k]] := List.take_succ_eq_append_getElem h
theorem srt_take {C : List ByteArray} (hs : srt C) (k : Nat) : srt (C.take k) := fun i j hij hj => by
  have hj' : j < C.length := by rw [List.length_take] at hj; omega
  have hjk : j < k := by rw [List.length_take] at hj; omega
  have := hs i j hij hj'
  simpa [kAt, List.getElem?_take, hjk, show i < k by omega] using this
theorem whose_pl {C : List ByteArray} {O : List Int} (hs : srt C) (hl : O.length = C.length + 1) (key : ByteArray) : ∀ k, k ≤ C.length →
    whose (pl C O k).1 (pl C O k).2 key = whose (C.take k) (O.take (k + 1)) key
  | 0, _ => by
    have e : O.take 1 = [O.getD 0 0] := by
      cases O with
      | nil => simp at hl
      | cons a l => rfl
    simp [pl, e]
  | k + 1, hk => by
    have ih := whose_pl hs hl key k (by omega)
    have e1 := take_snoc' C k (by omega)
    have e2 := take_snoc' O (k + 1) (by omega)
    have eO : O.getD (k + 1) 0 = O[k + 1] := by simp [show k + 1 < O.length by omega]
    have hR := whose_snoc (C := C.take k) (O := O.take (k + 1)) (c := C[k]) (n := O[k + 1]) (by rw [← e1]; exact srt_take hs _) (by simp; omega) key
    rw [e1, e2, hR, ← ih]
    simp only [pl]
    split
    · rename_i h
      split
      · rfl
      · rename_i hb
        -- the key lies behind all cuts that were kept: its owner is the last one
        have : ∀ m, m ≤ k → blt key (C[k]'(by omega)) = false → whose (pl C O m).1 (pl C O m).2 key = O.getD m 0 := by
          intro m
          induction m with
          | zero => intro _ _; simp [pl, whose, idx]
          | succ m ihm =>
            intro hm hb'
            simp only [pl]
            split
            · rename_i hh
              rw [ihm (by omega) hb', ← pl_last C O m, ← hh]
            · have hs' : srt ((pl C O m).1 ++ [kAt C m]) := by
                have := pl_pw C O hs (m + 1) (by omega)
                simp only [pl] at this
                rw [if_neg (by assumption)] at this
                exact srt_of_pw this
              rw [whose_snoc hs' (pl_len C O m), if_neg]
              rw [kAt_eq (by omega)]
              have := ble_trans (blt_asymm (srt_lt hs (show m < C.length by omega) (show k < C.length by omega) (by omega))) hb'
              rw [this]; simp
        have hb' : blt key (C[k]'(by omega)) = false := by simpa using hb
        rw [this k (Nat.le_refl _) hb', ← pl_last C O k, ← h, eO]
    · have hs' : srt ((pl C O k).1 ++ [kAt C k]) := by
        have := pl_pw C O hs (k + 1) hk
        simp only [pl] at this
        rw [if_neg (by assumption)] at this
        exact srt_of_pw this
      rw [whose_snoc hs' (pl_len C O k), kAt_eq (by omega), eO]
theorem pl_whose {C : List ByteArray} {O : List Int} (ok : MapOk C O) (key : ByteArray) : whose (pl C O C.length).1 (pl C O C.length).2 key = whose C O key := by
  have := whose_pl ok.srt ok.len key C.length (Nat.le_refl _)
  rw [this, List.take_of_length_le (Nat.le_refl _), List.take_of_length_le (by have := ok.len; omega)]
/-- no neighbours of one owner -/
def apartO (O : List Int) : Prop := ∀ i, i + 1 < O.length → O.getD (i + 1) 0 ≠ O.getD i 0
theorem pl_apart (C : List ByteArray) (O : List Int) : ∀ k, apartO (pl C O k).2
  | 0 => fun i hi => by simp [pl] at hi
  | k + 1 => by
    have ih := pl_apart C O k
    simp only [pl]; split
    · exact ih
    · rename_i h
      intro i hi
      simp only [List.length_append, List.length_singleton] at hi
      rcases Nat.lt_or_ge (i + 1) (pl C O k).2.length with h' | h'
      · have := ih i h'
        simpa [List.getElem?_append_left h', List.getElem?_append_left (show i < (pl C O k).2.length by omega)] using this
      · have e : i + 1 = (pl C O k).2.length := by omega
        have e2 : i = (pl C O k).2.length - 1 := by omega
        have l1 : ((pl C O k).2 ++ [O.getD (k + 1) 0]).getD (i + 1) 0 = O.getD (k + 1) 0 := by rw [e]; simp
        have l2 : ((pl C O k).2 ++ [O.getD (k + 1) 0]).getD i 0 = lastO (pl C O k).2 := by
          rw [e2]; simp [lastO, List.getElem?_append_left (show (pl C O k).2.length - 1 < (pl C O k).2.length by omega)]
        rw [l1, l2]; exact h
theorem pl_same {C : List ByteArray} {O : List Int} (hl : O.length = C.length + 1) (ha : apartO O) : ∀ k, k ≤ C.length → pl C O k = (C.take k, O.take (k + 1))
  | 0, _ => by
    cases O with
    | nil => simp at hl
    | cons a l => simp [pl]
  | k + 1, hk => by
    have ih := pl_same hl ha k (by omega)
    have e1 := take_snoc' C k (by omega)
    have e2 := take_snoc' O (k + 1) (by omega)
    have h := ha k (by omega)
    have hlast := pl_last C O k
    simp only [pl]
    rw [if_neg (by rw [hlast]; exact h), ih, e1, e2, kAt_eq (by omega)]
    simp [show k + 1 < O.length by omega]
theorem pl_twice {C : List ByteArray} {O : List Int} (ok : MapOk C O) : pl (pl C O C.length).1 (pl C O C.length).2 (pl C O C.length).1.length = pl C O C.length := by
  have h := pl_same (pl_len C O C.length) (pl_apart C O C.length) _ (Nat.le_refl _)
  rw [h, List.take_of_length_le (Nat.le_refl _), List.take_of_length_le (by rw [pl_len]; exact Nat.le_refl _)]
theorem pl_small {C : List ByteArray} {O : List Int} (h : ∀ x ∈ C, x.size ≤ 9223372036854775807) : ∀ x ∈ (pl C O C.length).1, x.size ≤ 9223372036854775807 := fun x hx => by
  obtain ⟨j, hj, _, h2⟩ := pl_mem C O C.length (Nat.le_refl _) x hx
  rw [h2]; exact h _ (List.getElem_mem hj)
end Go.Proofs.YtghemmmkbpfdhaaDoor
