/- Contracts and lemmas for the proof of PartsWho; each theorem states its own conditions. -/
import Derived.Test.YtijcckhkofkenaaGreatQPartsWhoav
import Derived.Test.YtijcckhkofkenaaGreatQPartsWhoan
set_option linter.unusedVariables false
set_option linter.unusedSimpArgs false
/- Contracts and lemmas for the proofs of this seat; each theorem states its own conditions. -/
namespace Go.Proofs.YtijcckhkofkenaaGreat
theorem cutsOk_of {C : List ByteArray} (hp : C.Pairwise fun a b => blt a b = true) (hk : ∀ x ∈ C, keyB x = true) : allTo (cutOk C) C.length := by
  intro i hi
  have h1 := hk C[i] (List.getElem_mem hi)
  cases i with
  | zero => simp [cutOk, kAt_eq hi, h1]
  | succ i =>
    have h2 := List.pairwise_iff_getElem.1 hp i (i + 1) (by omega) hi (by omega)
    simp [cutOk, kAt_eq hi, kAt_eq (show i < C.length by omega), h1, h2]
theorem nm_key : ∀ j, (h : j < nmL.length) → keyB nmL[j] = true := by decide +kernel
theorem nm_lt : ∀ i, (hi : i < nmL.length) → ∀ j, (hj : j < nmL.length) → i < j → blt nmL[i] nmL[j] = true := by decide +kernel
theorem mkC_mem (l : List Int) : ∀ k, k ≤ 6 → ∀ x ∈ mkC l k, ∃ j, ∃ h : j < nmL.length, j < k ∧ x = nmL[j]
  | 0, _, x, hx => by simp [mkC] at hx
  | k + 1, hk, x, hx => by
    have ih := mkC_mem l k (by omega)
    have hl : k < nmL.length := by simp [nmL]; omega
    simp only [mkC] at hx
    split at hx
    · rw [List.mem_append] at hx
      rcases hx with hx | hx
      · obtain ⟨j, h, h1, h2⟩ := ih x hx; exact ⟨j, h, by omega, h2⟩
      · rw [List.mem_singleton, kAt_eq hl] at hx
        exact ⟨k, hl, by omega, hx⟩
    · obtain ⟨j, h, h1, h2⟩ := ih x hx; exact ⟨j, h, by omega, h2⟩
theorem mkC_sorted (l : List Int) : ∀ k, k ≤ 6 → (mkC l k).Pairwise fun a b => blt a b = true
  | 0, _ => by simp [mkC]
  | k + 1, hk => by
    have ih := mkC_sorted l k (by omega)
    have hl : k < nmL.length := by simp [nmL]; omega
    simp only [mkC]
    split
    · rw [List.pairwise_append]
      refine ⟨ih, by simp, fun a ha b hb => ?_⟩
      rw [List.mem_singleton, kAt_eq hl] at hb
      obtain ⟨j, h, h1, h2⟩ := mkC_mem l k (by omega) a ha
      rw [h2, hb]; exact nm_lt j h k hl h1
    · exact ih
theorem mkO_range (l : List Int) : ∀ k, ∀ n ∈ mkO l k, 0 ≤ n ∧ n < 4
  | 0, n, hn => by simp [mkO] at hn; omega
  | k + 1, n, hn => by
    simp only [mkO] at hn
    split at hn
    · rw [List.mem_append] at hn
      rcases hn with hn | hn
      · exact mkO_range l k n hn
      · rw [List.mem_singleton] at hn
        rw [hn]; exact ⟨wi_lo (by omega), wi_hi (by omega)⟩
    · exact mkO_range l k n hn
theorem ownsOk_of {O : List Int} (h : ∀ n ∈ O, 0 ≤ n ∧ n < 4) : allTo (ownOk O) O.length := by
  intro i hi
  have := h O[i] (List.getElem_mem hi)
  exact ownOk_yes hi this.1 this.2
theorem mk_ok (l : List Int) : MapOk (mkC l 6) (mkO l 6) :=
  ⟨by have := mkC_len l 6; omega, mkO_len l 6, cutsOk_of (mkC_sorted l 6 (by omega)) (fun x hx => by
    obtain ⟨j, h, _, h2⟩ := mkC_mem l 6 (by omega) x hx; rw [h2]; exact nm_key j h), ownsOk_of (mkO_range l 6)⟩
theorem mk_small (l : List Int) : ∀ x ∈ mkC l 6, x.size ≤ 9223372036854775807 := fun x hx => by
  obtain ⟨j, h, _, h2⟩ := mkC_mem l 6 (by omega) x hx
  have : ∀ j, (h : j < nmL.length) → nmL[j].size ≤ 2 := by decide +kernel
  have := this j h
  rw [h2]; omega
theorem mem_range_of {O : List Int} (h : allTo (ownOk O) O.length) : ∀ n ∈ O, 0 ≤ n ∧ n < 4 := by
  intro n hn
  obtain ⟨i, hi, rfl⟩ := List.mem_iff_getElem.1 hn
  have := h i hi
  simp [ownOk, hi] at this
  omega
theorem ok_set {C : List ByteArray} {O : List Int} (h : MapOk C O) (i : Nat) (n : Int) (h0 : 0 ≤ n) (h1 : n < 4) : MapOk C (O.set i n) :=
  ⟨h.few, by rw [List.length_set]; exact h.len, h.cut, by
    have := mem_range_of h.own
    exact ownsOk_of fun m hm => by
      rcases List.mem_or_eq_of_mem_set hm with hm | hm
      · exact this m hm
      · subst hm; exact ⟨h0, h1⟩⟩
/-- the place of a key -/
def plc (C : List ByteArray) (k : ByteArray) : Nat := idx (leAt C k) C.length
theorem plc_cut {C : List ByteArray} (hs : srt C) (k : ByteArray) : cutAt (leAt C k) C.length (plc C k) := by
  have hd := dropsB_le hs k
  have : ∃ i, cutAt (leAt C k) C.length i := by
    have key : ∀ m, m ≤ C.length → (∃ i, cutAt (leAt C k) C.length i) ∨ ∀ j, j < m → leAt C k j = true := by
      intro m
      induction m with
      | zero => intro _; right; intro j hj; omega
      | succ m ih =>
        intro hm
        rcases ih (by omega) with h | h
        · exact .inl h
        · cases hb : leAt C k m with
          | true => right; intro j hj; rcases Nat.lt_succ_iff_lt_or_eq.1 hj with h' | h'
                    · exact h j h'
                    · subst h'; exact hb
          | false =>
            left
            refine ⟨m, by omega, h, fun j hj hjn => ?_⟩
            cases hb' : leAt C k j with
            | false => rfl
            | true =>
              rcases Nat.eq_or_lt_of_le hj with h' | h'
              · subst h'; rw [hb] at hb'; cases hb'
              · have := hd m j h' hjn hb'; rw [hb] at this; cases this
    rcases key C.length (Nat.le_refl _) with h | h
    · exact h
    · exact ⟨C.length, Nat.le_refl _, h, fun j hj hjn => by omega⟩
  obtain ⟨i, hi⟩ := this
  have := idx_spec _ _ _ hi
  unfold plc; rw [this]; exact hi
theorem plc_le {C : List ByteArray} (hs : srt C) (k : ByteArray) : plc C k ≤ C.length := (plc_cut hs k).1
/-- the loop that looks for it: j is the place when it stops -/
theorem plc_stop {C : List ByteArray} (hs : srt C) {k : ByteArray} {j : Nat} (hj : j ≤ C.length) (h1 : allTo (leAt C k) j) (h2 : j < C.length → leAt C k j = false) : plc C k = j := by
  refine idx_spec _ _ _ ⟨hj, h1, fun m hm hmn => ?_⟩
  rcases Nat.eq_or_lt_of_le hm with h | h
  · subst h; exact h2 hmn
  · cases hb : leAt C k m with
    | false => rfl
    | true => have := dropsB_le hs k j m h hmn hb; rw [h2 (by omega)] at this; cases this
theorem whose_plc (C : List ByteArray) (O : List Int) (k : ByteArray) : whose C O k = O.getD (plc C k) 0 := rfl
theorem whose_set_hit {C : List ByteArray} {O : List Int} {k : ByteArray} {i : Nat} {n : Int} (hi : i < O.length) (h : plc C k = i) : whose C (O.set i n) k = n := by
  rw [whose_plc, h]; simp [hi]
theorem whose_set_miss {C : List ByteArray} {O : List Int} {k : ByteArray} {i : Nat} {n : Int} (h : plc C k ≠ i) : whose C (O.set i n) k = whose C O k := by
  rw [whose_plc, whose_plc]; simp [List.getElem?_set, Ne.symm h]
theorem OwnMap.unpack {w : World} {B : Nat} {v : Value} {cuts : List ByteArray} {owners : List Int} (h : OwnMap w B v cuts owners) :
    ∃ a k a' k', v = .agg #[.slice a cuts.length k, .slice a' owners.length k'] ∧ IsMap w (.agg #[.slice a cuts.length k, .slice a' owners.length k']) cuts owners := by
  have h' := h.is
  obtain ⟨a, k, a', k', rfl, _⟩ := h'.unpack
  exact ⟨a, k, a', k', rfl, h'⟩
theorem OwnMap.set2 {w : World} {B : Nat} {v : Value} {cuts : List ByteArray} {owners : List Int} (h : OwnMap w B v cuts owners) {p q : Addr} {u u' : Value} (hp : p.block < B) (hq : q.block < B) :
    OwnMap ((w.setCell p u).setCell q u') B v cuts owners := by
  obtain ⟨c, o, h1, h2, h3⟩ := h
  exact ⟨c, o, h1, own_set2 h2 hp hq, own_set2 h3 hp hq⟩
end Go.Proofs.YtijcckhkofkenaaGreat

/- Contracts and lemmas for the proofs of this seat; each theorem states its own conditions. -/
namespace Go.Proofs.YtijcckhkofkenaaGreat
open Go.RowKit
/-! plain laws of Join, Scan, Total -/
def joinP (a b : Prs) : Prs := b.foldl (fun o p => withP o p.1 p.2) a
theorem join_nil (a : Prs) : joinP a [] = a := rfl
theorem join_cons (a : Prs) (p : ByteArray × Int) (b : Prs) : joinP a (p :: b) = joinP (withP a p.1 p.2) b := rfl
theorem join_snoc (a b : Prs) (p : ByteArray × Int) : joinP a (b ++ [p]) = withP (joinP a b) p.1 p.2 := by simp [joinP, List.foldl_append]
theorem join_step {a b : Prs} {k : Nat} (hk : k < b.length) : joinP a (b.take (k + 1)) = withP (joinP a (b.take k)) b[k].1 b[k].2 := by
  rw [List.take_succ_eq_append_getElem hk, join_snoc]
theorem join_len (a b : Prs) : (joinP a b).length ≤ a.length + b.length := by
  induction b generalizing a with
  | nil => simp [join_nil]
  | cons p b ih =>
    have := ih (withP a p.1 p.2)
    have := with_len a p.1 p.2
    rw [join_cons, List.length_cons]; omega
theorem join_srt {a : Prs} (b : Prs) (h : srtP a) : srtP (joinP a b) := by
  induction b generalizing a with
  | nil => exact h
  | cons p b ih => exact ih (srt_with h _ _)
theorem join_okS {a b : Prs} (h : StoreOk a) (hb : StoreOk b) : StoreOk (joinP a b) := by
  have : ∀ l : Prs, (∀ p ∈ l, keyB p.1 = true ∧ -1000000000 ≤ p.2 ∧ p.2 ≤ 1000000000) → ∀ a, StoreOk a → StoreOk (joinP a l) := by
    intro l
    induction l with
    | nil => intro _ a h; exact h
    | cons p l ih =>
      intro hl a h
      have hp := hl p (by simp)
      exact ih (fun q hq => hl q (by simp [hq])) _ (storeOk_with h hp.1 hp.2)
  exact this b (fun p hp => ⟨hb.key p hp, (hb.val p hp).2⟩) a h
theorem val_join {a b : Prs} (ha : srtP a) (hb : srtP b) (hz : nzP b) (k : ByteArray) : valP (joinP a b) k = if valP b k ≠ 0 then valP b k else valP a k := by
  induction b generalizing a with
  | nil => simp [join_nil, valP]
  | cons p b ih =>
    obtain ⟨h1, h2⟩ := srtP_cons.1 hb
    rw [join_cons, ih (srt_with ha _ _) h2 (fun q hq => hz q (by simp [hq])), val_with ha, valP]
    by_cases e : p.1 = k
    · subst e
      rw [valP_lt h1, if_neg (by simp), if_pos rfl, if_pos rfl, if_pos (hz p (by simp))]
    · rw [if_neg e, if_neg e]
/-- no key of b is in a -/
def apartB (a b : Prs) : Bool := b.all fun p => decide (valP a p.1 = 0)
theorem apart_val {a b : Prs} (h : apartB a b = true) {k : ByteArray} (hk : valP b k ≠ 0) : valP a k = 0 := by
  unfold apartB at h
  rw [List.all_eq_true] at h
  simpa using h _ (valP_ne hk)
theorem apart_of {a b : Prs} (hb : srtP b) (hz : nzP b) (h : ∀ k, valP b k ≠ 0 → valP a k = 0) : apartB a b = true := by
  unfold apartB
  rw [List.all_eq_true]
  intro p hp
  simpa using h p.1 (by rw [valP_mem hb hp]; exact hz p hp)
theorem apart_symm {a b : Prs} (ha : srtP a) (za : nzP a) (h : apartB a b = true) : apartB b a = true :=
  apart_of ha za fun k hk => by
    by_cases e : valP b k = 0
    · exact e
    · exact absurd (apart_val h e) hk
theorem join_comm {a b : Prs} (ha : StoreOk a) (hb : StoreOk b) (h : apartB a b = true) : joinP a b = joinP b a := by
  refine store_ext (join_okS ha hb) (join_okS hb ha) fun k => ?_
  rw [val_join ha.srt hb.srt hb.nz, val_join hb.srt ha.srt ha.nz]
  by_cases e : valP b k = 0
  · by_cases e' : valP a k = 0
    · simp [e, e']
    · simp [e, e']
  · have := apart_val h e
    simp [e, this]
theorem tot_with {l : Prs} {k : ByteArray} {n : Int} (hs : srtP l) (h : valP l k = 0) (hz : nzP l) : totTo (withP l k n) = totTo l + n := by
  induction l with
  | nil => simp only [withP]; split <;> simp [totTo, *]
  | cons p l ih =>
    obtain ⟨h1, h2⟩ := srtP_cons.1 hs
    have hpk : p.1 ≠ k := by
      rintro rfl
      rw [valP, if_pos rfl] at h
      exact hz p (by simp) h
    have h' : valP l k = 0 := by rw [valP, if_neg hpk] at h; exact h
    simp only [withP]
    split
    · simp only [totTo, ih h2 h' (fun q hq => hz q (by simp [hq]))]; omega
    · try rw [if_neg hpk]
      split
      · rename_i e; subst e; omega
      · simp only [totTo]; omega
theorem tot_join {a b : Prs} (ha : StoreOk a) (hb : StoreOk b) (h : apartB a b = true) : totTo (joinP a b) = totTo a + totTo b := by
  have : ∀ l : Prs, srtP l → nzP l → (∀ p ∈ l, keyB p.1 = true ∧ -1000000000 ≤ p.2 ∧ p.2 ≤ 1000000000) → ∀ a, StoreOk a → apartB a l = true → totTo (joinP a l) = totTo a + totTo l := by
    intro l
    induction l with
    | nil => intro _ _ _ a _ _; simp [join_nil, totTo]
    | cons p l ih =>
      intro hs hz hl a h ap
      obtain ⟨h1, h2⟩ := srtP_cons.1 hs
      have hp := hl p (by simp)
      have hp0 : valP a p.1 = 0 := by
        unfold apartB at ap; rw [List.all_eq_true] at ap; simpa using ap p (by simp)
      rw [join_cons, ih h2 (fun q hq => hz q (by simp [hq])) (fun q hq => hl q (by simp [hq])) _ (storeOk_with h hp.1 hp.2), tot_with h.srt hp0 h.nz, totTo]
      · omega
      · unfold apartB at ap ⊢
        rw [List.all_eq_true] at ap ⊢
        intro q hq
        rw [val_with h.srt, if_neg (blt_ne (h1 q hq))]
        exact ap q (by simp [hq])
  exact this b hb.srt hb.nz (fun p hp => ⟨hb.key p hp, (hb.val p hp).2⟩) a ha h
theorem scan_ok' {l : Prs} (h : StoreOk l) (f t : ByteArray) : StoreOk (scanP l f t) := storeOk_filter h _
theorem val_scan {l : Prs} (h : srtP l) (f t k : ByteArray) : valP (scanP l f t) k = if inB f t (k, valP l k) then valP l k else 0 := val_filter h _ k
/-- what lies ahead of a place, and from there on -/
theorem scan_cut {l : Prs} (h : srtP l) (at_ : ByteArray) (hne : at_.toList ≠ []) : scanP l ⟨#[]⟩ at_ ++ scanP l at_ ⟨#[]⟩ = l := by
  have e1 : ∀ p : ByteArray × Int, inB ⟨#[]⟩ at_ p = blt p.1 at_ := fun p => by
    have e0 : (ByteArray.mk #[]).toList = [] := by rw [toList_data]
    have : blt p.1 ⟨#[]⟩ = false := by unfold blt; rw [e0]; cases p.1.toList <;> rfl
    simp [inB, this, hne]
  have e2 : ∀ p : ByteArray × Int, inB at_ ⟨#[]⟩ p = !blt p.1 at_ := fun p => by
    have e0 : (ByteArray.mk #[]).toList = [] := by rw [toList_data]
    simp [inB, e0]
  unfold scanP
  rw [show inB ⟨#[]⟩ at_ = fun p => blt p.1 at_ from funext e1, show inB at_ ⟨#[]⟩ = fun p => !blt p.1 at_ from funext e2]
  induction l with
  | nil => rfl
  | cons p l ih =>
    obtain ⟨h1, h2⟩ := srtP_cons.1 h
    rw [List.filter_cons, List.filter_cons]
    cases hb : blt p.1 at_ with
    | true => simp; exact ih h2
    | false =>
      have : l.filter (fun p => blt p.1 at_) = [] := by
        rw [List.filter_eq_nil_iff]
        intro q hq hqa
        have := blt_trans (h1 q hq) hqa
        rw [hb] at this; cases this
      have e3 : l.filter (fun p => !blt p.1 at_) = l := by
        rw [List.filter_eq_self]
        intro q hq
        cases hqa : blt q.1 at_ with
        | false => rfl
        | true => have := blt_trans (h1 q hq) hqa; rw [hb] at this; cases this
      simp [this, e3]
theorem hit_val {l : Prs} (hs : srtP l) (hz : nzP l) {k : ByteArray} {i : Nat} (hc : cutAt (bltAt (keysP l) k) l.length i) : hitS (keysP l) k i = decide (valP l k ≠ 0) := by
  have hv := val_cut hs hc
  cases hh : hitS (keysP l) k i with
  | true =>
    have hi := hit_lt hh
    rw [keysP_len] at hi
    rw [dif_pos hi, if_pos hh] at hv
    rw [hv]
    exact (decide_eq_true (hz _ (List.getElem_mem hi))).symm
  | false =>
    rw [hh] at hv
    simp at hv
    simp [hv]
theorem keyB_size {k : ByteArray} (h : keyB k = true) : k.size ≤ 6 := by
  simp [keyB] at h; exact h.1.2
theorem store_small {l : Prs} (h : StoreOk l) : ∀ p ∈ l, p.1.size ≤ 9223372036854775807 := fun p hp => by have := keyB_size (h.key p hp); omega
end Go.Proofs.YtijcckhkofkenaaGreat
