/- Contracts and lemmas for the proof of ShardSays; each theorem states its own conditions. -/
import Derived.Test.YtghemmmkbpfdhaaDoorQShardSaysav
set_option linter.unusedVariables false
set_option linter.unusedSimpArgs false
/- Contracts and lemmas for the proofs of this seat; each theorem states its own conditions. -/
namespace Go.Proofs.YtghemmmkbpfdhaaDoor
open Go.RowKit
/-! plain laws of Join, Scan, Total -/
def joinP (a b : Prs) : Prs := b.foldl (fun o p => withP o p.1 p.2) a
theorem join_nil (a : Prs) : joinP a [] = a := rfl
theorem join_cons (a : Prs) (p : ByteArray × Int) (b : Prs) : joinP a (p :: b) = joinP (withP a p.1 p.2) b := rfl
theorem join_snoc (a b : Prs) (p : ByteArray × Int) : joinP a (b ++ [p]) = withP (joinP a b) p.1 p.2 := by simp [joinP, List.foldl_append]
theorem join_step {a b : Prs} {k : Nat} (hk : k < b.length) : joinP a (b.take (k + 1)) = withP (joinP a (b.take k)) b[k].1 b[k].2 := by
  rw [List.take_succ_eq_append_getElem hk, join_snoc]
theorem join_len (a b : Prs) : (joinP a b).length ≤ a.length + b.length := by
  induction b generalizing a with
  | nil => simp [join_nil]
  | cons p b ih =>
    have := ih (withP a p.1 p.2)
    have := with_len a p.1 p.2
    rw [join_cons, List.length_cons]; omega
theorem join_srt {a : Prs} (b : Prs) (h : srtP a) : srtP (joinP a b) := by
  induction b generalizing a with
  | nil => exact h
  | cons p b ih => exact ih (srt_with h _ _)
theorem join_okS {a b : Prs} (h : StoreOk a) (hb : StoreOk b) : StoreOk (joinP a b) := by
  have : ∀ l : Prs, (∀ p ∈ l, keyB p.1 = true ∧ -1000000000 ≤ p.2 ∧ p.2 ≤ 1000000000) → ∀ a, StoreOk a → StoreOk (joinP a l) := by
    intro l
    induction l with
    | nil => intro _ a h; exact h
    | cons p l ih =>
      intro hl a h
      have hp := hl p (by simp)
      exact ih (fun q hq => hl q (by simp [hq])) _ (storeOk_with h hp.1 hp.2)
  exact this b (fun p hp => ⟨hb.key p hp, (hb.val p hp).2⟩) a h
theorem val_join {a b : Prs} (ha : srtP a) (hb : srtP b) (hz : nzP b) (k : ByteArray) : valP (joinP a b) k = if valP b k ≠ 0 then valP b k else valP a k := by
  induction b generalizing a with
  | nil => simp [join_nil, valP]
  | cons p b ih =>
    obtain ⟨h1, h2⟩ := srtP_cons.1 hb
    rw [join_cons, ih (srt_with ha _ _) h2 (fun q hq => hz q (by simp [hq])), val_with ha, valP]
    by_cases e : p.1 = k
    · subst e
      rw [valP_lt h1, if_neg (by simp), if_pos rfl, if_pos rfl, if_pos (hz p (by simp))]
    · rw [if_neg e, if_neg e]
/-- no key of b is in a -/
def apartB (a b : Prs) : Bool := b.all fun p => decide (valP a p.1 = 0)
theorem apart_val {a b : Prs} (h : apartB a b = true) {k : ByteArray} (hk : valP b k ≠ 0) : valP a k = 0 := by
  unfold apartB at h
  rw [List.all_eq_true] at h
  simpa using h _ (valP_ne hk)
theorem apart_of {a b : Prs} (hb : srtP b) (hz : nzP b) (h : ∀ k, valP b k ≠ 0 → valP a k = 0) : apartB a b = true := by
  unfold apartB
  rw [List.all_eq_true]
  intro p hp
  simpa using h p.1 (by rw [valP_mem hb hp]; exact hz p hp)
theorem apart_symm {a b : Prs} (ha : srtP a) (za : nzP a) (h : apartB a b = true) : apartB b a = true :=
  apart_of ha za fun k hk => by
    by_cases e : valP b k = 0
    · exact e
    · exact absurd (apart_val h e) hk
theorem join_comm {a b : Prs} (ha : StoreOk a) (hb : StoreOk b) (h : apartB a b = true) : joinP a b = joinP b a := by
  refine store_ext (join_okS ha hb) (join_okS hb ha) fun k => ?_
  rw [val_join ha.srt hb.srt hb.nz, val_join hb.srt ha.srt ha.nz]
  by_cases e : valP b k = 0
  · by_cases e' : valP a k = 0
    · simp [e, e']
    · simp [e, e']
  · have := apart_val h e
    simp [e, this]
theorem tot_with {l : Prs} {k : ByteArray} {n : Int} (hs : srtP l) (h : valP l k = 0) (hz : nzP l) : totTo (withP l k n) = totTo l + n := by
  induction l with
  | nil => simp only [withP]; split <;> simp [totTo, *]
  | cons p l ih =>
    obtain ⟨h1, h2⟩ := srtP_cons.1 hs
    have hpk : p.1 ≠ k := by
      rintro rfl
      rw [valP, if_pos rfl] at h
      exact hz p (by simp) h
    have h' : valP l k = 0 := by rw [valP, if_neg hpk] at h; exact h
    simp only [withP]
    split
    · simp only [totTo, ih h2 h' (fun q hq => hz q (by simp [hq]))]; omega
    · try rw [if_neg hpk]
      split
      · rename_i e; subst e; omega
      · simp only [totTo]; omega
theorem tot_join {a b : Prs} (ha : StoreOk a) (hb : StoreOk b) (h : apartB a b = true) : totTo (joinP a b) = totTo a + totTo b := by
  have : ∀ l : Prs, srtP l → nzP l → (∀ p ∈ l, keyB p.1 = true ∧ -1000000000 ≤ p.2 ∧ p.2 ≤ 1000000000) → ∀ a, StoreOk a → apartB a l = true → totTo (joinP a l) = totTo a + totTo l := by
    intro l
    induction l with
    | nil => intro _ _ _ a _ _; simp [join_nil, totTo]
    | cons p l ih =>
      intro hs hz hl a h ap
      obtain ⟨h1, h2⟩ := srtP_cons.1 hs
      have hp := hl p (by simp)
      have hp0 : valP a p.1 = 0 := by
        unfold apartB at ap; rw [List.all_eq_true] at ap; simpa using ap p (by simp)
      rw [join_cons, ih h2 (fun q hq => hz q (by simp [hq])) (fun q hq => hl q (by simp [hq])) _ (storeOk_with h hp.1 hp.2), tot_with h.srt hp0 h.nz, totTo]
      · omega
      · unfold apartB at ap ⊢
        rw [List.all_eq_true] at ap ⊢
        intro q hq
        rw [val_with h.srt, if_neg (blt_ne (h1 q hq))]
        exact ap q (by simp [hq])
  exact this b hb.srt hb.nz (fun p hp => ⟨hb.key p hp, (hb.val p hp).2⟩) a ha h
theorem scan_ok' {l : Prs} (h : StoreOk l) (f t : ByteArray) : StoreOk (scanP l f t) := storeOk_filter h _
theorem val_scan {l : Prs} (h : srtP l) (f t k : ByteArray) : valP (scanP l f t) k = if inB f t (k, valP l k) then valP l k else 0 := val_filter h _ k
/-- what lies ahead of a place, and from there on -/
theorem scan_cut {l : Prs} (h : srtP l) (at_ : ByteArray) (hne : at_.toList ≠ []) : scanP l ⟨#[]⟩ at_ ++ scanP l at_ ⟨#[]⟩ = l := by
  have e1 : ∀ p : ByteArray × Int, inB ⟨#[]⟩ at_ p = blt p.1 at_ := fun p => by
    have e0 : (ByteArray.mk #[]).toList = [] := by rw [toList_data]
    have : blt p.1 ⟨#[]⟩ = false := by unfold blt; rw [e0]; cases p.1.toList <;> rfl
    simp [inB, this, hne]
  have e2 : ∀ p : ByteArray × Int, inB at_ ⟨#[]⟩ p = !blt p.1 at_ := fun p => by
    have e0 : (ByteArray.mk #[]).toList = [] := by rw [toList_data]
    simp [inB, e0]
  unfold scanP
  rw [show inB ⟨#[]⟩ at_ = fun p => blt p.1 at_ from funext e1, show inB at_ ⟨#[]⟩ = fun p => !blt p.1 at_ from funext e2]
  induction l with
  | nil => rfl
  | cons p l ih =>
    obtain ⟨h1, h2⟩ := srtP_cons.1 h
    rw [List.filter_cons, List.filter_cons]
    cases hb : blt p.1 at_ with
    | true => simp; exact ih h2
    | false =>
      have : l.filter (fun p => blt p.1 at_) = [] := by
        rw [List.filter_eq_nil_iff]
        intro q hq hqa
        have := blt_trans (h1 q hq) hqa
        rw [hb] at this; cases this
      have e3 : l.filter (fun p => !blt p.1 at_) = l := by
        rw [List.filter_eq_self]
        intro q hq
        cases hqa : blt q.1 at_ with
        | false => rfl
        | true => have := blt_trans (h1 q hq) hqa; rw [hb] at this; cases this
      simp [this, e3]
theorem hit_val {l : Prs} (hs : srtP l) (hz : nzP l) {k : ByteArray} {i : Nat} (hc : cutAt (bltAt (keysP l) k) l.length i) : hitS (keysP l) k i = decide (valP l k ≠ 0) := by
  have hv := val_cut hs hc
  cases hh : hitS (keysP l) k i with
  | true =>
    have hi := hit_lt hh
    rw [keysP_len] at hi
    rw [dif_pos hi, if_pos hh] at hv
    rw [hv]
    exact (decide_eq_true (hz _ (List.getElem_mem hi))).symm
  | false =>
    rw [hh] at hv
    simp at hv
    simp [hv]
theorem keyB_size {k : ByteArray} (h : keyB k = true) : k.size ≤ 6 := by
  simp [keyB] at h; exact h.1.2
theorem store_small {l : Prs} (h : StoreOk l) : ∀ p ∈ l, p.1.size ≤ 9223372036854775807 := fun p hp => by have := keyB_size (h.key p hp); omega
end Go.Proofs.YtghemmmkbpfdhaaDoor
