/- Contracts and lemmas for the proof of PlanRounds; each theorem states its own conditions. -/
import Derived.Test.YtijcckhkofkenaaQPlanRoundsab
import Derived.Deep.QuietTactic
import Derived.BigQuiet
import Derived.Shelf.Small.Strs
import Derived.Shelf.Sort.Plain
import Derived.Ground.GgsProg
import Derived.Shelf.GgSortFunc.Tiny
import Derived.Shelf.Slices.CompactS
import Derived.Shelf.Slices.Cells
import Derived.Shelf.Slices.In.SortNone
import Derived.Shelf.SlSortFuncK.WholeK
import Derived.Test.YtijcckhkofkenaaProg
import Derived.Test.YtijcckhkofkenaaQPlanRoundsaa
set_option linter.unusedVariables false
set_option linter.unusedSimpArgs false
/- Contracts and lemmas for the proofs of this seat; each theorem states its own conditions. -/
namespace Go.Proofs.Ytijcckhkofkenaa
/-! stores, in plain lists -/
abbrev Prs := List (ByteArray × Int)
def keysP (l : Prs) : List ByteArray := l.map (·.1)
theorem keysP_len (l : Prs) : (keysP l).length = l.length := by simp [keysP]
theorem keysP_at {l : Prs} {i : Nat} (h : i < l.length) : kAt (keysP l) i = l[i].1 := by
  rw [kAt_eq (by rw [keysP_len]; exact h)]; simp [keysP]
theorem keysP_get {l : Prs} {i : Nat} (h : i < (keysP l).length) : (keysP l)[i] = (l[i]'(by rw [keysP_len] at h; exact h)).1 := by simp [keysP]
/-- the value of a key, 0 if it is not there -/
def valP : Prs → ByteArray → Int
  | [], _ => 0
  | p :: l, k => if p.1 = k then p.2 else valP l k
/-- strictly sorted by keys -/
def srtP (l : Prs) : Prop := l.Pairwise fun a b => blt a.1 b.1 = true
theorem srtP_nil : srtP [] := List.Pairwise.nil
theorem srtP_cons {p : ByteArray × Int} {l : Prs} : srtP (p :: l) ↔ (∀ q ∈ l, blt p.1 q.1 = true) ∧ srtP l := List.pairwise_cons
theorem srtP_keys {l : Prs} (h : srtP l) : srt (keysP l) := fun i j hij hj => by
  rw [keysP_len] at hj
  rw [keysP_at hj, keysP_at (show i < l.length by omega)]
  exact List.pairwise_iff_getElem.1 h i j (by omega) hj hij
theorem srtP_of {l : Prs} (h : srt (keysP l)) : srtP l := List.pairwise_iff_getElem.2 fun i j hi hj hij => by
  have := h i j hij (by rw [keysP_len]; exact hj)
  rwa [keysP_at hi, keysP_at hj] at this
/-- no value is nought -/
def nzP (l : Prs) : Prop := ∀ p ∈ l, p.2 ≠ 0
theorem valP_none {l : Prs} {k : ByteArray} (h : ∀ p ∈ l, p.1 ≠ k) : valP l k = 0 := by
  induction l with
  | nil => rfl
  | cons p l ih =>
    rw [valP, if_neg (h p (by simp))]
    exact ih fun q hq => h q (by simp [hq])
theorem valP_mem {l : Prs} (hs : srtP l) {p : ByteArray × Int} (h : p ∈ l) : valP l p.1 = p.2 := by
  induction l with
  | nil => simp at h
  | cons q l ih =>
    obtain ⟨h1, h2⟩ := srtP_cons.1 hs
    rcases List.mem_cons.1 h with h' | h'
    · subst h'; simp [valP]
    · rw [valP, if_neg (blt_ne (h1 p h')), ih h2 h']
theorem valP_ne {l : Prs} {k : ByteArray} (h : valP l k ≠ 0) : (k, valP l k) ∈ l := by
  induction l with
  | nil => simp [valP] at h
  | cons q l ih =>
    rw [valP] at h ⊢
    split at h
    · rename_i e; rw [if_pos e]; simp [← e]
    · rename_i e; rw [if_neg e]; exact List.mem_cons_of_mem _ (ih h)
theorem mem_valP {l : Prs} (hs : srtP l) (hz : nzP l) {k : ByteArray} {v : Int} : (k, v) ∈ l ↔ valP l k = v ∧ v ≠ 0 := by
  constructor
  · intro h; exact ⟨valP_mem hs h, hz _ h⟩
  · rintro ⟨rfl, h⟩; exact valP_ne h
theorem valP_lt {l : Prs} {k : ByteArray} (h : ∀ p ∈ l, blt k p.1 = true) : valP l k = 0 := valP_none fun p hp e => by
  have := h p hp; rw [e, blt_irrefl] at this; cases this
/-- two sorted lists of like values are one -/
theorem prs_ext {l m : Prs} (hl : srtP l) (hm : srtP m) (zl : nzP l) (zm : nzP m) (h : ∀ k, valP l k = valP m k) : l = m := by
  induction l generalizing m with
  | nil =>
    cases m with
    | nil => rfl
    | cons q m =>
      have := h q.1
      rw [valP_mem hm (List.mem_cons_self ..)] at this
      exact absurd this.symm (zm q (by simp))
  | cons p l ih =>
    obtain ⟨p1, p2⟩ := srtP_cons.1 hl
    cases m with
    | nil =>
      have := h p.1
      rw [valP_mem hl (List.mem_cons_self ..)] at this
      exact absurd this (zl p (by simp))
    | cons q m =>
      obtain ⟨q1, q2⟩ := srtP_cons.1 hm
      have a := h p.1
      rw [valP_mem hl (List.mem_cons_self ..)] at a
      have b := h q.1
      rw [valP_mem hm (List.mem_cons_self ..)] at b
      have e : p.1 = q.1 := by
        rcases blt_tri p.1 q.1 with k | k | k
        · rw [valP_lt (l := q :: m) (fun r hr => by rcases List.mem_cons.1 hr with hr | hr
                                                    · subst hr; exact k
                                                    · exact blt_trans k (q1 r hr))] at a
          exact absurd a (zl p (by simp))
        · exact k
        · rw [valP_lt (l := p :: l) (fun r hr => by rcases List.mem_cons.1 hr with hr | hr
                                                    · subst hr; exact k
                                                    · exact blt_trans k (p1 r hr))] at b
          exact absurd b.symm (zm q (by simp))
      have e2 : p.2 = q.2 := by
        have c := valP_mem hm (List.mem_cons_self : q ∈ q :: m)
        rw [← e] at c; rw [← c]; exact a
      have e3 : p = q := Prod.ext e e2
      subst e3
      congr 1
      refine ih p2 q2 (fun r hr => zl r (by simp [hr])) (fun r hr => zm r (by simp [hr])) fun k => ?_
      by_cases hk : p.1 = k
      · subst hk; rw [valP_lt p1, valP_lt q1]
      · have := h k; rw [valP, valP, if_neg hk, if_neg hk] at this; exact this
/-- with a value of a key (0: without it) -/
def withP : Prs → ByteArray → Int → Prs
  | [], k, n => if n = 0 then [] else [(k, n)]
  | p :: l, k, n => if blt p.1 k then p :: withP l k n else if p.1 = k then (if n = 0 then l else (k, n) :: l) else (if n = 0 then p :: l else (k, n) :: p :: l)
theorem with_mem {l : Prs} {k : ByteArray} {n : Int} {q : ByteArray × Int} (h : q ∈ withP l k n) : q ∈ l ∨ (q = (k, n) ∧ n ≠ 0) := by
  induction l with
  | nil => simp only [withP] at h; split at h <;> simp_all
  | cons p l ih =>
    simp only [withP] at h
    split at h
    · rcases List.mem_cons.1 h with h | h
      · left; simp [h]
      · rcases ih h with h | h
        · left; simp [h]
        · exact .inr h
    · split at h
      · split at h
        · left; simp [h]
        · rcases List.mem_cons.1 h with h | h
          · exact .inr ⟨h, by assumption⟩
          · left; simp [h]
      · split at h
        · exact .inl h
        · rcases List.mem_cons.1 h with h | h
          · exact .inr ⟨h, by assumption⟩
          · exact .inl h
theorem srt_with {l : Prs} (h : srtP l) (k : ByteArray) (n : Int) : srtP (withP l k n) := by
  induction l with
  | nil => simp only [withP]; split <;> simp [srtP]
  | cons p l ih =>
    obtain ⟨h1, h2⟩ := srtP_cons.1 h
    simp only [withP]
    split
    · rename_i hb
      refine srtP_cons.2 ⟨fun q hq => ?_, ih h2⟩
      rcases with_mem hq with hq | ⟨hq, _⟩
      · exact h1 q hq
      · subst hq; exact hb
    · rename_i hb
      split
      · rename_i e
        split
        · exact h2
        · exact srtP_cons.2 ⟨fun q hq => by rw [← e]; exact h1 q hq, h2⟩
      · rename_i e
        split
        · exact h
        · refine srtP_cons.2 ⟨fun q hq => ?_, h⟩
          have hk : blt k p.1 = true := by
            rcases blt_tri p.1 k with k' | k' | k'
            · exact absurd k' hb
            · exact absurd k' e
            · exact k'
          rcases List.mem_cons.1 hq with hq | hq
          · subst hq; exact hk
          · exact blt_trans hk (h1 q hq)
theorem nz_with {l : Prs} (h : nzP l) (k : ByteArray) (n : Int) : nzP (withP l k n) := fun q hq => by
  rcases with_mem hq with hq | ⟨hq, hn⟩
  · exact h q hq
  · subst hq; exact hn
theorem val_with {l : Prs} (h : srtP l) (k : ByteArray) (n : Int) (x : ByteArray) : valP (withP l k n) x = if k = x then n else valP l x := by
  induction l with
  | nil =>
    simp only [withP]
    split
    · rename_i e; subst e; split <;> rfl
    · simp only [valP]
  | cons p l ih =>
    obtain ⟨h1, h2⟩ := srtP_cons.1 h
    simp only [withP]
    split
    · rename_i hb
      rw [valP, ih h2, valP]
      by_cases e : p.1 = x
      · rw [if_pos e, if_pos e, if_neg]; rintro rfl; exact blt_ne hb e
      · rw [if_neg e, if_neg e]
    · rename_i hb
      split
      · rename_i e
        subst e
        split
        · rename_i e0; subst e0
          by_cases e : p.1 = x
          · subst e; rw [if_pos rfl]; exact valP_lt h1
          · rw [if_neg e, valP, if_neg e]
        · rw [valP, valP]; split
          · rfl
          · rfl
      · rename_i e
        have hk : blt k p.1 = true := by
          rcases blt_tri p.1 k with k' | k' | k'
          · exact absurd k' hb
          · exact absurd k' e
          · exact k'
        split
        · rename_i e0; subst e0
          by_cases e : k = x
          · subst e; rw [if_pos rfl]
            exact valP_lt fun q hq => by
              rcases List.mem_cons.1 hq with hq | hq
              · subst hq; exact hk
              · exact blt_trans hk (h1 q hq)
          · rw [if_neg e]
        · rw [valP]
theorem keys_with {l : Prs} {k : ByteArray} {n : Int} (h : ∀ p ∈ l, keyB p.1 = true) (hk : keyB k = true) : ∀ p ∈ withP l k n, keyB p.1 = true := fun p hp => by
  rcases with_mem hp with hp | ⟨hp, _⟩
  · exact h p hp
  · subst hp; exact hk
theorem with_len (l : Prs) (k : ByteArray) (n : Int) : (withP l k n).length ≤ l.length + 1 := by
  induction l with
  | nil => simp only [withP]; split <;> simp
  | cons p l ih =>
    simp only [withP]
    split
    · simp only [List.length_cons]; omega
    · split <;> split <;> simp only [List.length_cons] <;> omega
/-- where the key belongs, as a list -/
theorem with_cut {l : Prs} (hs : srtP l) {k : ByteArray} {n : Int} {i : Nat} (hc : cutAt (bltAt (keysP l) k) l.length i) :
    (hitS (keysP l) k i = true → withP l k n = l.take i ++ (if n = 0 then [] else [(k, n)]) ++ l.drop (i + 1)) ∧
    (hitS (keysP l) k i = false → withP l k n = l.take i ++ (if n = 0 then [] else [(k, n)]) ++ l.drop i) := by
  induction l generalizing i with
  | nil =>
    obtain rfl : i = 0 := by have := hc.1; simpa using this
    simp [withP, hitS, keysP]
  | cons p l ih =>
    obtain ⟨h1, h2⟩ := srtP_cons.1 hs
    cases i with
    | zero =>
      have hb := hc.2.2 0 (Nat.le_refl _) (by simp)
      have hb' : blt p.1 k = false := by simpa [bltAt, kAt, keysP] using hb
      have hh : hitS (keysP (p :: l)) k 0 = (p.1.toList == k.toList) := by simp [hitS, kAt, keysP]
      rw [hh, withP, if_neg (by simp [hb'])]
      constructor
      · intro e
        have e : p.1 = k := toList_inj (by simpa using e)
        rw [if_pos e]; split <;> simp
      · intro e
        have e : p.1 ≠ k := by rintro rfl; simp at e
        rw [if_neg e]; split <;> simp
    | succ i =>
      have hb : blt p.1 k = true := by have := hc.2.1 0 (by omega); simpa [bltAt, kAt, keysP] using this
      have hc' : cutAt (bltAt (keysP l) k) l.length i := by
        refine ⟨by have := hc.1; simp at this; omega, fun j hj => ?_, fun j hj hjn => ?_⟩
        · have := hc.2.1 (j + 1) (by omega); simpa [bltAt, kAt, keysP] using this
        · have := hc.2.2 (j + 1) (by omega) (by simp; omega); simpa [bltAt, kAt, keysP] using this
      have hh : hitS (keysP (p :: l)) k (i + 1) = hitS (keysP l) k i := by simp [hitS, kAt, keysP]
      obtain ⟨a, b⟩ := ih h2 hc'
      rw [hh, withP, if_pos hb]
      exact ⟨fun e => by rw [a e]; simp, fun e => by rw [b e]; simp⟩
theorem val_cut {l : Prs} (hs : srtP l) {k : ByteArray} {i : Nat} (hc : cutAt (bltAt (keysP l) k) l.length i) :
    valP l k = if h : i < l.length then (if hitS (keysP l) k i then l[i].2 else 0) else 0 := by
  induction l generalizing i with
  | nil => simp [valP]
  | cons p l ih =>
    obtain ⟨h1, h2⟩ := srtP_cons.1 hs
    cases i with
    | zero =>
      have hb := hc.2.2 0 (Nat.le_refl _) (by simp)
      have hb' : blt p.1 k = false := by simpa [bltAt, kAt, keysP] using hb
      have hh : hitS (keysP (p :: l)) k 0 = (p.1.toList == k.toList) := by simp [hitS, kAt, keysP]
      rw [hh, dif_pos (by simp), valP]
      by_cases e : p.1 = k
      · rw [if_pos e, if_pos (by simp [e])]; rfl
      · have : ¬ (p.1.toList == k.toList) = true := fun h => e (toList_inj (by simpa using h))
        rw [if_neg e, if_neg this]
        refine valP_lt fun q hq => ?_
        have hk : blt k p.1 = true := by
          rcases blt_of_not hb' with k' | k'
          · exact absurd k' e
          · exact k'
        exact blt_trans hk (h1 q hq)
    | succ i =>
      have hb : blt p.1 k = true := by have := hc.2.1 0 (by omega); simpa [bltAt, kAt, keysP] using this
      have hc' : cutAt (bltAt (keysP l) k) l.length i := by
        refine ⟨by have := hc.1; simp at this; omega, fun j hj => ?_, fun j hj hjn => ?_⟩
        · have := hc.2.1 (j + 1) (by omega); simpa [bltAt, kAt, keysP] using this
        · have := hc.2.2 (j + 1) (by omega) (by simp; omega); simpa [bltAt, kAt, keysP] using this
      have hh : hitS (keysP (p :: l)) k (i + 1) = hitS (keysP l) k i := by simp [hitS, kAt, keysP]
      rw [hh, valP, if_neg (blt_ne hb), ih h2 hc']
      simp

/-! P4 -/
def valB (n : Int) : Bool := decide (-1000000000 ≤ n) && decide (n ≤ 1000000000)
def pairErr (l : Prs) (i : Nat) : Int :=
  if keyB (kAt (keysP l) i) = false then 3 else if valB ((l.map (·.2)).getD i 0) = false ∨ (l.map (·.2)).getD i 0 = 0 then 1
  else if 0 < i ∧ blt (kAt (keysP l) (i - 1)) (kAt (keysP l) i) = false then 3 else 0
/-- the first that is no nought -/
def firstE (f : Nat → Int) : Nat → Int
  | 0 => 0
  | n + 1 => if firstE f n = 0 then f n else firstE f n
theorem firstE_zero {f : Nat → Int} : ∀ {n : Nat}, (∀ j, j < n → f j = 0) → firstE f n = 0
  | 0, _ => rfl
  | n + 1, h => by rw [firstE, firstE_zero (fun j hj => h j (by omega)), if_pos rfl]; exact h n (by omega)
theorem firstE_at {f : Nat → Int} {k : Nat} (h : ∀ j, j < k → f j = 0) (hk : f k ≠ 0) : ∀ {n : Nat}, k < n → firstE f n = f k
  | 0, hn => absurd hn (by omega)
  | n + 1, hn => by
    rcases Nat.lt_succ_iff_lt_or_eq.1 hn with h' | h'
    · have := firstE_at h hk h'
      rw [firstE, this, if_neg hk]
    · subst h'; rw [firstE, firstE_zero h, if_pos rfl]
theorem firstE_all {f : Nat → Int} : ∀ {n : Nat}, firstE f n = 0 → ∀ j, j < n → f j = 0
  | 0, _, j, hj => absurd hj (by omega)
  | n + 1, h, j, hj => by
    rw [firstE] at h
    split at h
    · rename_i h0
      rcases Nat.lt_succ_iff_lt_or_eq.1 hj with k | k
      · exact firstE_all h0 j k
      · subst k; exact h
    · contradiction
def storeErr (l : Prs) : Int := firstE (pairErr l) l.length
structure StoreOk (l : Prs) : Prop where
  key : ∀ p ∈ l, keyB p.1 = true
  val : ∀ p ∈ l, p.2 ≠ 0 ∧ -1000000000 ≤ p.2 ∧ p.2 ≤ 1000000000
  srt : srtP l
theorem StoreOk.nz {l : Prs} (h : StoreOk l) : nzP l := fun p hp => (h.val p hp).1
theorem storeOk_nil : StoreOk [] := ⟨by simp, by simp, srtP_nil⟩
theorem pairErr_at {l : Prs} {i : Nat} (h : i < l.length) : pairErr l i = if keyB l[i].1 = false then 3 else if valB l[i].2 = false ∨ l[i].2 = 0 then 1
    else if 0 < i ∧ blt (l[i - 1]'(by omega)).1 l[i].1 = false then 3 else 0 := by
  unfold pairErr
  rw [keysP_at h, keysP_at (show i - 1 < l.length by omega)]
  simp [h]
theorem store_ok {l : Prs} (h : storeErr l = 0) : StoreOk l := by
  have ha := firstE_all h
  have hz : ∀ i, (hi : i < l.length) → keyB l[i].1 = true ∧ (valB l[i].2 = true ∧ l[i].2 ≠ 0) ∧ (0 < i → blt (l[i - 1]'(by omega)).1 l[i].1 = true) := by
    intro i hi
    have := ha i hi
    rw [pairErr_at hi] at this
    split at this
    · cases this
    · rename_i h1
      split at this
      · cases this
      · rename_i h2
        split at this
        · cases this
        · rename_i h3
          refine ⟨by simpa using h1, by simpa using h2, fun h0 => ?_⟩
          cases hb : blt (l[i - 1]'(by omega)).1 l[i].1 with
          | true => rfl
          | false => exact absurd ⟨h0, hb⟩ h3
  refine ⟨fun p hp => ?_, fun p hp => ?_, srtP_of (srt_adj fun i hi => ?_)⟩
  · obtain ⟨i, hi, rfl⟩ := List.mem_iff_getElem.1 hp; exact (hz i hi).1
  · obtain ⟨i, hi, rfl⟩ := List.mem_iff_getElem.1 hp
    have := (hz i hi).2.1
    simp only [valB, Bool.and_eq_true, decide_eq_true_eq] at this
    exact ⟨this.2, this.1⟩
  · rw [keysP_len] at hi
    rw [keysP_at hi, keysP_at (show i < l.length by omega)]
    exact (hz (i + 1) hi).2.2 (by omega)
theorem storeErr_ok {l : Prs} (h : StoreOk l) : storeErr l = 0 := by
  refine firstE_zero fun i hi => ?_
  have hm := List.getElem_mem hi
  have hv := h.val _ hm
  rw [pairErr_at hi, if_neg (by simp [h.key _ hm]), if_neg, if_neg]
  · rintro ⟨h0, hb⟩
    have := List.pairwise_iff_getElem.1 h.srt (i - 1) i (by omega) hi (by omega)
    rw [hb] at this; cases this
  · simp [valB]; omega
theorem storeOk_with {l : Prs} (h : StoreOk l) {k : ByteArray} {n : Int} (hk : keyB k = true) (hn : -1000000000 ≤ n ∧ n ≤ 1000000000) : StoreOk (withP l k n) :=
  ⟨keys_with h.key hk, fun p hp => by
    rcases with_mem hp with hp | ⟨hp, h0⟩
    · exact h.val p hp
    · subst hp; exact ⟨h0, hn⟩, srt_with h.srt k n⟩
theorem store_ext {l m : Prs} (h : StoreOk l) (k : StoreOk m) (e : ∀ x, valP l x = valP m x) : l = m := prs_ext h.srt k.srt h.nz k.nz e
theorem mem_of_filter {α : Type} {p : α → Bool} {x : α} {l : List α} (h : x ∈ l.filter p) : x ∈ l := (List.mem_filter.1 h).1
theorem storeOk_filter {l : Prs} (h : StoreOk l) (p : ByteArray × Int → Bool) : StoreOk (l.filter p) :=
  ⟨fun q hq => h.key q (mem_of_filter hq), fun q hq => h.val q (mem_of_filter hq), List.Pairwise.filter _ h.srt⟩
theorem val_filter {l : Prs} (h : srtP l) (p : ByteArray × Int → Bool) (k : ByteArray) : valP (l.filter p) k = if p (k, valP l k) then valP l k else 0 := by
  induction l with
  | nil => simp only [List.filter_nil, valP]; exact (ite_self 0).symm
  | cons q l ih =>
    obtain ⟨h1, h2⟩ := srtP_cons.1 h
    rw [List.filter_cons]
    by_cases e : q.1 = k
    · have e2 : q = (k, q.2) := by rw [← e]
      have hv : valP (q :: l) k = q.2 := by rw [valP, if_pos e]
      rw [hv]
      cases hp : p q with
      | true => rw [if_pos rfl, valP, if_pos e, if_pos (by rw [← e2]; exact hp)]
      | false =>
        rw [if_neg (by simp), if_neg (by rw [← e2, hp]; simp)]
        exact valP_lt fun r hr => by rw [← e]; exact h1 r (mem_of_filter hr)
    · have hv : valP (q :: l) k = valP l k := by rw [valP, if_neg e]
      rw [hv]
      split
      · rw [valP, if_neg e, ih h2]
      · exact ih h2
end Go.Proofs.Ytijcckhkofkenaa

/- Contracts and lemmas for the proofs of this seat; each theorem states its own conditions. -/
namespace Go.Proofs.Ytijcckhkofkenaa
open Go.RowKit
theorem value_any (n : Int) (w : World) : Calls Try.prog 98 #[.int .i64 n] w fun e w' => e = .returned (.bool (valB n)) ∧ w = w' := by
  by_cases h1 : -1000000000 ≤ n
  · by_cases h2 : n ≤ 1000000000
    · have HV := hid (show valB n = true by simp [valB, h1, h2])
      go_enter Try.func98, Try.ntmps98
      go_wp2
      go_ret
      exact ⟨rB HV.out.symm, rfl⟩
    · have HV := hid (show valB n = false by simp [valB, h2])
      have h2' : 1000000000 < n := by omega
      go_enter Try.func98, Try.ntmps98
      go_wp2
      go_ret
      exact ⟨rB HV.out.symm, rfl⟩
  · have HV := hid (show valB n = false by simp [valB, h1])
    have h1' : n < -1000000000 := by omega
    go_enter Try.func98, Try.ntmps98
    go_wp2
    go_ret
    exact ⟨rB HV.out.symm, rfl⟩
theorem seg_pair {w : World} {b off : Nat} {l : Prs} (hc : ∀ j u, (cP l)[j]? = some u → w.cell? ⟨b, off + j, none⟩ = some u) {k : Nat} (hk : k < l.length) :
    w.cell? ⟨b, off + k * 2, none⟩ = some (.string l[k].1) ∧ w.cell? ⟨b, off + k * 2 + 1, none⟩ = some (.int .i64 l[k].2) :=
  ⟨hc _ _ (cP_at0 l k hk), by rw [Nat.add_assoc]; exact hc _ _ (cP_at1 l k hk)⟩
theorem pairErr_key {l : Prs} {k : Nat} (hk : k < l.length) (h : keyB l[k].1 = false) : pairErr l k = 3 := by rw [pairErr_at hk, if_pos h]
theorem pairErr_val {l : Prs} {k : Nat} (hk : k < l.length) (h : keyB l[k].1 = true) (h2 : valB l[k].2 = false ∨ l[k].2 = 0) : pairErr l k = 1 := by rw [pairErr_at hk, if_neg (by simp [h]), if_pos h2]
theorem pairErr_ord {l : Prs} {k : Nat} (hk : k < l.length) (h : keyB l[k].1 = true) (h2 : valB l[k].2 = true) (h3 : l[k].2 ≠ 0) (h4 : 0 < k) (h5 : blt (l[k - 1]'(by omega)).1 l[k].1 = false) : pairErr l k = 3 := by
  rw [pairErr_at hk, if_neg (by simp [h]), if_neg (by simp [h2, h3]), if_pos ⟨h4, h5⟩]
theorem pairErr_no {l : Prs} {k : Nat} (hk : k < l.length) (h : keyB l[k].1 = true) (h2 : valB l[k].2 = true) (h3 : l[k].2 ≠ 0) (h5 : 0 < k → blt (l[k - 1]'(by omega)).1 l[k].1 = true) : pairErr l k = 0 := by
  rw [pairErr_at hk, if_neg (by simp [h]), if_neg (by simp [h2, h3]), if_neg]
  rintro ⟨h6, h7⟩; rw [h5 h6] at h7; cases h7
theorem zeroTo_succ {f : Nat → Int} {k : Nat} (h : ∀ j, j < k → f j = 0) (hk : f k = 0) : ∀ j, j < k + 1 → f j = 0 := by
  intro j hj
  rcases Nat.lt_succ_iff_lt_or_eq.1 hj with h' | h'
  · exact h j h'
  · subst h'; exact hk
def zeroTo (f : Nat → Int) (k : Nat) : Prop := ∀ j, j < k → f j = 0
set_option maxRecDepth 10000 in
set_option maxHeartbeats 1000000 in
theorem scheck_any (v : Value) (l : Prs) (w : World) (hv : Seg w v 2 l.length (cP l)) (hk : ∀ p ∈ l, p.1.size ≤ 9223372036854775807) :
    Calls Try.prog 62 #[v] w fun e w' => e = .returned (.int .i64 (storeErr l)) ∧ Ext w w' := by
  obtain ⟨h0, a, cap, rfl, h1, h2, h3⟩ := hv
  unfold maxLen at h2
  go_enter Try.func62, Try.ntmps62
  go_wp2
  go_loopw [2, 3, 4, 7] (fun r _ _ i wr => ∃ k : Nat, k ≤ l.length ∧ i = .int .i64 k ∧ r = .int .i64 0 ∧ zeroTo (pairErr l) k ∧ Ext w wr) (fun _ _ _ i _ => l.length - (intOf i).toNat)
  case atStart => exact ⟨0, Nat.zero_le _, rfl, rfl, fun j h => absurd h (by omega), Ext.refl _⟩
  case round =>
    obtain ⟨k, hkl, rfl, rfl, hall, E⟩ := hrel
    by_cases hlt : k < l.length
    · obtain ⟨b, off, rfl, hc⟩ := h3 (by omega)
      have c := seg_pair hc hlt
      have c0 := E.cell c.1
      have c1 := E.cell c.2
      have hsz := hk l[k] (List.getElem_mem hlt)
      have bx := heap_alloc_new wr (.cells #[.string l[k].1, .int .i64 l[k].2] 90)
      have xx := blk2 bx
      have EA := (Ext.refl wr).alloc (.cells #[.string l[k].1, .int .i64 l[k].2] 90)
      cases hkey : keyB l[k].1 with
      | false =>
        have HF := hid (firstE_at hall (show pairErr l k ≠ 0 by rw [pairErr_key hlt hkey]; omega) hlt)
        have HG := hid (pairErr_key hlt hkey)
        clear hall hc h3
        go_wp2_with fail
        refine (key_any _ _ hsz).mono ?_
        rintro e w' ⟨rfl, rfl⟩
        go_wp2
        go_ret
        exact ⟨rI (by unfold storeErr; rw [HF.out, HG.out]), E.trans EA⟩
      | true =>
        cases hvb : valB l[k].2 with
        | false =>
          have HF := hid (firstE_at hall (show pairErr l k ≠ 0 by rw [pairErr_val hlt hkey (.inl hvb)]; omega) hlt)
          have HG := hid (pairErr_val hlt hkey (.inl hvb))
          clear hall hc h3
          go_wp2_with fail
          refine (key_any _ _ hsz).mono ?_
          rintro e w' ⟨rfl, rfl⟩
          go_wp2_with fail
          refine (value_any _ _).mono ?_
          rintro e w' ⟨rfl, rfl⟩
          go_wp2
          go_ret
          exact ⟨rI (by unfold storeErr; rw [HF.out, HG.out]), E.trans EA⟩
        | true =>
          by_cases hz : l[k].2 = 0
          · have hz' : (l[k].2 == 0) = true := by simp [hz]
            have HF := hid (firstE_at hall (show pairErr l k ≠ 0 by rw [pairErr_val hlt hkey (.inr hz)]; omega) hlt)
            have HG := hid (pairErr_val hlt hkey (.inr hz))
            clear hall hc h3 hz
            go_wp2_with fail
            refine (key_any _ _ hsz).mono ?_
            rintro e w' ⟨rfl, rfl⟩
            go_wp2_with fail
            refine (value_any _ _).mono ?_
            rintro e w' ⟨rfl, rfl⟩
            go_wp2
            go_ret
            exact ⟨rI (by unfold storeErr; rw [HF.out, HG.out]), E.trans EA⟩
          · have hz' : (l[k].2 == 0) = false := by simp [hz]
            have HZ := hid hz
            clear hz
            cases k with
            | zero =>
              have hs := zeroTo_succ hall (pairErr_no hlt hkey hvb HZ.out (fun h => absurd h (by omega)))
              have HS := hid hs
              simp only [Nat.zero_mul, Nat.add_zero] at c0 c1
              clear hall hs hc h3
              go_wp2_with fail
              refine (key_any _ _ hsz).mono ?_
              rintro e w' ⟨rfl, rfl⟩
              go_wp2_with fail
              refine (value_any _ _).mono ?_
              rintro e w' ⟨rfl, rfl⟩
              go_wp2_with fail
              go_quiet (fail)
              go_wp2
              go_roundw
              case rel => exact ⟨1, by omega, by go_num, rfl, HS.out, (E.trans EA).drewN _⟩
              case measure => simp [intOf]; omega
            | succ k =>
              have d0 := EA.cell (E.cell (seg_pair hc (show k < l.length by omega)).1)
              cases hb : blt (l[k]'(by omega)).1 l[k + 1].1 with
              | false =>
                have hb' : Op.bytesLess (l[k]'(by omega)).1.toList l[k + 1].1.toList = false := hb
                have HG := hid (pairErr_ord hlt hkey hvb HZ.out (by omega) hb)
                have HF := hid (firstE_at hall (show pairErr l (k + 1) ≠ 0 by rw [HG.out]; omega) hlt)
                clear hall hc h3
                go_wp2_with fail
                refine (key_any _ _ hsz).mono ?_
                rintro e w' ⟨rfl, rfl⟩
                go_wp2_with fail
                refine (value_any _ _).mono ?_
                rintro e w' ⟨rfl, rfl⟩
                go_wp2_with fail
                go_quiet (fail)
                go_wp2
                go_ret
                exact ⟨rI (by unfold storeErr; rw [HF.out, HG.out]), by (repeat (first | (with_reducible assumption) | (with_reducible exact Ext.refl _) | (with_reducible refine Ext.drew ?_) | (with_reducible refine Ext.drewN ?_ _) | (with_reducible refine Ext.alloc ?_ _) | (with_reducible refine Ext.trans ?_ (by with_reducible assumption))))⟩
              | true =>
                have hb' : Op.bytesLess (l[k]'(by omega)).1.toList l[k + 1].1.toList = true := hb
                have HS := hid (zeroTo_succ hall (pairErr_no hlt hkey hvb HZ.out (fun _ => hb)))
                clear hall hc h3
                go_wp2_with fail
                refine (key_any _ _ hsz).mono ?_
                rintro e w' ⟨rfl, rfl⟩
                go_wp2_with fail
                refine (value_any _ _).mono ?_
                rintro e w' ⟨rfl, rfl⟩
                go_wp2_with fail
                go_quiet (fail)
                go_wp2
                go_roundw
                case rel => exact ⟨k + 1 + 1, by omega, by go_num, rfl, HS.out, (E.trans EA).drewN _⟩
                case measure => simp [intOf]; omega
    · go_wp2
      go_ret
      obtain rfl : k = l.length := by omega
      exact ⟨rI (firstE_zero hall).symm, E⟩
end Go.Proofs.Ytijcckhkofkenaa

/- Contracts and lemmas for the proofs of this seat; each theorem states its own conditions. -/
namespace Go.Proofs.Ytijcckhkofkenaa
open Go.Shelf
def lays106_ren : Go.Shelf.Ren := ⟨fun | 106 => 133 | 213 => 156 | 265 => 182 | n => n, fun | 9 => 9 | 3 => 3 | n => n, fun | n => n⟩
theorem lays106 : Go.Proofs.Lays.n106 Try.prog lays106_ren := {
  mixed := by kernel_rfl
  f106 := Try.func133.trans (congrArg some (by kernel_rfl))
  f213 := Try.func156.trans (congrArg some (by kernel_rfl))
  f265 := Try.func182.trans (congrArg some (by kernel_rfl))
  t3 := Try.underlying3
  a3 := Try.isAgg3
  z3 := Try.sizeOf3
  v3 := Try.zeroValue3
  t9 := Try.underlying9
  a9 := Try.isAgg9
  z9 := Try.sizeOf9
  v9 := Try.zeroValue9 }
def lays190_ren : Go.Shelf.Ren := ⟨fun | 190 => 88 | 125 => 121 | 258 => 120 | 128 => 148 | 129 => 149 | 302 => 140 | 303 => 141 | 304 => 142 | 305 => 143 | 306 => 144 | 307 => 145 | 308 => 114 | 309 => 146 | 310 => 147 | 333 => 159 | 329 => 160 | 330 => 161 | 334 => 162 | 335 => 163 | 336 => 137 | 344 => 183 | n => n, fun | 31 => 24 | 9 => 9 | 3 => 3 | 46 => 167 | 0 => 0 | 51 => 195 | 53 => 115 | 4 => 4 | 183 => 189 | 182 => 188 | 131 => 126 | 5 => 5 | 218 => 209 | 222 => 213 | 228 => 225 | 229 => 226 | n => n, fun | n => n⟩
theorem lays190 : Go.Proofs.Lays.n190 Try.prog lays190_ren := {
  mixed := by kernel_rfl
  f125 := Try.func121.trans (congrArg some (by kernel_rfl))
  f128 := Try.func148.trans (congrArg some (by kernel_rfl))
  f129 := Try.func149.trans (congrArg some (by kernel_rfl))
  f190 := Try.func88.trans (congrArg some (by kernel_rfl))
  f258 := Try.func120.trans (congrArg some (by kernel_rfl))
  f302 := Try.func140.trans (congrArg some (by kernel_rfl))
  f303 := Try.func141.trans (congrArg some (by kernel_rfl))
  f304 := Try.func142.trans (congrArg some (by kernel_rfl))
  f305 := Try.func143.trans (congrArg some (by kernel_rfl))
  f306 := Try.func144.trans (congrArg some (by kernel_rfl))
  f307 := Try.func145.trans (congrArg some (by kernel_rfl))
  f308 := Try.func114.trans (congrArg some (by kernel_rfl))
  f309 := Try.func146.trans (congrArg some (by kernel_rfl))
  f310 := Try.func147.trans (congrArg some (by kernel_rfl))
  f329 := Try.func160.trans (congrArg some (by kernel_rfl))
  f330 := Try.func161.trans (congrArg some (by kernel_rfl))
  f333 := Try.func159.trans (congrArg some (by kernel_rfl))
  f334 := Try.func162.trans (congrArg some (by kernel_rfl))
  f335 := Try.func163.trans (congrArg some (by kernel_rfl))
  f336 := Try.func137.trans (congrArg some (by kernel_rfl))
  f344 := Try.func183.trans (congrArg some (by kernel_rfl))
  t0 := Try.underlying0
  a0 := Try.isAgg0
  z0 := Try.sizeOf0
  v0 := Try.zeroValue0
  t3 := Try.underlying3
  a3 := Try.isAgg3
  z3 := Try.sizeOf3
  v3 := Try.zeroValue3
  t4 := Try.underlying4
  a4 := Try.isAgg4
  z4 := Try.sizeOf4
  v4 := Try.zeroValue4
  t5 := Try.underlying5
  a5 := Try.isAgg5
  z5 := Try.sizeOf5
  v5 := Try.zeroValue5
  t9 := Try.underlying9
  a9 := Try.isAgg9
  z9 := Try.sizeOf9
  v9 := Try.zeroValue9
  t31 := Try.underlying24
  a31 := Try.isAgg24
  z31 := Try.sizeOf24
  v31 := Try.zeroValue24
  t46 := Try.underlying167
  a46 := Try.isAgg167
  z46 := Try.sizeOf167
  v46 := Try.zeroValue167
  t51 := Try.underlying195
  a51 := Try.isAgg195
  z51 := Try.sizeOf195
  v51 := Try.zeroValue195
  t53 := Try.underlying115
  a53 := Try.isAgg115
  z53 := Try.sizeOf115
  v53 := Try.zeroValue115
  t131 := Try.underlying126
  a131 := Try.isAgg126
  z131 := Try.sizeOf126
  v131 := Try.zeroValue126
  t182 := Try.underlying188
  a182 := Try.isAgg188
  z182 := Try.sizeOf188
  v182 := Try.zeroValue188
  t183 := Try.underlying189
  a183 := Try.isAgg189
  z183 := Try.sizeOf189
  v183 := Try.zeroValue189
  t218 := Try.underlying209
  a218 := Try.isAgg209
  z218 := Try.sizeOf209
  v218 := Try.zeroValue209
  t222 := Try.underlying213
  a222 := Try.isAgg213
  z222 := Try.sizeOf213
  v222 := Try.zeroValue213
  t228 := Try.underlying225
  a228 := Try.isAgg225
  z228 := Try.sizeOf225
  v228 := Try.zeroValue225
  t229 := Try.underlying226
  a229 := Try.isAgg226
  z229 := Try.sizeOf226
  v229 := Try.zeroValue226 }
def laysGg6_ren : Go.Shelf.Ren := ⟨fun | 6 => 127 | 10 => 150 | 11 => 151 | 12 => 152 | 13 => 121 | 14 => 153 | 24 => 148 | 25 => 149 | 26 => 173 | 27 => 174 | 28 => 175 | 29 => 176 | 30 => 177 | 31 => 178 | 32 => 179 | 33 => 180 | 34 => 184 | 35 => 185 | 36 => 186 | 37 => 187 | 38 => 188 | 39 => 190 | n => n, fun | 20 => 20 | 26 => 177 | 35 => 200 | 0 => 0 | 37 => 202 | 3 => 3 | 41 => 167 | 44 => 206 | 49 => 195 | 51 => 115 | 4 => 4 | 54 => 220 | 53 => 219 | 58 => 126 | 5 => 5 | 9 => 9 | 60 => 228 | 64 => 213 | 66 => 232 | 67 => 226 | 17 => 17 | 32 => 197 | 33 => 198 | 82 => 247 | 12 => 12 | 75 => 240 | 76 => 241 | 77 => 242 | 78 => 243 | 79 => 244 | 80 => 245 | n => n, fun | n => n⟩
theorem laysGg6 : Go.Proofs.LaysGg.n6 Try.prog laysGg6_ren := {
  mixed := by kernel_rfl
  f6 := Try.func127.trans (congrArg some (by kernel_rfl))
  f10 := Try.func150.trans (congrArg some (by kernel_rfl))
  f11 := Try.func151.trans (congrArg some (by kernel_rfl))
  f12 := Try.func152.trans (congrArg some (by kernel_rfl))
  f13 := Try.func121.trans (congrArg some (by kernel_rfl))
  f14 := Try.func153.trans (congrArg some (by kernel_rfl))
  f24 := Try.func148.trans (congrArg some (by kernel_rfl))
  f25 := Try.func149.trans (congrArg some (by kernel_rfl))
  f26 := Try.func173.trans (congrArg some (by kernel_rfl))
  f27 := Try.func174.trans (congrArg some (by kernel_rfl))
  f28 := Try.func175.trans (congrArg some (by kernel_rfl))
  f29 := Try.func176.trans (congrArg some (by kernel_rfl))
  f30 := Try.func177.trans (congrArg some (by kernel_rfl))
  f31 := Try.func178.trans (congrArg some (by kernel_rfl))
  f32 := Try.func179.trans (congrArg some (by kernel_rfl))
  f33 := Try.func180.trans (congrArg some (by kernel_rfl))
  f34 := Try.func184.trans (congrArg some (by kernel_rfl))
  f35 := Try.func185.trans (congrArg some (by kernel_rfl))
  f36 := Try.func186.trans (congrArg some (by kernel_rfl))
  f37 := Try.func187.trans (congrArg some (by kernel_rfl))
  f38 := Try.func188.trans (congrArg some (by kernel_rfl))
  f39 := Try.func190.trans (congrArg some (by kernel_rfl))
  t0 := Try.underlying0
  a0 := Try.isAgg0
  z0 := Try.sizeOf0
  v0 := Try.zeroValue0
  i0 := by kernel_rfl
  t3 := Try.underlying3
  a3 := Try.isAgg3
  z3 := Try.sizeOf3
  v3 := Try.zeroValue3
  i3 := by kernel_rfl
  t4 := Try.underlying4
  a4 := Try.isAgg4
  z4 := Try.sizeOf4
  v4 := Try.zeroValue4
  i4 := by kernel_rfl
  t5 := Try.underlying5
  a5 := Try.isAgg5
  z5 := Try.sizeOf5
  v5 := Try.zeroValue5
  i5 := by kernel_rfl
  t9 := Try.underlying9
  a9 := Try.isAgg9
  z9 := Try.sizeOf9
  v9 := Try.zeroValue9
  i9 := by kernel_rfl
  t12 := Try.underlying12
  a12 := Try.isAgg12
  z12 := Try.sizeOf12
  v12 := Try.zeroValue12
  i12 := by kernel_rfl
  t17 := Try.underlying17
  a17 := Try.isAgg17
  z17 := Try.sizeOf17
  v17 := Try.zeroValue17
  i17 := by kernel_rfl
  t20 := Try.underlying20
  a20 := Try.isAgg20
  z20 := Try.sizeOf20
  v20 := Try.zeroValue20
  i20 := by kernel_rfl
  t26 := Try.underlying177
  a26 := Try.isAgg177
  z26 := Try.sizeOf177
  v26 := Try.zeroValue177
  i26 := by kernel_rfl
  t32 := Try.underlying197
  a32 := Try.isAgg197
  z32 := Try.sizeOf197
  v32 := Try.zeroValue197
  i32 := by kernel_rfl
  t33 := Try.underlying198
  a33 := Try.isAgg198
  z33 := Try.sizeOf198
  v33 := Try.zeroValue198
  i33 := by kernel_rfl
  t35 := Try.underlying200
  a35 := Try.isAgg200
  z35 := Try.sizeOf200
  v35 := Try.zeroValue200
  i35 := by kernel_rfl
  t37 := Try.underlying202
  a37 := Try.isAgg202
  z37 := Try.sizeOf202
  v37 := Try.zeroValue202
  i37 := by kernel_rfl
  t41 := Try.underlying167
  a41 := Try.isAgg167
  z41 := Try.sizeOf167
  v41 := Try.zeroValue167
  i41 := by kernel_rfl
  t44 := Try.underlying206
  a44 := Try.isAgg206
  z44 := Try.sizeOf206
  v44 := Try.zeroValue206
  i44 := by kernel_rfl
  t49 := Try.underlying195
  a49 := Try.isAgg195
  z49 := Try.sizeOf195
  v49 := Try.zeroValue195
  i49 := by kernel_rfl
  t51 := Try.underlying115
  a51 := Try.isAgg115
  z51 := Try.sizeOf115
  v51 := Try.zeroValue115
  i51 := by kernel_rfl
  t53 := Try.underlying219
  a53 := Try.isAgg219
  z53 := Try.sizeOf219
  v53 := Try.zeroValue219
  i53 := by kernel_rfl
  t54 := Try.underlying220
  a54 := Try.isAgg220
  z54 := Try.sizeOf220
  v54 := Try.zeroValue220
  i54 := by kernel_rfl
  t58 := Try.underlying126
  a58 := Try.isAgg126
  z58 := Try.sizeOf126
  v58 := Try.zeroValue126
  i58 := by kernel_rfl
  t60 := Try.underlying228
  a60 := Try.isAgg228
  z60 := Try.sizeOf228
  v60 := Try.zeroValue228
  i60 := by kernel_rfl
  t64 := Try.underlying213
  a64 := Try.isAgg213
  z64 := Try.sizeOf213
  v64 := Try.zeroValue213
  i64 := by kernel_rfl
  t66 := Try.underlying232
  a66 := Try.isAgg232
  z66 := Try.sizeOf232
  v66 := Try.zeroValue232
  i66 := by kernel_rfl
  t67 := Try.underlying226
  a67 := Try.isAgg226
  z67 := Try.sizeOf226
  v67 := Try.zeroValue226
  i67 := by kernel_rfl
  t75 := Try.underlying240
  a75 := Try.isAgg240
  z75 := Try.sizeOf240
  v75 := Try.zeroValue240
  i75 := by kernel_rfl
  t76 := Try.underlying241
  a76 := Try.isAgg241
  z76 := Try.sizeOf241
  v76 := Try.zeroValue241
  i76 := by kernel_rfl
  t77 := Try.underlying242
  a77 := Try.isAgg242
  z77 := Try.sizeOf242
  v77 := Try.zeroValue242
  i77 := by kernel_rfl
  t78 := Try.underlying243
  a78 := Try.isAgg243
  z78 := Try.sizeOf243
  v78 := Try.zeroValue243
  i78 := by kernel_rfl
  t79 := Try.underlying244
  a79 := Try.isAgg244
  z79 := Try.sizeOf244
  v79 := Try.zeroValue244
  i79 := by kernel_rfl
  t80 := Try.underlying245
  a80 := Try.isAgg245
  z80 := Try.sizeOf245
  v80 := Try.zeroValue245
  i80 := by kernel_rfl
  t82 := Try.underlying247
  a82 := Try.isAgg247
  z82 := Try.sizeOf247
  v82 := Try.zeroValue247
  i82 := by kernel_rfl }
def lays194_ren : Go.Shelf.Ren := ⟨fun | 194 => 89 | n => n, fun | 31 => 24 | 9 => 9 | 3 => 3 | 4 => 4 | 0 => 0 | n => n, fun | n => n⟩
theorem lays194 : Go.Proofs.Lays.n194 Try.prog lays194_ren := {
  mixed := by kernel_rfl
  f194 := Try.func89.trans (congrArg some (by kernel_rfl))
  t0 := Try.underlying0
  a0 := Try.isAgg0
  z0 := Try.sizeOf0
  v0 := Try.zeroValue0
  t3 := Try.underlying3
  a3 := Try.isAgg3
  z3 := Try.sizeOf3
  v3 := Try.zeroValue3
  t4 := Try.underlying4
  a4 := Try.isAgg4
  z4 := Try.sizeOf4
  v4 := Try.zeroValue4
  t9 := Try.underlying9
  a9 := Try.isAgg9
  z9 := Try.sizeOf9
  v9 := Try.zeroValue9
  t31 := Try.underlying24
  a31 := Try.isAgg24
  z31 := Try.sizeOf24
  v31 := Try.zeroValue24 }
end Go.Proofs.Ytijcckhkofkenaa
