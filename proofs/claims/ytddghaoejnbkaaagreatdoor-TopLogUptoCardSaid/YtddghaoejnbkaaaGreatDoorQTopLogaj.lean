/- Contracts and lemmas for the proof of TopLog; each theorem states its own conditions. -/
import Derived.Test.YtddghaoejnbkaaaGreatDoorQTopLogaf
set_option linter.unusedVariables false
set_option linter.unusedSimpArgs false
/- Contracts and lemmas for the proofs of this seat; each theorem states its own conditions. -/
namespace Go.Proofs.YtddghaoejnbkaaaGreatDoor
/-! stores, in plain lists -/
abbrev Prs := List (ByteArray × Int)
def keysP (l : Prs) : List ByteArray := l.map (·.1)
theorem keysP_len (l : Prs) : (keysP l).length = l.length := by simp [keysP]
theorem keysP_at {l : Prs} {i : Nat} (h : i < l.length) : kAt (keysP l) i = l[i].1 := by
  rw [kAt_eq (by rw [keysP_len]; exact h)]; simp [keysP]
theorem keysP_get {l : Prs} {i : Nat} (h : i < (keysP l).length) : (keysP l)[i] = (l[i]'(by rw [keysP_len] at h; exact h)).1 := by simp [keysP]
/-- the value of a key, 0 if it is not there -/
def valP : Prs → ByteArray → Int
  | [], _ => 0
  | p :: l, k => if p.1 = k then p.2 else valP l k
/-- strictly sorted by keys -/
def srtP (l : Prs) : Prop := l.Pairwise fun a b => blt a.1 b.1 = true
theorem srtP_nil : srtP [] := List.Pairwise.nil
theorem srtP_cons {p : ByteArray × Int} {l : Prs} : srtP (p :: l) ↔ (∀ q ∈ l, blt p.1 q.1 = true) ∧ srtP l := List.pairwise_cons
theorem srtP_keys {l : Prs} (h : srtP l) : srt (keysP l) := fun i j hij hj => by
  rw [keysP_len] at hj
  rw [keysP_at hj, keysP_at (show i < l.length by omega)]
  exact List.pairwise_iff_getElem.1 h i j (by omega) hj hij
theorem srtP_of {l : Prs} (h : srt (keysP l)) : srtP l := List.pairwise_iff_getElem.2 fun i j hi hj hij => by
  have := h i j hij (by rw [keysP_len]; exact hj)
  rwa [keysP_at hi, keysP_at hj] at this
/-- no value is nought -/
def nzP (l : Prs) : Prop := ∀ p ∈ l, p.2 ≠ 0
theorem valP_none {l : Prs} {k : ByteArray} (h : ∀ p ∈ l, p.1 ≠ k) : valP l k = 0 := by
  induction l with
  | nil => rfl
  | cons p l ih =>
    rw [valP, if_neg (h p (by simp))]
    exact ih fun q hq => h q (by simp [hq])
theorem valP_mem {l : Prs} (hs : srtP l) {p : ByteArray × Int} (h : p ∈ l) : valP l p.1 = p.2 := by
  induction l with
  | nil => simp at h
  | cons q l ih =>
    obtain ⟨h1, h2⟩ := srtP_cons.1 hs
    rcases List.mem_cons.1 h with h' | h'
    · subst h'; simp [valP]
    · rw [valP, if_neg (blt_ne (h1 p h')), ih h2 h']
theorem valP_ne {l : Prs} {k : ByteArray} (h : valP l k ≠ 0) : (k, valP l k) ∈ l := by
  induction l with
  | nil => simp [valP] at h
  | cons q l ih =>
    rw [valP] at h ⊢
    split at h
    · rename_i e; rw [if_pos e]; simp [← e]
    · rename_i e; rw [if_neg e]; exact List.mem_cons_of_mem _ (ih h)
theorem mem_valP {l : Prs} (hs : srtP l) (hz : nzP l) {k : ByteArray} {v : Int} : (k, v) ∈ l ↔ valP l k = v ∧ v ≠ 0 := by
  constructor
  · intro h; exact ⟨valP_mem hs h, hz _ h⟩
  · rintro ⟨rfl, h⟩; exact valP_ne h
theorem valP_lt {l : Prs} {k : ByteArray} (h : ∀ p ∈ l, blt k p.1 = true) : valP l k = 0 := valP_none fun p hp e => by
  have := h p hp; rw [e, blt_irrefl] at this; cases this
/-- two sorted lists of like values are one -/
theorem prs_ext {l m : Prs} (hl : srtP l) (hm : srtP m) (zl : nzP l) (zm : nzP m) (h : ∀ k, valP l k = valP m k) : l = m := by
  induction l generalizing m with
  | nil =>
    cases m with
    | nil => rfl
    | cons q m =>
      have := h q.1
      rw [valP_mem hm (List.mem_cons_self ..)] at this
      exact absurd this.symm (zm q (by simp))
  | cons p l ih =>
    obtain ⟨p1, p2⟩ := srtP_cons.1 hl
    cases m with
    | nil =>
      have := h p.1
      rw [valP_mem hl (List.mem_cons_self ..)] at this
      exact absurd this (zl p (by simp))
    | cons q m =>
      obtain ⟨q1, q2⟩ := srtP_cons.1 hm
      have a := h p.1
      rw [valP_mem hl (List.mem_cons_self ..)] at a
      have b := h q.1
      rw [valP_mem hm (List.mem_cons_self ..)] at b
      have e : p.1 = q.1 := by
        rcases blt_tri p.1 q.1 with k | k | k
        · rw [valP_lt (l := q :: m) (fun r hr => by rcases List.mem_cons.1 hr with hr | hr
                                                    · subst hr; exact k
                                                    · exact blt_trans k (q1 r hr))] at a
          exact absurd a (zl p (by simp))
        · exact k
        · rw [valP_lt (l := p :: l) (fun r hr => by rcases List.mem_cons.1 hr with hr | hr
                                                    · subst hr; exact k
                                                    · exact blt_trans k (p1 r hr))] at b
          exact absurd b.symm (zm q (by simp))
      have e2 : p.2 = q.2 := by
        have c := valP_mem hm (List.mem_cons_self : q ∈ q :: m)
        rw [← e] at c; rw [← c]; exact a
      have e3 : p = q := Prod.ext e e2
      subst e3
      congr 1
      refine ih p2 q2 (fun r hr => zl r (by simp [hr])) (fun r hr => zm r (by simp [hr])) fun k => ?_
      by_cases hk : p.1 = k
      · subst hk; rw [valP_lt p1, valP_lt q1]
      · have := h k; rw [valP, valP, if_neg hk, if_neg hk] at this; exact this
/-- with a value of a key (0: without it) -/
def withP : Prs → ByteArray → Int → Prs
  | [], k, n => if n = 0 then [] else [(k, n)]
  | p :: l, k, n => if blt p.1 k then p :: withP l k n else if p.1 = k then (if n = 0 then l else (k, n) :: l) else (if n = 0 then p :: l else (k, n) :: p :: l)
theorem with_mem {l : Prs} {k : ByteArray} {n : Int} {q : ByteArray × Int} (h : q ∈ withP l k n) : q ∈ l ∨ (q = (k, n) ∧ n ≠ 0) := by
  induction l with
  | nil => simp only [withP] at h; split at h <;> simp_all
  | cons p l ih =>
    simp only [withP] at h
    split at h
    · rcases List.mem_cons.1 h with h | h
      · left; simp [h]
      · rcases ih h with h | h
        · left; simp [h]
        · exact .inr h
    · split at h
      · split at h
        · left; simp [h]
        · rcases List.mem_cons.1 h with h | h
          · exact .inr ⟨h, by assumption⟩
          · left; simp [h]
      · split at h
        · exact .inl h
        · rcases List.mem_cons.1 h with h | h
          · exact .inr ⟨h, by assumption⟩
          · exact .inl h
theorem srt_with {l : Prs} (h : srtP l) (k : ByteArray) (n : Int) : srtP (withP l k n) := by
  induction l with
  | nil => simp only [withP]; split <;> simp [srtP]
  | cons p l ih =>
    obtain ⟨h1, h2⟩ := srtP_cons.1 h
    simp only [withP]
    split
    · rename_i hb
      refine srtP_cons.2 ⟨fun q hq => ?_, ih h2⟩
      rcases with_mem hq with hq | ⟨hq, _⟩
      · exact h1 q hq
      · subst hq; exact hb
    · rename_i hb
      split
      · rename_i e
        split
        · exact h2
        · exact srtP_cons.2 ⟨fun q hq => by rw [← e]; exact h1 q hq, h2⟩
      · rename_i e
        split
        · exact h
        · refine srtP_cons.2 ⟨fun q hq => ?_, h⟩
          have hk : blt k p.1 = true := by
            rcases blt_tri p.1 k with k' | k' | k'
            · exact absurd k' hb
            · exact absurd k' e
            · exact k'
          rcases List.mem_cons.1 hq with hq | hq
          · subst hq; exact hk
          · exact blt_trans hk (h1 q hq)
theorem val_with {l : Prs} (h : srtP l) (k : ByteArray) (n : Int) (x : ByteArray) : valP (withP l k n) x = if k = x then n else valP l x := by
  induction l with
  | nil =>
    simp only [withP]
    split
    · rename_i e; subst e; split <;> rfl
    · simp only [valP]
  | cons p l ih =>
    obtain ⟨h1, h2⟩ := srtP_cons.1 h
    simp only [withP]
    split
    · rename_i hb
      rw [valP, ih h2, valP]
      by_cases e : p.1 = x
      · rw [if_pos e, if_pos e, if_neg]; rintro rfl; exact blt_ne hb e
      · rw [if_neg e, if_neg e]
    · rename_i hb
      split
      · rename_i e
        subst e
        split
        · rename_i e0; subst e0
          by_cases e : p.1 = x
          · subst e; rw [if_pos rfl]; exact valP_lt h1
          · rw [if_neg e, valP, if_neg e]
        · rw [valP, valP]; split
          · rfl
          · rfl
      · rename_i e
        have hk : blt k p.1 = true := by
          rcases blt_tri p.1 k with k' | k' | k'
          · exact absurd k' hb
          · exact absurd k' e
          · exact k'
        split
        · rename_i e0; subst e0
          by_cases e : k = x
          · subst e; rw [if_pos rfl]
            exact valP_lt fun q hq => by
              rcases List.mem_cons.1 hq with hq | hq
              · subst hq; exact hk
              · exact blt_trans hk (h1 q hq)
          · rw [if_neg e]
        · rw [valP]
theorem keys_with {l : Prs} {k : ByteArray} {n : Int} (h : ∀ p ∈ l, keyB p.1 = true) (hk : keyB k = true) : ∀ p ∈ withP l k n, keyB p.1 = true := fun p hp => by
  rcases with_mem hp with hp | ⟨hp, _⟩
  · exact h p hp
  · subst hp; exact hk
theorem with_len (l : Prs) (k : ByteArray) (n : Int) : (withP l k n).length ≤ l.length + 1 := by
  induction l with
  | nil => simp only [withP]; split <;> simp
  | cons p l ih =>
    simp only [withP]
    split
    · simp only [List.length_cons]; omega
    · split <;> split <;> simp only [List.length_cons] <;> omega
/-- where the key belongs, as a list -/
theorem with_cut {l : Prs} (hs : srtP l) {k : ByteArray} {n : Int} {i : Nat} (hc : cutAt (bltAt (keysP l) k) l.length i) :
    (hitS (keysP l) k i = true → withP l k n = l.take i ++ (if n = 0 then [] else [(k, n)]) ++ l.drop (i + 1)) ∧
    (hitS (keysP l) k i = false → withP l k n = l.take i ++ (if n = 0 then [] else [(k, n)]) ++ l.drop i) := by
  induction l generalizing i with
  | nil =>
    obtain rfl : i = 0 := by have := hc.1; simpa using this
    simp [withP, hitS, keysP]
  | cons p l ih =>
    obtain ⟨h1, h2⟩ := srtP_cons.1 hs
    cases i with
    | zero =>
      have hb := hc.2.2 0 (Nat.le_refl _) (by simp)
      have hb' : blt p.1 k = false := by simpa [bltAt, kAt, keysP] using hb
      have hh : hitS (keysP (p :: l)) k 0 = (p.1.toList == k.toList) := by simp [hitS, kAt, keysP]
      rw [hh, withP, if_neg (by simp [hb'])]
      constructor
      · intro e
        have e : p.1 = k := toList_inj (by simpa using e)
        rw [if_pos e]; split <;> simp
      · intro e
        have e : p.1 ≠ k := by rintro rfl; simp at e
        rw [if_neg e]; split <;> simp
    | succ i =>
      have hb : blt p.1 k = true := by have := hc.2.1 0 (by omega); simpa [bltAt, kAt, keysP] using this
      have hc' : cutAt (bltAt (keysP l) k) l.length i := by
        refine ⟨by have := hc.1; simp at this; omega, fun j hj => ?_, fun j hj hjn => ?_⟩
        · have := hc.2.1 (j + 1) (by omega); simpa [bltAt, kAt, keysP] using this
        · have := hc.2.2 (j + 1) (by omega) (by simp; omega); simpa [bltAt, kAt, keysP] using this
      have hh : hitS (keysP (p :: l)) k (i + 1) = hitS (keysP l) k i := by simp [hitS, kAt, keysP]
      obtain ⟨a, b⟩ := ih h2 hc'
      rw [hh, withP, if_pos hb]
      exact ⟨fun e => by rw [a e]; simp, fun e => by rw [b e]; simp⟩
theorem val_cut {l : Prs} (hs : srtP l) {k : ByteArray} {i : Nat} (hc : cutAt (bltAt (keysP l) k) l.length i) :
    valP l k = if h : i < l.length then (if hitS (keysP l) k i then l[i].2 else 0) else 0 := by
  induction l generalizing i with
  | nil => simp [valP]
  | cons p l ih =>
    obtain ⟨h1, h2⟩ := srtP_cons.1 hs
    cases i with
    | zero =>
      have hb := hc.2.2 0 (Nat.le_refl _) (by simp)
      have hb' : blt p.1 k = false := by simpa [bltAt, kAt, keysP] using hb
      have hh : hitS (keysP (p :: l)) k 0 = (p.1.toList == k.toList) := by simp [hitS, kAt, keysP]
      rw [hh, dif_pos (by simp), valP]
      by_cases e : p.1 = k
      · rw [if_pos e, if_pos (by simp [e])]; rfl
      · have : ¬ (p.1.toList == k.toList) = true := fun h => e (toList_inj (by simpa using h))
        rw [if_neg e, if_neg this]
        refine valP_lt fun q hq => ?_
        have hk : blt k p.1 = true := by
          rcases blt_of_not hb' with k' | k'
          · exact absurd k' e
          · exact k'
        exact blt_trans hk (h1 q hq)
    | succ i =>
      have hb : blt p.1 k = true := by have := hc.2.1 0 (by omega); simpa [bltAt, kAt, keysP] using this
      have hc' : cutAt (bltAt (keysP l) k) l.length i := by
        refine ⟨by have := hc.1; simp at this; omega, fun j hj => ?_, fun j hj hjn => ?_⟩
        · have := hc.2.1 (j + 1) (by omega); simpa [bltAt, kAt, keysP] using this
        · have := hc.2.2 (j + 1) (by omega) (by simp; omega); simpa [bltAt, kAt, keysP] using this
      have hh : hitS (keysP (p :: l)) k (i + 1) = hitS (keysP l) k i := by simp [hitS, kAt, keysP]
      rw [hh, valP, if_neg (blt_ne hb), ih h2 hc']
      simp

/-! P4 -/
def valB (n : Int) : Bool := decide (-1000000000 ≤ n) && decide (n ≤ 1000000000)
def pairErr (l : Prs) (i : Nat) : Int :=
  if keyB (kAt (keysP l) i) = false then 3 else if valB ((l.map (·.2)).getD i 0) = false ∨ (l.map (·.2)).getD i 0 = 0 then 1
  else if 0 < i ∧ blt (kAt (keysP l) (i - 1)) (kAt (keysP l) i) = false then 3 else 0
/-- the first that is no nought -/
def firstE (f : Nat → Int) : Nat → Int
  | 0 => 0
  | n + 1 => if firstE f n = 0 then f n else firstE f n
theorem firstE_zero {f : Nat → Int} : ∀ {n : Nat}, (∀ j, j < n → f j = 0) → firstE f n = 0
  | 0, _ => rfl
  | n + 1, h => by rw [firstE, firstE_zero (fun j hj => h j (by omega)), if_pos rfl]; exact h n (by omega)
theorem firstE_at {f : Nat → Int} {k : Nat} (h : ∀ j, j < k → f j = 0) (hk : f k ≠ 0) : ∀ {n : Nat}, k < n → firstE f n = f k
  | 0, hn => absurd hn (by omega)
  | n + 1, hn => by
    rcases Nat.lt_succ_iff_lt_or_eq.1 hn with h' | h'
    · have := firstE_at h hk h'
      rw [firstE, this, if_neg hk]
    · subst h'; rw [firstE, firstE_zero h, if_pos rfl]
theorem firstE_all {f : Nat → Int} : ∀ {n : Nat}, firstE f n = 0 → ∀ j, j < n → f j = 0
  | 0, _, j, hj => absurd hj (by omega)
  | n + 1, h, j, hj => by
    rw [firstE] at h
    split at h
    · rename_i h0
      rcases Nat.lt_succ_iff_lt_or_eq.1 hj with k | k
      · exact firstE_all h0 j k
      · subst k; exact h
    · contradiction
def storeErr (l : Prs) : Int := firstE (pairErr l) l.length
structure StoreOk (l : Prs) : Prop where
  key : ∀ p ∈ l, keyB p.1 = true
  val : ∀ p ∈ l, p.2 ≠ 0 ∧ -1000000000 ≤ p.2 ∧ p.2 ≤ 1000000000
  srt : srtP l
theorem StoreOk.nz {l : Prs} (h : StoreOk l) : nzP l := fun p hp => (h.val p hp).1
theorem storeOk_nil : StoreOk [] := ⟨by simp, by simp, srtP_nil⟩
theorem pairErr_at {l : Prs} {i : Nat} (h : i < l.length) : pairErr l i = if keyB l[i].1 = false then 3 else if valB l[i].2 = false ∨ l[i].2 = 0 then 1
    else if 0 < i ∧ blt (l[i - 1]'(by omega)).1 l[i].1 = false then 3 else 0 := by
  unfold pairErr
  rw [keysP_at h, keysP_at (show i - 1 < l.length by omega)]
  simp [h]
theorem store_ok {l : Prs} (h : storeErr l = 0) : StoreOk l := by
  have ha := firstE_all h
  have hz : ∀ i, (hi : i < l.length) → keyB l[i].1 = true ∧ (valB l[i].2 = true ∧ l[i].2 ≠ 0) ∧ (0 < i → blt (l[i - 1]'(by omega)).1 l[i].1 = true) := by
    intro i hi
    have := ha i hi
    rw [pairErr_at hi] at this
    split at this
    · cases this
    · rename_i h1
      split at this
      · cases this
      · rename_i h2
        split at this
        · cases this
        · rename_i h3
          refine ⟨by simpa using h1, by simpa using h2, fun h0 => ?_⟩
          cases hb : blt (l[i - 1]'(by omega)).1 l[i].1 with
          | true => rfl
          | false => exact absurd ⟨h0, hb⟩ h3
  refine ⟨fun p hp => ?_, fun p hp => ?_, srtP_of (srt_adj fun i hi => ?_)⟩
  · obtain ⟨i, hi, rfl⟩ := List.mem_iff_getElem.1 hp; exact (hz i hi).1
  · obtain ⟨i, hi, rfl⟩ := List.mem_iff_getElem.1 hp
    have := (hz i hi).2.1
    simp only [valB, Bool.and_eq_true, decide_eq_true_eq] at this
    exact ⟨this.2, this.1⟩
  · rw [keysP_len] at hi
    rw [keysP_at hi, keysP_at (show i < l.length by omega)]
    exact (hz (i + 1) hi).2.2 (by omega)
theorem storeErr_ok {l : Prs} (h : StoreOk l) : storeErr l = 0 := by
  refine firstE_zero fun i hi => ?_
  have hm := List.getElem_mem hi
  have hv := h.val _ hm
  rw [pairErr_at hi, if_neg (by simp [h.key _ hm]), if_neg, if_neg]
  · rintro ⟨h0, hb⟩
    have := List.pairwise_iff_getElem.1 h.srt (i - 1) i (by omega) hi (by omega)
    rw [hb] at this; cases this
  · simp [valB]; omega
theorem storeOk_with {l : Prs} (h : StoreOk l) {k : ByteArray} {n : Int} (hk : keyB k = true) (hn : -1000000000 ≤ n ∧ n ≤ 1000000000) : StoreOk (withP l k n) :=
  ⟨keys_with h.key hk, fun p hp => by
    rcases with_mem hp with hp | ⟨hp, h0⟩
    · exact h.val p hp
    · subst hp; exact ⟨h0, hn⟩, srt_with h.srt k n⟩
theorem store_ext {l m : Prs} (h : StoreOk l) (k : StoreOk m) (e : ∀ x, valP l x = valP m x) : l = m := prs_ext h.srt k.srt h.nz k.nz e
theorem mem_of_filter {α : Type} {p : α → Bool} {x : α} {l : List α} (h : x ∈ l.filter p) : x ∈ l := (List.mem_filter.1 h).1
theorem storeOk_filter {l : Prs} (h : StoreOk l) (p : ByteArray × Int → Bool) : StoreOk (l.filter p) :=
  ⟨fun q hq => h.key q (mem_of_filter hq), fun q hq => h.val q (mem_of_filter hq), List.Pairwise.filter _ h.srt⟩
theorem val_filter {l : Prs} (h : srtP l) (p : ByteArray × Int → Bool) (k : ByteArray) : valP (l.filter p) k = if p (k, valP l k) then valP l k else 0 := by
  induction l with
  | nil => simp only [List.filter_nil, valP]; exact (ite_self 0).symm
  | cons q l ih =>
    obtain ⟨h1, h2⟩ := srtP_cons.1 h
    rw [List.filter_cons]
    by_cases e : q.1 = k
    · have e2 : q = (k, q.2) := by rw [← e]
      have hv : valP (q :: l) k = q.2 := by rw [valP, if_pos e]
      rw [hv]
      cases hp : p q with
      | true => rw [if_pos rfl, valP, if_pos e, if_pos (by rw [← e2]; exact hp)]
      | false =>
        rw [if_neg (by simp), if_neg (by rw [← e2, hp]; simp)]
        exact valP_lt fun r hr => by rw [← e]; exact h1 r (mem_of_filter hr)
    · have hv : valP (q :: l) k = valP l k := by rw [valP, if_neg e]
      rw [hv]
      split
      · rw [valP, if_neg e, ih h2]
      · exact ih h2
end Go.Proofs.YtddghaoejnbkaaaGreatDoor

/- Contracts and lemmas for the proofs of this seat; each theorem states its own conditions. -/
namespace Go.Proofs.YtddghaoejnbkaaaGreatDoor
/-! deeds, in plain lists -/
abbrev Vls := ByteArray → Int
def setV (v : Vls) (k : ByteArray) (n : Int) : Vls := fun x => if k = x then n else v x
/-- P10 -/
def twoB (o : GOp) : Bool := decide (o.kind = 3) || decide (o.kind = 5)
def opE (o : GOp) : Int :=
  if o.kind < 1 ∨ 5 < o.kind then 3
  else if keyB o.key = false ∨ (twoB o = true ∧ (keyB o.from_ = false ∨ o.from_ = o.key)) then 3
  else if (o.kind ≠ 3 ∧ valB o.n = false) ∨ (o.kind = 5 ∧ o.n < 0) then 1 else 0
structure OpOk (o : GOp) : Prop where
  lo : 1 ≤ o.kind
  hi : o.kind ≤ 5
  key : keyB o.key = true
  from_ : o.kind = 3 ∨ o.kind = 5 → keyB o.from_ = true ∧ o.from_ ≠ o.key
  val : o.kind ≠ 3 → -1000000000 ≤ o.n ∧ o.n ≤ 1000000000
  pos : o.kind = 5 → 0 ≤ o.n
theorem valB_iff {n : Int} : valB n = true ↔ -1000000000 ≤ n ∧ n ≤ 1000000000 := by simp [valB]
theorem op_ok {o : GOp} (h : opE o = 0) : OpOk o := by
  unfold opE at h
  split at h
  · cases h
  · rename_i h1
    split at h
    · cases h
    · rename_i h2
      split at h
      · cases h
      · rename_i h3
        rw [not_or] at h1 h2 h3
        refine ⟨by omega, by omega, by simpa using h2.1, fun hk => ?_, fun hk => ?_, fun hk => ?_⟩
        · have ht : twoB o = true := by simpa [twoB] using hk
          have := h2.2
          simp only [ht, true_and, not_or] at this
          exact ⟨by simpa using this.1, this.2⟩
        · rw [← valB_iff]
          cases hv : valB o.n with
          | true => rfl
          | false => exact absurd ⟨hk, hv⟩ h3.1
        · have := h3.2
          simp only [hk, true_and] at this
          omega
theorem opE_ok {o : GOp} (h : OpOk o) : opE o = 0 := by
  unfold opE
  rw [if_neg, if_neg, if_neg]
  · rintro (⟨a, b⟩ | ⟨a, b⟩)
    · have := valB_iff.2 (h.val a); rw [b] at this; cases this
    · have := h.pos a; omega
  · rintro (a | ⟨a, b⟩)
    · rw [h.key] at a; cases a
    · have hk : o.kind = 3 ∨ o.kind = 5 := by simpa [twoB] using a
      have := h.from_ hk
      rcases b with b | b
      · rw [this.1] at b; cases b
      · exact this.2 b
  · have := h.lo; have := h.hi; omega
abbrev Ops := List GOp
def deedE (d : Ops) : Int := if d.length = 0 ∨ 8 < d.length then 2 else firstE (fun i => opE (d.getD i ⟨0, ⟨#[]⟩, ⟨#[]⟩, 0⟩)) d.length
structure DeedOk (d : Ops) : Prop where
  lo : 1 ≤ d.length
  hi : d.length ≤ 8
  ops : ∀ o ∈ d, OpOk o
theorem deed_ok {d : Ops} (h : deedE d = 0) : DeedOk d := by
  unfold deedE at h
  split at h
  · cases h
  · rename_i h1
    refine ⟨by omega, by omega, fun o ho => ?_⟩
    obtain ⟨i, hi, rfl⟩ := List.mem_iff_getElem.1 ho
    have := firstE_all h i hi
    simp [hi] at this
    exact op_ok this
theorem deedE_ok {d : Ops} (h : DeedOk d) : deedE d = 0 := by
  have := h.lo
  have := h.hi
  unfold deedE
  rw [if_neg (by omega)]
  refine firstE_zero fun i hi => ?_
  simp [hi]
  exact opE_ok (h.ops _ (List.getElem_mem hi))
/-- an operation on values; false: it may not be -/
def doV (v : Vls) (o : GOp) : Vls × Bool :=
  if o.kind = 1 then (setV v o.key o.n, valB o.n)
  else if o.kind = 2 then (setV v o.key (v o.key + o.n), valB (v o.key + o.n))
  else if o.kind = 3 then (setV v o.key (v o.from_), valB (v o.from_))
  else if o.kind = 4 then (v, decide (o.n ≤ v o.key))
  else if v o.from_ < o.n then (v, false)
  else (setV (setV v o.from_ (v o.from_ - o.n)) o.key (v o.key + o.n), valB (v o.key + o.n))
/-- on a store -/
def doP (l : Prs) (o : GOp) : Prs × Bool :=
  if o.kind = 1 then (withP l o.key o.n, valB o.n)
  else if o.kind = 2 then (withP l o.key (valP l o.key + o.n), valB (valP l o.key + o.n))
  else if o.kind = 3 then (withP l o.key (valP l o.from_), valB (valP l o.from_))
  else if o.kind = 4 then (l, decide (o.n ≤ valP l o.key))
  else if valP l o.from_ < o.n then (l, false)
  else (withP (withP l o.from_ (valP l o.from_ - o.n)) o.key (valP l o.key + o.n), valB (valP l o.key + o.n))
theorem val_set {l : Prs} (h : srtP l) (k : ByteArray) (n : Int) : valP (withP l k n) = setV (valP l) k n := funext fun x => val_with h k n x
theorem val_do {l : Prs} (h : srtP l) (o : GOp) : valP (doP l o).1 = (doV (valP l) o).1 ∧ (doP l o).2 = (doV (valP l) o).2 := by
  unfold doP doV
  split
  · exact ⟨val_set h _ _, rfl⟩
  · split
    · exact ⟨val_set h _ _, rfl⟩
    · split
      · exact ⟨val_set h _ _, rfl⟩
      · split
        · exact ⟨rfl, rfl⟩
        · split
          · exact ⟨rfl, rfl⟩
          · exact ⟨by rw [val_set (srt_with h _ _), val_set h], rfl⟩
theorem len_do (l : Prs) (o : GOp) : (doP l o).1.length ≤ l.length + 2 := by
  have h1 := fun (l : Prs) k n => with_len l k n
  unfold doP
  split
  · have := h1 l o.key o.n; simp only; omega
  · split
    · have := h1 l o.key (valP l o.key + o.n); simp only; omega
    · split
      · have := h1 l o.key (valP l o.from_); simp only; omega
      · split
        · simp
        · split
          · simp
          · have := h1 l o.from_ (valP l o.from_ - o.n)
            have := h1 (withP l o.from_ (valP l o.from_ - o.n)) o.key (valP l o.key + o.n)
            simp only; omega
theorem val_bd {l : Prs} (h : StoreOk l) (k : ByteArray) : -1000000000 ≤ valP l k ∧ valP l k ≤ 1000000000 := by
  by_cases e : valP l k = 0
  · rw [e]; omega
  · exact (h.val _ (valP_ne e)).2
theorem ok_do {l : Prs} (h : StoreOk l) {o : GOp} (ho : OpOk o) (hr : (doP l o).2 = true) : StoreOk (doP l o).1 := by
  unfold doP at hr ⊢
  split
  · rename_i e; rw [if_pos e] at hr; exact storeOk_with h ho.key (valB_iff.1 hr)
  · rename_i e1
    rw [if_neg e1] at hr
    split
    · rename_i e; rw [if_pos e] at hr; exact storeOk_with h ho.key (valB_iff.1 hr)
    · rename_i e2
      rw [if_neg e2] at hr
      split
      · rename_i e; rw [if_pos e] at hr; exact storeOk_with h ho.key (valB_iff.1 hr)
      · rename_i e3
        rw [if_neg e3] at hr
        split
        · exact h
        · rename_i e4
          rw [if_neg e4] at hr
          split
          · exact h
          · rename_i e5
            rw [if_neg e5] at hr
            have := ho.lo
            have := ho.hi
            have hk : o.kind = 5 := by omega
            have := ho.pos hk
            have := val_bd h o.from_
            exact storeOk_with (storeOk_with h (ho.from_ (.inr hk)).1 (by omega)) ho.key (valB_iff.1 hr)
def runV (v : Vls) : Ops → Option Vls
  | [] => some v
  | o :: d => if (doV v o).2 then runV (doV v o).1 d else none
def runP (l : Prs) : Ops → Option Prs
  | [] => some l
  | o :: d => if (doP l o).2 then runP (doP l o).1 d else none
theorem runP_some {d : Ops} (hd : ∀ o ∈ d, OpOk o) : ∀ {l l' : Prs}, StoreOk l → runP l d = some l' → StoreOk l' ∧ runV (valP l) d = some (valP l') := by
  induction d with
  | nil => intro l l' h e; injection e with e; subst e; exact ⟨h, rfl⟩
  | cons o d ih =>
    intro l l' h e
    obtain ⟨v1, v2⟩ := val_do h.srt o
    simp only [runP] at e
    simp only [runV]
    split at e
    · rename_i hr
      rw [← v2, if_pos hr, ← v1]
      exact ih (fun q hq => hd q (by simp [hq])) (ok_do h (hd o (by simp)) hr) e
    · cases e
theorem runP_none {d : Ops} (hd : ∀ o ∈ d, OpOk o) : ∀ {l : Prs}, StoreOk l → runP l d = none → runV (valP l) d = none := by
  induction d with
  | nil => intro l h e; cases e
  | cons o d ih =>
    intro l h e
    obtain ⟨v1, v2⟩ := val_do h.srt o
    simp only [runP] at e
    simp only [runV]
    split at e
    · rename_i hr
      rw [← v2, if_pos hr, ← v1]
      exact ih (fun q hq => hd q (by simp [hq])) (ok_do h (hd o (by simp)) hr) e
    · rename_i hr
      rw [← v2, if_neg hr]
/-- what Run answers -/
def runS (l : Prs) (d : Ops) : Prs := (runP l d).getD l
def runB (l : Prs) (d : Ops) : Bool := (runP l d).isSome
def stepV (v : Vls) (d : Ops) : Vls := (runV v d).getD v
def okV (v : Vls) (d : Ops) : Bool := (runV v d).isSome
theorem run_val {l : Prs} (h : StoreOk l) {d : Ops} (hd : ∀ o ∈ d, OpOk o) : StoreOk (runS l d) ∧ valP (runS l d) = stepV (valP l) d ∧ runB l d = okV (valP l) d := by
  unfold runS runB stepV okV
  cases e : runP l d with
  | none => rw [runP_none hd h e]; exact ⟨h, rfl, rfl⟩
  | some l' =>
    obtain ⟨a, b⟩ := runP_some hd h e
    rw [b]; exact ⟨a, rfl, rfl⟩
theorem len_run {d : Ops} : ∀ {l l' : Prs}, runP l d = some l' → l'.length ≤ l.length + 2 * d.length := by
  induction d with
  | nil => intro l l' e; injection e with e; subst e; simp
  | cons o d ih =>
    intro l l' e
    simp only [runP] at e
    split at e
    · have := ih e
      have := len_do l o
      rw [List.length_cons]; omega
    · cases e
/-! what is read and written -/
def rdO (o : GOp) : List ByteArray := if o.kind = 2 then [o.key] else if o.kind = 3 then [o.from_] else if o.kind = 4 then [o.key] else if o.kind = 5 then [o.key, o.from_] else []
def wrO (o : GOp) : List ByteArray := if o.kind = 1 then [o.key] else if o.kind = 2 then [o.key] else if o.kind = 3 then [o.key] else if o.kind = 5 then [o.key, o.from_] else []
def rds (d : Ops) : List ByteArray := d.flatMap rdO
def wrs (d : Ops) : List ByteArray := d.flatMap wrO
theorem kinds {o : GOp} (h : OpOk o) : o.kind = 1 ∨ o.kind = 2 ∨ o.kind = 3 ∨ o.kind = 4 ∨ o.kind = 5 := by
  have := h.lo; have := h.hi; omega
theorem do_keep {o : GOp} (ho : OpOk o) (v : Vls) {k : ByteArray} (hk : k ∉ wrO o) : (doV v o).1 k = v k := by
  rcases kinds ho with e | e | e | e | e
  all_goals simp [wrO, e] at hk
  · simp [doV, e, setV, Ne.symm hk]
  · simp [doV, e, setV, Ne.symm hk]
  · simp [doV, e, setV, Ne.symm hk]
  · simp [doV, e]
  · simp only [doV, e]
    simp only [show ¬ (5 : Int) = 1 by omega, show ¬ (5 : Int) = 2 by omega, show ¬ (5 : Int) = 3 by omega, show ¬ (5 : Int) = 4 by omega, if_false]
    split
    · rfl
    · simp [setV, Ne.symm hk.1, Ne.symm hk.2]
theorem do_agree {o : GOp} (ho : OpOk o) {v u : Vls} {A : ByteArray → Prop} (h : ∀ k, A k → v k = u k) (hr : ∀ k ∈ rdO o, A k) :
    (doV v o).2 = (doV u o).2 ∧ ∀ k, (A k ∨ k ∈ wrO o) → (doV v o).1 k = (doV u o).1 k := by
  rcases kinds ho with e | e | e | e | e
  all_goals simp [rdO, e] at hr
  · refine ⟨by simp [doV, e], fun k hk => ?_⟩
    simp [wrO, e] at hk
    simp only [doV, e, if_true, setV]
    split
    · rfl
    · rename_i hne; rcases hk with hk | hk
      · exact h k hk
      · exact absurd hk.symm hne
  · have q := h _ hr
    refine ⟨by simp [doV, e, q], fun k hk => ?_⟩
    simp [wrO, e] at hk
    simp [doV, e, setV, q]
    split
    · rfl
    · rename_i hne; rcases hk with hk | hk
      · exact h k hk
      · exact absurd hk.symm hne
  · have q := h _ hr
    refine ⟨by simp [doV, e, q], fun k hk => ?_⟩
    simp [wrO, e] at hk
    simp [doV, e, setV, q]
    split
    · rfl
    · rename_i hne; rcases hk with hk | hk
      · exact h k hk
      · exact absurd hk.symm hne
  · have q := h _ hr
    refine ⟨by simp [doV, e, q], fun k hk => ?_⟩
    simp [wrO, e] at hk
    simp [doV, e]
    exact h k hk
  · have q1 := h _ hr.1
    have q2 := h _ hr.2
    simp only [doV, e]
    simp only [show ¬ (5 : Int) = 1 by omega, show ¬ (5 : Int) = 2 by omega, show ¬ (5 : Int) = 3 by omega, show ¬ (5 : Int) = 4 by omega, if_false, q1, q2]
    split
    · refine ⟨rfl, fun k hk => ?_⟩
      simp [wrO, e] at hk
      rcases hk with hk | hk | hk
      · exact h k hk
      · subst hk; exact q1
      · subst hk; exact q2
    · refine ⟨rfl, fun k hk => ?_⟩
      simp [wrO, e] at hk
      simp only [setV]
      split
      · rfl
      · split
        · rfl
        · rename_i n1 n2
          rcases hk with hk | hk | hk
          · exact h k hk
          · exact absurd hk.symm n1
          · exact absurd hk.symm n2
theorem run_keep {d : Ops} (hd : ∀ o ∈ d, OpOk o) : ∀ {v v' : Vls}, runV v d = some v' → ∀ {k}, k ∉ wrs d → v' k = v k := by
  induction d with
  | nil => intro v v' e k _; injection e with e; subst e; rfl
  | cons o d ih =>
    intro v v' e k hk
    simp only [wrs, List.flatMap_cons, List.mem_append, not_or] at hk
    simp only [runV] at e
    split at e
    · rw [ih (fun q hq => hd q (by simp [hq])) e hk.2, do_keep (hd o (by simp)) v hk.1]
    · cases e
theorem step_keep {d : Ops} (hd : ∀ o ∈ d, OpOk o) (v : Vls) {k : ByteArray} (hk : k ∉ wrs d) : stepV v d k = v k := by
  unfold stepV
  cases e : runV v d with
  | none => rfl
  | some v' => exact run_keep hd e hk
theorem run_agree {d : Ops} (hd : ∀ o ∈ d, OpOk o) : ∀ {v u : Vls} {A : ByteArray → Prop}, (∀ k, A k → v k = u k) → (∀ k ∈ rds d, A k) →
    (runV v d = none ∧ runV u d = none) ∨ ∃ v' u', runV v d = some v' ∧ runV u d = some u' ∧ ∀ k, (A k ∨ k ∈ wrs d) → v' k = u' k := by
  induction d with
  | nil => intro v u A h _; exact .inr ⟨v, u, rfl, rfl, fun k hk => by rcases hk with hk | hk; (exact h k hk); (simp [wrs] at hk)⟩
  | cons o d ih =>
    intro v u A h hr
    simp only [rds, List.flatMap_cons, List.mem_append] at hr
    obtain ⟨q1, q2⟩ := do_agree (hd o (by simp)) h (fun k hk => hr k (.inl hk))
    simp only [runV, q1]
    split
    · rcases ih (fun q hq => hd q (by simp [hq])) (A := fun k => A k ∨ k ∈ wrO o) q2 (fun k hk => .inl (hr k (.inr hk))) with ⟨a, b⟩ | ⟨v', u', a, b, c⟩
      · exact .inl ⟨a, b⟩
      · refine .inr ⟨v', u', a, b, fun k hk => c k ?_⟩
        rcases hk with hk | hk
        · exact .inl (.inl hk)
        · simp only [wrs, List.flatMap_cons, List.mem_append] at hk
          rcases hk with hk | hk
          · exact .inl (.inr hk)
          · exact .inr hk
    · exact .inl ⟨rfl, rfl⟩
/-- what a deed makes hangs on what it reads -/
theorem step_agree {d : Ops} (hd : ∀ o ∈ d, OpOk o) {v u : Vls} (h : ∀ k ∈ rds d, v k = u k) :
    okV v d = okV u d ∧ (okV v d = true → ∀ k ∈ wrs d, stepV v d k = stepV u d k) := by
  rcases run_agree hd (A := fun k => k ∈ rds d) h (fun k hk => hk) with ⟨a, b⟩ | ⟨v', u', a, b, c⟩
  · unfold okV; rw [a, b]; exact ⟨rfl, fun h => by cases h⟩
  · unfold okV stepV; rw [a, b]; exact ⟨rfl, fun _ k hk => c k (.inr hk)⟩
/-- P13 -/
def meets (a b : List ByteArray) : Bool := a.any fun k => b.any fun j => decide (j = k)
def clashB (a b : Ops) : Bool := meets (wrs a) (wrs b) || meets (wrs a) (rds b) || meets (rds a) (wrs b)
theorem runP_app (l : Prs) (a b : Ops) : runP l (a ++ b) = (runP l a).bind fun l' => runP l' b := by
  induction a generalizing l with
  | nil => rfl
  | cons o a ih =>
    simp only [List.cons_append, runP]
    split
    · exact ih _
    · rfl
theorem runP_step {l l' : Prs} {d : Ops} {k : Nat} (hk : k < d.length) (h : runP l (d.take k) = some l') : runP l (d.take (k + 1)) = if (doP l' d[k]).2 then some (doP l' d[k]).1 else none := by
  rw [List.take_succ_eq_append_getElem hk, runP_app, h]
  simp [runP]
theorem runP_off {l : Prs} {d : Ops} {k : Nat} (h : runP l (d.take k) = none) : runP l d = none := by
  have e := runP_app l (d.take k) (d.drop k)
  rw [List.take_append_drop, h] at e
  exact e
theorem opsOk_take {d : Ops} (h : ∀ o ∈ d, OpOk o) (k : Nat) : ∀ o ∈ d.take k, OpOk o := fun o ho => h o (List.mem_of_mem_take ho)
end Go.Proofs.YtddghaoejnbkaaaGreatDoor
