/- Contracts and lemmas for the proof of TopMoves; each theorem states its own conditions. -/
import Derived.Test.YtnepdfpooobmcaaGreatQTopMovesab
set_option linter.unusedVariables false
set_option linter.unusedSimpArgs false
/- Contracts and lemmas for the proofs of this seat; each theorem states its own conditions. -/
namespace Go.Proofs.YtnepdfpooobmcaaGreat
/-! stores, in plain lists -/
abbrev Prs := List (ByteArray × Int)
def keysP (l : Prs) : List ByteArray := l.map (·.1)
theorem keysP_len (l : Prs) : (keysP l).length = l.length := by simp [keysP]
theorem keysP_at {l : Prs} {i : Nat} (h : i < l.length) : kAt (keysP l) i = l[i].1 := by
  rw [kAt_eq (by rw [keysP_len]; exact h)]; simp [keysP]
theorem keysP_get {l : Prs} {i : Nat} (h : i < (keysP l).length) : (keysP l)[i] = (l[i]'(by rw [keysP_len] at h; exact h)).1 := by simp [keysP]
/-- the value of a key, 0 if it is not there -/
def valP : Prs → ByteArray → Int
  | [], _ => 0
  | p :: l, k => if p.1 = k then p.2 else valP l k
/-- strictly sorted by keys -/
def srtP (l : Prs) : Prop := l.Pairwise fun a b => blt a.1 b.1 = true
theorem srtP_nil : srtP [] := List.Pairwise.nil
theorem srtP_cons {p : ByteArray × Int} {l : Prs} : srtP (p :: l) ↔ (∀ q ∈ l, blt p.1 q.1 = true) ∧ srtP l := List.pairwise_cons
theorem srtP_keys {l : Prs} (h : srtP l) : srt (keysP l) := fun i j hij hj => by
  rw [keysP_len] at hj
  rw [keysP_at hj, keysP_at (show i < l.length by omega)]
  exact List.pairwise_iff_getElem.1 h i j (by omega) hj hij
theorem srtP_of {l : Prs} (h : srt (keysP l)) : srtP l := List.pairwise_iff_getElem.2 fun i j hi hj hij => by
  have := h i j hij (by rw [keysP_len]; exact hj)
  rwa [keysP_at hi, keysP_at hj] at this
/-- no value is nought -/
def nzP (l : Prs) : Prop := ∀ p ∈ l, p.2 ≠ 0
theorem valP_none {l : Prs} {k : ByteArray} (h : ∀ p ∈ l, p.1 ≠ k) : valP l k = 0 := by
  induction l with
  | nil => rfl
  | cons p l ih =>
    rw [valP, if_neg (h p (by simp))]
    exact ih fun q hq => h q (by simp [hq])
theorem valP_mem {l : Prs} (hs : srtP l) {p : ByteArray × Int} (h : p ∈ l) : valP l p.1 = p.2 := by
  induction l with
  | nil => simp at h
  | cons q l ih =>
    obtain ⟨h1, h2⟩ := srtP_cons.1 hs
    rcases List.mem_cons.1 h with h' | h'
    · subst h'; simp [valP]
    · rw [valP, if_neg (blt_ne (h1 p h')), ih h2 h']
theorem valP_ne {l : Prs} {k : ByteArray} (h : valP l k ≠ 0) : (k, valP l k) ∈ l := by
  induction l with
  | nil => simp [valP] at h
  | cons q l ih =>
    rw [valP] at h ⊢
    split at h
    · rename_i e; rw [if_pos e]; simp [← e]
    · rename_i e; rw [if_neg e]; exact List.mem_cons_of_mem _ (ih h)
theorem mem_valP {l : Prs} (hs : srtP l) (hz : nzP l) {k : ByteArray} {v : Int} : (k, v) ∈ l ↔ valP l k = v ∧ v ≠ 0 := by
  constructor
  · intro h; exact ⟨valP_mem hs h, hz _ h⟩
  · rintro ⟨rfl, h⟩; exact valP_ne h
theorem valP_lt {l : Prs} {k : ByteArray} (h : ∀ p ∈ l, blt k p.1 = true) : valP l k = 0 := valP_none fun p hp e => by
  have := h p hp; rw [e, blt_irrefl] at this; cases this
/-- two sorted lists of like values are one -/
theorem prs_ext {l m : Prs} (hl : srtP l) (hm : srtP m) (zl : nzP l) (zm : nzP m) (h : ∀ k, valP l k = valP m k) : l = m := by
  induction l generalizing m with
  | nil =>
    cases m with
    | nil => rfl
    | cons q m =>
      have := h q.1
      rw [valP_mem hm (List.mem_cons_self ..)] at this
      exact absurd this.symm (zm q (by simp))
  | cons p l ih =>
    obtain ⟨p1, p2⟩ := srtP_cons.1 hl
    cases m with
    | nil =>
      have := h p.1
      rw [valP_mem hl (List.mem_cons_self ..)] at this
      exact absurd this (zl p (by simp))
    | cons q m =>
      obtain ⟨q1, q2⟩ := srtP_cons.1 hm
      have a := h p.1
      rw [valP_mem hl (List.mem_cons_self ..)] at a
      have b := h q.1
      rw [valP_mem hm (List.mem_cons_self ..)] at b
      have e : p.1 = q.1 := by
        rcases blt_tri p.1 q.1 with k | k | k
        · rw [valP_lt (l := q :: m) (fun r hr => by rcases List.mem_cons.1 hr with hr | hr
                                                    · subst hr; exact k
                                                    · exact blt_trans k (q1 r hr))] at a
          exact absurd a (zl p (by simp))
        · exact k
        · rw [valP_lt (l := p :: l) (fun r hr => by rcases List.mem_cons.1 hr with hr | hr
                                                    · subst hr; exact k
                                                    · exact blt_trans k (p1 r hr))] at b
          exact absurd b.symm (zm q (by simp))
      have e2 : p.2 = q.2 := by
        have c := valP_mem hm (List.mem_cons_self : q ∈ q :: m)
        rw [← e] at c; rw [← c]; exact a
      have e3 : p = q := Prod.ext e e2
      subst e3
      congr 1
      refine ih p2 q2 (fun r hr => zl r (by simp [hr])) (fun r hr => zm r (by simp [hr])) fun k => ?_
      by_cases hk : p.1 = k
      · subst hk; rw [valP_lt p1, valP_lt q1]
      · have := h k; rw [valP, valP, if_neg hk, if_neg hk] at this; exact this
/-- with a value of a key (0: without it) -/
def withP : Prs → ByteArray → Int → Prs
  | [], k, n => if n = 0 then [] else [(k, n)]
  | p :: l, k, n => if blt p.1 k then p :: withP l k n else if p.1 = k then (if n = 0 then l else (k, n) :: l) else (if n = 0 then p :: l else (k, n) :: p :: l)
theorem with_mem {l : Prs} {k : ByteArray} {n : Int} {q : ByteArray × Int} (h : q ∈ withP l k n) : q ∈ l ∨ (q = (k, n) ∧ n ≠ 0) := by
  induction l with
  | nil => simp only [withP] at h; split at h <;> simp_all
  | cons p l ih =>
    simp only [withP] at h
    split at h
    · rcases List.mem_cons.1 h with h | h
      · left; simp [h]
      · rcases ih h with h | h
        · left; simp [h]
        · exact .inr h
    · split at h
      · split at h
        · left; simp [h]
        · rcases List.mem_cons.1 h with h | h
          · exact .inr ⟨h, by assumption⟩
          · left; simp [h]
      · split at h
        · exact .inl h
        · rcases List.mem_cons.1 h with h | h
          · exact .inr ⟨h, by assumption⟩
          · exact .inl h
theorem srt_with {l : Prs} (h : srtP l) (k : ByteArray) (n : Int) : srtP (withP l k n) := by
  induction l with
  | nil => simp only [withP]; split <;> simp [srtP]
  | cons p l ih =>
    obtain ⟨h1, h2⟩ := srtP_cons.1 h
    simp only [withP]
    split
    · rename_i hb
      refine srtP_cons.2 ⟨fun q hq => ?_, ih h2⟩
      rcases with_mem hq with hq | ⟨hq, _⟩
      · exact h1 q hq
      · subst hq; exact hb
    · rename_i hb
      split
      · rename_i e
        split
        · exact h2
        · exact srtP_cons.2 ⟨fun q hq => by rw [← e]; exact h1 q hq, h2⟩
      · rename_i e
        split
        · exact h
        · refine srtP_cons.2 ⟨fun q hq => ?_, h⟩
          have hk : blt k p.1 = true := by
            rcases blt_tri p.1 k with k' | k' | k'
            · exact absurd k' hb
            · exact absurd k' e
            · exact k'
          rcases List.mem_cons.1 hq with hq | hq
          · subst hq; exact hk
          · exact blt_trans hk (h1 q hq)
theorem val_with {l : Prs} (h : srtP l) (k : ByteArray) (n : Int) (x : ByteArray) : valP (withP l k n) x = if k = x then n else valP l x := by
  induction l with
  | nil =>
    simp only [withP]
    split
    · rename_i e; subst e; split <;> rfl
    · simp only [valP]
  | cons p l ih =>
    obtain ⟨h1, h2⟩ := srtP_cons.1 h
    simp only [withP]
    split
    · rename_i hb
      rw [valP, ih h2, valP]
      by_cases e : p.1 = x
      · rw [if_pos e, if_pos e, if_neg]; rintro rfl; exact blt_ne hb e
      · rw [if_neg e, if_neg e]
    · rename_i hb
      split
      · rename_i e
        subst e
        split
        · rename_i e0; subst e0
          by_cases e : p.1 = x
          · subst e; rw [if_pos rfl]; exact valP_lt h1
          · rw [if_neg e, valP, if_neg e]
        · rw [valP, valP]; split
          · rfl
          · rfl
      · rename_i e
        have hk : blt k p.1 = true := by
          rcases blt_tri p.1 k with k' | k' | k'
          · exact absurd k' hb
          · exact absurd k' e
          · exact k'
        split
        · rename_i e0; subst e0
          by_cases e : k = x
          · subst e; rw [if_pos rfl]
            exact valP_lt fun q hq => by
              rcases List.mem_cons.1 hq with hq | hq
              · subst hq; exact hk
              · exact blt_trans hk (h1 q hq)
          · rw [if_neg e]
        · rw [valP]
theorem keys_with {l : Prs} {k : ByteArray} {n : Int} (h : ∀ p ∈ l, keyB p.1 = true) (hk : keyB k = true) : ∀ p ∈ withP l k n, keyB p.1 = true := fun p hp => by
  rcases with_mem hp with hp | ⟨hp, _⟩
  · exact h p hp
  · subst hp; exact hk
theorem with_len (l : Prs) (k : ByteArray) (n : Int) : (withP l k n).length ≤ l.length + 1 := by
  induction l with
  | nil => simp only [withP]; split <;> simp
  | cons p l ih =>
    simp only [withP]
    split
    · simp only [List.length_cons]; omega
    · split <;> split <;> simp only [List.length_cons] <;> omega
/-- where the key belongs, as a list -/
theorem with_cut {l : Prs} (hs : srtP l) {k : ByteArray} {n : Int} {i : Nat} (hc : cutAt (bltAt (keysP l) k) l.length i) :
    (hitS (keysP l) k i = true → withP l k n = l.take i ++ (if n = 0 then [] else [(k, n)]) ++ l.drop (i + 1)) ∧
    (hitS (keysP l) k i = false → withP l k n = l.take i ++ (if n = 0 then [] else [(k, n)]) ++ l.drop i) := by
  induction l generalizing i with
  | nil =>
    obtain rfl : i = 0 := by have := hc.1; simpa using this
    simp [withP, hitS, keysP]
  | cons p l ih =>
    obtain ⟨h1, h2⟩ := srtP_cons.1 hs
    cases i with
    | zero =>
      have hb := hc.2.2 0 (Nat.le_refl _) (by simp)
      have hb' : blt p.1 k = false := by simpa [bltAt, kAt, keysP] using hb
      have hh : hitS (keysP (p :: l)) k 0 = (p.1.toList == k.toList) := by simp [hitS, kAt, keysP]
      rw [hh, withP, if_neg (by simp [hb'])]
      constructor
      · intro e
        have e : p.1 = k := toList_inj (by simpa using e)
        rw [if_pos e]; split <;> simp
      · intro e
        have e : p.1 ≠ k := by rintro rfl; simp at e
        rw [if_neg e]; split <;> simp
    | succ i =>
      have hb : blt p.1 k = true := by have := hc.2.1 0 (by omega); simpa [bltAt, kAt, keysP] using this
      have hc' : cutAt (bltAt (keysP l) k) l.length i := by
        refine ⟨by have := hc.1; simp at this; omega, fun j hj => ?_, fun j hj hjn => ?_⟩
        · have := hc.2.1 (j + 1) (by omega); simpa [bltAt, kAt, keysP] using this
        · have := hc.2.2 (j + 1) (by omega) (by simp; omega); simpa [bltAt, kAt, keysP] using this
      have hh : hitS (keysP (p :: l)) k (i + 1) = hitS (keysP l) k i := by simp [hitS, kAt, keysP]
      obtain ⟨a, b⟩ := ih h2 hc'
      rw [hh, withP, if_pos hb]
      exact ⟨fun e => by rw [a e]; simp, fun e => by rw [b e]; simp⟩
theorem val_cut {l : Prs} (hs : srtP l) {k : ByteArray} {i : Nat} (hc : cutAt (bltAt (keysP l) k) l.length i) :
    valP l k = if h : i < l.length then (if hitS (keysP l) k i then l[i].2 else 0) else 0 := by
  induction l generalizing i with
  | nil => simp [valP]
  | cons p l ih =>
    obtain ⟨h1, h2⟩ := srtP_cons.1 hs
    cases i with
    | zero =>
      have hb := hc.2.2 0 (Nat.le_refl _) (by simp)
      have hb' : blt p.1 k = false := by simpa [bltAt, kAt, keysP] using hb
      have hh : hitS (keysP (p :: l)) k 0 = (p.1.toList == k.toList) := by simp [hitS, kAt, keysP]
      rw [hh, dif_pos (by simp), valP]
      by_cases e : p.1 = k
      · rw [if_pos e, if_pos (by simp [e])]; rfl
      · have : ¬ (p.1.toList == k.toList) = true := fun h => e (toList_inj (by simpa using h))
        rw [if_neg e, if_neg this]
        refine valP_lt fun q hq => ?_
        have hk : blt k p.1 = true := by
          rcases blt_of_not hb' with k' | k'
          · exact absurd k' e
          · exact k'
        exact blt_trans hk (h1 q hq)
    | succ i =>
      have hb : blt p.1 k = true := by have := hc.2.1 0 (by omega); simpa [bltAt, kAt, keysP] using this
      have hc' : cutAt (bltAt (keysP l) k) l.length i := by
        refine ⟨by have := hc.1; simp at this; omega, fun j hj => ?_, fun j hj hjn => ?_⟩
        · have := hc.2.1 (j + 1) (by omega); simpa [bltAt, kAt, keysP] using this
        · have := hc.2.2 (j + 1) (by omega) (by simp; omega); simpa [bltAt, kAt, keysP] using this
      have hh : hitS (keysP (p :: l)) k (i + 1) = hitS (keysP l) k i := by simp [hitS, kAt, keysP]
      rw [hh, valP, if_neg (blt_ne hb), ih h2 hc']
      simp

/-! P4 -/
def valB (n : Int) : Bool := decide (-1000000000 ≤ n) && decide (n ≤ 1000000000)
def pairErr (l : Prs) (i : Nat) : Int :=
  if keyB (kAt (keysP l) i) = false then 3 else if valB ((l.map (·.2)).getD i 0) = false ∨ (l.map (·.2)).getD i 0 = 0 then 1
  else if 0 < i ∧ blt (kAt (keysP l) (i - 1)) (kAt (keysP l) i) = false then 3 else 0
/-- the first that is no nought -/
def firstE (f : Nat → Int) : Nat → Int
  | 0 => 0
  | n + 1 => if firstE f n = 0 then f n else firstE f n
theorem firstE_zero {f : Nat → Int} : ∀ {n : Nat}, (∀ j, j < n → f j = 0) → firstE f n = 0
  | 0, _ => rfl
  | n + 1, h => by rw [firstE, firstE_zero (fun j hj => h j (by omega)), if_pos rfl]; exact h n (by omega)
theorem firstE_at {f : Nat → Int} {k : Nat} (h : ∀ j, j < k → f j = 0) (hk : f k ≠ 0) : ∀ {n : Nat}, k < n → firstE f n = f k
  | 0, hn => absurd hn (by omega)
  | n + 1, hn => by
    rcases Nat.lt_succ_iff_lt_or_eq.1 hn with h' | h'
    · have := firstE_at h hk h'
      rw [firstE, this, if_neg hk]
    · subst h'; rw [firstE, firstE_zero h, if_pos rfl]
theorem firstE_all {f : Nat → Int} : ∀ {n : Nat}, firstE f n = 0 → ∀ j, j < n → f j = 0
  | 0, _, j, hj => absurd hj (by omega)
  | n + 1, h, j, hj => by
    rw [firstE] at h
    split at h
    · rename_i h0
      rcases Nat.lt_succ_iff_lt_or_eq.1 hj with k | k
      · exact firstE_all h0 j k
      · subst k; exact h
    · contradiction
def storeErr (l : Prs) : Int := firstE (pairErr l) l.length
structure StoreOk (l : Prs) : Prop where
  key : ∀ p ∈ l, keyB p.1 = true
  val : ∀ p ∈ l, p.2 ≠ 0 ∧ -1000000000 ≤ p.2 ∧ p.2 ≤ 1000000000
  srt : srtP l
theorem StoreOk.nz {l : Prs} (h : StoreOk l) : nzP l := fun p hp => (h.val p hp).1
theorem storeOk_nil : StoreOk [] := ⟨by simp, by simp, srtP_nil⟩
theorem pairErr_at {l : Prs} {i : Nat} (h : i < l.length) : pairErr l i = if keyB l[i].1 = false then 3 else if valB l[i].2 = false ∨ l[i].2 = 0 then 1
    else if 0 < i ∧ blt (l[i - 1]'(by omega)).1 l[i].1 = false then 3 else 0 := by
  unfold pairErr
  rw [keysP_at h, keysP_at (show i - 1 < l.length by omega)]
  simp [h]
theorem store_ok {l : Prs} (h : storeErr l = 0) : StoreOk l := by
  have ha := firstE_all h
  have hz : ∀ i, (hi : i < l.length) → keyB l[i].1 = true ∧ (valB l[i].2 = true ∧ l[i].2 ≠ 0) ∧ (0 < i → blt (l[i - 1]'(by omega)).1 l[i].1 = true) := by
    intro i hi
    have := ha i hi
    rw [pairErr_at hi] at this
    split at this
    · cases this
    · rename_i h1
      split at this
      · cases this
      · rename_i h2
        split at this
        · cases this
        · rename_i h3
          refine ⟨by simpa using h1, by simpa using h2, fun h0 => ?_⟩
          cases hb : blt (l[i - 1]'(by omega)).1 l[i].1 with
          | true => rfl
          | false => exact absurd ⟨h0, hb⟩ h3
  refine ⟨fun p hp => ?_, fun p hp => ?_, srtP_of (srt_adj fun i hi => ?_)⟩
  · obtain ⟨i, hi, rfl⟩ := List.mem_iff_getElem.1 hp; exact (hz i hi).1
  · obtain ⟨i, hi, rfl⟩ := List.mem_iff_getElem.1 hp
    have := (hz i hi).2.1
    simp only [valB, Bool.and_eq_true, decide_eq_true_eq] at this
    exact ⟨this.2, this.1⟩
  · rw [keysP_len] at hi
    rw [keysP_at hi, keysP_at (show i < l.length by omega)]
    exact (hz (i + 1) hi).2.2 (by omega)
theorem storeErr_ok {l : Prs} (h : StoreOk l) : storeErr l = 0 := by
  refine firstE_zero fun i hi => ?_
  have hm := List.getElem_mem hi
  have hv := h.val _ hm
  rw [pairErr_at hi, if_neg (by simp [h.key _ hm]), if_neg, if_neg]
  · rintro ⟨h0, hb⟩
    have := List.pairwise_iff_getElem.1 h.srt (i - 1) i (by omega) hi (by omega)
    rw [hb] at this; cases this
  · simp [valB]; omega
theorem storeOk_with {l : Prs} (h : StoreOk l) {k : ByteArray} {n : Int} (hk : keyB k = true) (hn : -1000000000 ≤ n ∧ n ≤ 1000000000) : StoreOk (withP l k n) :=
  ⟨keys_with h.key hk, fun p hp => by
    rcases with_mem hp with hp | ⟨hp, h0⟩
    · exact h.val p hp
    · subst hp; exact ⟨h0, hn⟩, srt_with h.srt k n⟩
theorem store_ext {l m : Prs} (h : StoreOk l) (k : StoreOk m) (e : ∀ x, valP l x = valP m x) : l = m := prs_ext h.srt k.srt h.nz k.nz e
theorem mem_of_filter {α : Type} {p : α → Bool} {x : α} {l : List α} (h : x ∈ l.filter p) : x ∈ l := (List.mem_filter.1 h).1
theorem storeOk_filter {l : Prs} (h : StoreOk l) (p : ByteArray × Int → Bool) : StoreOk (l.filter p) :=
  ⟨fun q hq => h.key q (mem_of_filter hq), fun q hq => h.val q (mem_of_filter hq), List.Pairwise.filter _ h.srt⟩
theorem val_filter {l : Prs} (h : srtP l) (p : ByteArray × Int → Bool) (k : ByteArray) : valP (l.filter p) k = if p (k, valP l k) then valP l k else 0 := by
  induction l with
  | nil => simp only [List.filter_nil, valP]; exact (ite_self 0).symm
  | cons q l ih =>
    obtain ⟨h1, h2⟩ := srtP_cons.1 h
    rw [List.filter_cons]
    by_cases e : q.1 = k
    · have e2 : q = (k, q.2) := by rw [← e]
      have hv : valP (q :: l) k = q.2 := by rw [valP, if_pos e]
      rw [hv]
      cases hp : p q with
      | true => rw [if_pos rfl, valP, if_pos e, if_pos (by rw [← e2]; exact hp)]
      | false =>
        rw [if_neg (by simp), if_neg (by rw [← e2, hp]; simp)]
        exact valP_lt fun r hr => by rw [← e]; exact h1 r (mem_of_filter hr)
    · have hv : valP (q :: l) k = valP l k := by rw [valP, if_neg e]
      rw [hv]
      split
      · rw [valP, if_neg e, ih h2]
      · exact ih h2
end Go.Proofs.YtnepdfpooobmcaaGreat
