/- Contracts and lemmas for the proof of CopiesSame; each theorem states its own conditions. -/
import Derived.Test.YtimchedebcoohaaGreatQCopiesSamead
import Derived.Test.YtimchedebcoohaaGreatQCopiesSameaa
import Derived.Laws.IdiomCopy
import Derived.Test.YtimchedebcoohaaGreatQCopiesSameaj
import Derived.Test.YtimchedebcoohaaGreatQCopiesSameaf
import Derived.Test.YtimchedebcoohaaGreatQCopiesSameab
import Derived.Shelf.Sort.Plain
import Derived.Shelf.Slices.In.SortNone
import Derived.Shelf.Slices.CompactS
set_option linter.unusedVariables false
set_option linter.unusedSimpArgs false
/- Contracts and lemmas for the proofs of this seat; each theorem states its own conditions. -/
namespace Go.Proofs.YtimchedebcoohaaGreat
/-! the table of claims, in plain lists -/
def memB (l : List ByteArray) (k : ByteArray) : Bool := l.any fun j => decide (j = k)
theorem memB_iff {l : List ByteArray} {k : ByteArray} : memB l k = true ↔ k ∈ l := by simp [memB]
theorem memB_not {l : List ByteArray} {k : ByteArray} : memB l k = false ↔ k ∉ l := by
  rw [← memB_iff]; simp
theorem getD_app {α : Type} {l l' : List α} {n : Nat} {z : α} (h : n < l.length) : (l ++ l').getD n z = l.getD n z := by
  simp [List.getD, List.getElem?_append_left h]
def tchB (d : Ops) (k : ByteArray) : Bool := memB (rds d) k || memB (wrs d) k
theorem tchB_iff {d : Ops} {k : ByteArray} : tchB d k = true ↔ k ∈ rds d ∨ k ∈ wrs d := by simp [tchB, memB_iff]
abbrev Clm := List (Nat × Bool)
def clm1 (A : List Ops) (g : Nat → Bool) (k : ByteArray) (s : Nat) : Clm := if g s = false ∧ tchB (A.getD s []) k = true then [(s, memB (wrs (A.getD s [])) k)] else []
/-- the claims to a key, of the first n deeds -/
def clmTo (A : List Ops) (g : Nat → Bool) (k : ByteArray) : Nat → Clm
  | 0 => []
  | n + 1 => clmTo A g k n ++ clm1 A g k n
theorem clm1_fst {A : List Ops} {g : Nat → Bool} {k : ByteArray} {s : Nat} {c : Nat × Bool} (h : c ∈ clm1 A g k s) : c = (s, memB (wrs (A.getD s [])) k) ∧ g s = false ∧ tchB (A.getD s []) k = true := by
  unfold clm1 at h
  split at h
  · rename_i e; exact ⟨by simpa using h, e⟩
  · cases h
theorem clm_mem {A : List Ops} {g : Nat → Bool} {k : ByteArray} : ∀ {n : Nat} {c : Nat × Bool}, c ∈ clmTo A g k n ↔ c.1 < n ∧ g c.1 = false ∧ tchB (A.getD c.1 []) k = true ∧ c.2 = memB (wrs (A.getD c.1 [])) k
  | 0, c => by simp [clmTo]
  | n + 1, c => by
    rw [clmTo, List.mem_append, clm_mem]
    constructor
    · rintro (⟨a, b⟩ | h)
      · exact ⟨by omega, b⟩
      · obtain ⟨rfl, h1, h2⟩ := clm1_fst h
        exact ⟨by simp, h1, h2, rfl⟩
    · rintro ⟨a, b1, b2, b3⟩
      by_cases e : c.1 < n
      · exact .inl ⟨e, b1, b2, b3⟩
      · right
        have e : c.1 = n := by omega
        obtain ⟨c1, c2⟩ := c
        dsimp only at *
        subst e
        unfold clm1
        rw [if_pos ⟨b1, b2⟩, b3]; simp
/-- has s what it claims? by the program's road -/
def holdsG (first mine : Bool) (s : Nat) : Clm → Bool
  | [] => false
  | c :: r => if c.1 = s then first || (!c.2 && !mine) else holdsG false (mine || c.2) s r
def holdsL (l : Clm) (s : Nat) : Bool := holdsG true false s l
theorem holdsG_pre {s : Nat} {r : Clm} : ∀ {pre : Clm} {f m : Bool}, (∀ c ∈ pre, c.1 ≠ s) → holdsG f m s (pre ++ r) = holdsG (f && pre.isEmpty) (m || pre.any (·.2)) s r
  | [], f, m, _ => by simp
  | c :: pre, f, m, h => by
    rw [List.cons_append, holdsG, if_neg (h c (by simp)), holdsG_pre fun d hd => h d (by simp [hd])]
    simp [Bool.or_assoc]
theorem clm_split {A : List Ops} {g : Nat → Bool} {k : ByteArray} {s : Nat} : ∀ {n : Nat}, s < n → ∃ r, clmTo A g k n = clmTo A g k s ++ clm1 A g k s ++ r
  | 0, h => by omega
  | n + 1, h => by
    rcases Nat.lt_or_ge s n with h' | h'
    · obtain ⟨r, hr⟩ := clm_split (A := A) (g := g) (k := k) h'
      exact ⟨r ++ clm1 A g k n, by rw [clmTo, hr]; simp⟩
    · obtain rfl : s = n := by omega
      exact ⟨[], by rw [clmTo]; simp⟩
theorem holds_iff {A : List Ops} {g : Nat → Bool} {k : ByteArray} {s n : Nat} (hs : s < n) (hg : g s = false) (ht : tchB (A.getD s []) k = true) :
    holdsL (clmTo A g k n) s = true ↔ ∀ t, t < s → g t = false → tchB (A.getD t []) k = true → memB (wrs (A.getD s [])) k = false ∧ memB (wrs (A.getD t [])) k = false := by
  obtain ⟨r, hr⟩ := clm_split (A := A) (g := g) (k := k) hs
  unfold holdsL
  rw [hr, List.append_assoc, holdsG_pre (fun c hc => by have := (clm_mem.1 hc).1; omega)]
  have e : clm1 A g k s = [(s, memB (wrs (A.getD s [])) k)] := by unfold clm1; rw [if_pos ⟨hg, ht⟩]
  rw [e]
  simp only [List.cons_append, holdsG, if_true, Bool.true_and, Bool.false_or, Bool.or_eq_true, Bool.and_eq_true, Bool.not_eq_true', List.isEmpty_iff]
  constructor
  · rintro (h | ⟨h1, h2⟩) t ht' hgt htt
    · have : ((t, memB (wrs (A.getD t [])) k) : Nat × Bool) ∈ clmTo A g k s := clm_mem.2 ⟨ht', hgt, htt, rfl⟩
      rw [h] at this; cases this
    · refine ⟨h1, ?_⟩
      rw [List.any_eq_false] at h2
      have := h2 (t, memB (wrs (A.getD t [])) k) (clm_mem.2 ⟨ht', hgt, htt, rfl⟩)
      simpa using this
  · intro h
    by_cases e0 : clmTo A g k s = []
    · exact .inl e0
    · right
      obtain ⟨c, hc⟩ := List.exists_mem_of_ne_nil _ e0
      obtain ⟨c1, c2, c3, c4⟩ := clm_mem.1 hc
      refine ⟨(h c.1 c1 c2 c3).1, ?_⟩
      rw [List.any_eq_false]
      intro d hd
      obtain ⟨d1, d2, d3, d4⟩ := clm_mem.1 hd
      rw [d4, (h d.1 d1 d2 d3).2]; simp
/-- may it go on? by the document -/
def mayB (A : List Ops) (g : Nat → Bool) (s : Nat) : Bool := (List.range s).all fun t => g t || !clashB (A.getD t []) (A.getD s [])
theorem mayB_iff {A : List Ops} {g : Nat → Bool} {s : Nat} : mayB A g s = true ↔ ∀ t, t < s → g t = false → clashB (A.getD t []) (A.getD s []) = false := by
  simp only [mayB, List.all_eq_true, List.mem_range, Bool.or_eq_true, Bool.not_eq_true']
  constructor
  · intro h t ht hg
    rcases h t ht with e | e
    · rw [hg] at e; cases e
    · exact e
  · intro h t ht
    cases hg : g t with
    | true => exact .inl rfl
    | false => exact .inr (h t ht hg)
theorem clash_no {a b : Ops} : clashB a b = false ↔ ∀ k, tchB a k = true → tchB b k = true → memB (wrs a) k = false ∧ memB (wrs b) k = false := by
  have mf : ∀ x y : List ByteArray, meets x y = false ↔ ∀ k ∈ x, k ∉ y := fun x y => by
    constructor
    · exact fun h => meets_no h
    · intro h
      cases e : meets x y with
      | false => rfl
      | true => obtain ⟨k, h1, h2⟩ := meets_iff.1 e; exact absurd h2 (h k h1)
  unfold clashB
  simp only [Bool.or_eq_false_iff, mf, tchB_iff, memB_not]
  constructor
  · rintro ⟨⟨h1, h2⟩, h3⟩ k ha hb
    constructor
    · intro hw
      rcases hb with hb | hb
      · exact h2 k hw hb
      · exact h1 k hw hb
    · intro hw
      rcases ha with ha | ha
      · exact h3 k ha hw
      · exact h1 k ha hw
  · intro h
    exact ⟨⟨fun k ha hb => (h k (.inr ha) (.inr hb)).1 ha, fun k ha hb => (h k (.inr ha) (.inl hb)).1 ha⟩, fun k ha hb => (h k (.inl ha) (.inr hb)).2 hb⟩
theorem may_iff {A : List Ops} {g : Nat → Bool} {s n : Nat} (hs : s < n) (hg : g s = false) {L : List ByteArray} (hL : ∀ k, k ∈ L ↔ tchB (A.getD s []) k = true) :
    (∀ k ∈ L, holdsL (clmTo A g k n) s = true) ↔ mayB A g s = true := by
  rw [mayB_iff]
  constructor
  · intro h t ht hgt
    rw [clash_no]
    intro k hk1 hk2
    have := (holds_iff hs hg hk2).1 (h k ((hL k).2 hk2)) t ht hgt hk1
    exact ⟨this.2, this.1⟩
  · intro h k hk
    have hk2 := (hL k).1 hk
    rw [holds_iff hs hg hk2]
    intro t ht hgt htt
    have := clash_no.1 (h t ht hgt) k htt hk2
    exact ⟨this.2, this.1⟩
/-- one that goes -/
def goneW (g : Nat → Bool) (s : Nat) : Nat → Bool := fun t => if t = s then true else g t
theorem clm1_gone {A : List Ops} {g : Nat → Bool} {k : ByteArray} (s t : Nat) : clm1 A (goneW g s) k t = (clm1 A g k t).filter (fun c => !decide (c.1 = s)) := by
  unfold clm1 goneW
  by_cases e : t = s
  · subst e
    simp only [if_true, Bool.true_eq_false, false_and, if_false]
    split
    · simp
    · rfl
  · simp only [if_neg e]
    split
    · simp [e]
    · rfl
theorem clm_gone {A : List Ops} {g : Nat → Bool} {k : ByteArray} (s : Nat) : ∀ n, clmTo A (goneW g s) k n = (clmTo A g k n).filter (fun c => !decide (c.1 = s))
  | 0 => rfl
  | n + 1 => by rw [clmTo, clmTo, List.filter_append, clm_gone s n, clm1_gone]
theorem clm_off {A : List Ops} {g : Nat → Bool} {k : ByteArray} {s : Nat} (h : tchB (A.getD s []) k = false) (n : Nat) : clmTo A (goneW g s) k n = clmTo A g k n := by
  rw [clm_gone, List.filter_eq_self]
  intro c hc
  obtain ⟨_, _, h3, _⟩ := clm_mem.1 hc
  have : c.1 ≠ s := fun e => by rw [e, h] at h3; cases h3
  simp [this]
theorem clm_grow {A B : List Ops} {g : Nat → Bool} {k : ByteArray} : ∀ {n : Nat}, n ≤ A.length → clmTo (A ++ B) g k n = clmTo A g k n
  | 0, _ => rfl
  | n + 1, h => by
    rw [clmTo, clmTo, clm_grow (by omega)]
    unfold clm1
    rw [getD_app (by omega)]
theorem clm_add {A : List Ops} {g : Nat → Bool} {k : ByteArray} {d : Ops} (hg : g A.length = false) : clmTo (A ++ [d]) g k (A.length + 1) = clmTo A g k A.length ++ (if tchB d k = true then [(A.length, memB (wrs d) k)] else []) := by
  rw [clmTo, clm_grow (Nat.le_refl _)]
  unfold clm1
  have e : (A ++ [d]).getD A.length [] = d := by simp
  rw [e, hg]
  simp
theorem may_mono {A : List Ops} {g : Nat → Bool} {s t : Nat} (h : mayB A g t = true) : mayB A (goneW g s) t = true := by
  rw [mayB_iff] at h ⊢
  intro u hu hg
  refine h u hu ?_
  unfold goneW at hg
  split at hg
  · cases hg
  · exact hg
theorem may_grow {A B : List Ops} {g : Nat → Bool} {s : Nat} (hs : s < A.length) : mayB (A ++ B) g s = mayB A g s := by
  unfold mayB
  rw [Bool.eq_iff_iff, List.all_eq_true, List.all_eq_true]
  constructor
  · intro h t ht
    have := h t ht
    rw [List.mem_range] at ht
    rwa [getD_app hs, getD_app (by omega)] at this
  · intro h t ht
    have := h t ht
    rw [List.mem_range] at ht
    rwa [getD_app hs, getD_app (by omega)]
/-- those that may go on -/
def readyL (A : List Ops) (g : Nat → Bool) (n : Nat) : List Nat := (List.range n).filter fun s => !g s && mayB A g s
theorem ready_mem {A : List Ops} {g : Nat → Bool} {n s : Nat} : s ∈ readyL A g n ↔ s < n ∧ g s = false ∧ mayB A g s = true := by
  simp [readyL]
theorem ready_succ (A : List Ops) (g : Nat → Bool) (n : Nat) : readyL A g (n + 1) = readyL A g n ++ if (!g n && mayB A g n) = true then [n] else [] := by
  unfold readyL
  rw [List.range_succ, List.filter_append]
  congr 1
  simp only [List.filter_cons, List.filter_nil]
theorem ready_apart {A : List Ops} {g : Nat → Bool} {n a b : Nat} (ha : a ∈ readyL A g n) (hb : b ∈ readyL A g n) (hne : a ≠ b) : clashB (A.getD a []) (A.getD b []) = false := by
  obtain ⟨_, a2, a3⟩ := ready_mem.1 ha
  obtain ⟨_, b2, b3⟩ := ready_mem.1 hb
  rcases Nat.lt_or_ge a b with h | h
  · exact mayB_iff.1 b3 a h a2
  · rw [clash_symm]; exact mayB_iff.1 a3 b (by omega) b2
def liveN (g : Nat → Bool) : Nat → Nat
  | 0 => 0
  | n + 1 => liveN g n + if g n = false then 1 else 0
theorem live_none {g : Nat → Bool} : ∀ {n : Nat}, liveN g n = 0 → ∀ t < n, g t = true
  | 0, _, t, ht => by omega
  | n + 1, h, t, ht => by
    simp only [liveN] at h
    split at h
    · omega
    · rename_i hn
      rcases Nat.lt_or_ge t n with h' | h'
      · exact live_none (by omega) t h'
      · obtain rfl : t = n := by omega
        simpa using hn
theorem live_gone {g : Nat → Bool} {s : Nat} (hg : g s = false) : ∀ {n : Nat}, (s < n → liveN (goneW g s) n + 1 = liveN g n) ∧ (n ≤ s → liveN (goneW g s) n = liveN g n)
  | 0 => ⟨fun h => by omega, fun _ => rfl⟩
  | n + 1 => by
    obtain ⟨h1, h2⟩ := live_gone (s := s) hg (n := n)
    refine ⟨fun h => ?_, fun h => ?_⟩
    · simp only [liveN]
      rcases Nat.lt_or_ge s n with h' | h'
      · have := h1 h'
        have e : goneW g s n = g n := by unfold goneW; rw [if_neg (by omega)]
        rw [e]; omega
      · obtain rfl : s = n := by omega
        have := h2 (Nat.le_refl _)
        have e : goneW g s s = true := by unfold goneW; rw [if_pos rfl]
        rw [e, hg, this]; simp
    · simp only [liveN]
      rw [h2 (by omega)]
      have e : goneW g s n = g n := by unfold goneW; rw [if_neg (by omega)]
      rw [e]
/-- the first one that is there may go on -/
theorem ready_some {A : List Ops} {g : Nat → Bool} {n : Nat} (h : 0 < liveN g n) : readyL A g n ≠ [] := by
  have : ∃ t, t < n ∧ g t = false := by
    refine Classical.byContradiction fun hne => ?_
    have hall : ∀ t < n, g t = true := fun t ht => by
      cases e : g t with
      | true => rfl
      | false => exact absurd ⟨t, ht, e⟩ hne
    have : ∀ m ≤ n, liveN g m = 0 := by
      intro m
      induction m with
      | zero => intro _; rfl
      | succ m ih => intro hm; simp only [liveN]; rw [ih (by omega), hall m (by omega)]; simp
    have := this n (Nat.le_refl _)
    omega
  obtain ⟨t, ht, hgt⟩ := this
  have hex : ∃ s, s ≤ t ∧ g s = false ∧ ∀ u < s, g u = true := by
    clear ht h
    induction t using Nat.strongRecOn with
    | _ t ih =>
      by_cases h : ∃ u, u < t ∧ g u = false
      · obtain ⟨u, hu, hgu⟩ := h
        obtain ⟨s, h1, h2, h3⟩ := ih u hu hgu
        exact ⟨s, by omega, h2, h3⟩
      · refine ⟨t, Nat.le_refl _, hgt, fun u hu => ?_⟩
        cases e : g u with
        | true => rfl
        | false => exact absurd ⟨u, hu, e⟩ h
  obtain ⟨s, h1, h2, h3⟩ := hex
  have : s ∈ readyL A g n := ready_mem.2 ⟨by omega, h2, mayB_iff.2 fun u hu hgu => by rw [h3 u hu] at hgu; cases hgu⟩
  intro e; rw [e] at this; cases this
theorem live_le (g : Nat → Bool) (n : Nat) : liveN g n ≤ n := by
  induction n with
  | zero => exact Nat.le_refl _
  | succ n ih => simp only [liveN]; split <;> omega
theorem live_all {g : Nat → Bool} {n : Nat} (h : ∀ t < n, g t = false) : liveN g n = n := by
  induction n with
  | zero => rfl
  | succ n ih => simp only [liveN]; rw [ih (fun t ht => h t (by omega)), h n (by omega)]; simp
theorem rd_key {d : Ops} (h : DeedOk d) : ∀ k ∈ rds d, keyB k = true := fun k hk => by
  obtain ⟨o, ho, hk⟩ := List.mem_flatMap.1 hk
  have oo := h.ops o ho
  rcases kinds oo with e | e | e | e | e
  all_goals simp [rdO, e] at hk
  · rw [hk]; exact oo.key
  · rw [hk]; exact (oo.from_ (.inl e)).1
  · rw [hk]; exact oo.key
  · rcases hk with hk | hk
    · rw [hk]; exact oo.key
    · rw [hk]; exact (oo.from_ (.inr e)).1
theorem wr_key {d : Ops} (h : DeedOk d) : ∀ k ∈ wrs d, keyB k = true := fun k hk => by
  obtain ⟨o, ho, hk⟩ := List.mem_flatMap.1 hk
  have oo := h.ops o ho
  rcases kinds oo with e | e | e | e | e
  all_goals simp [wrO, e] at hk
  · rw [hk]; exact oo.key
  · rw [hk]; exact oo.key
  · rw [hk]; exact oo.key
  · rcases hk with hk | hk
    · rw [hk]; exact oo.key
    · rw [hk]; exact (oo.from_ (.inr e)).1
theorem tch_key {d : Ops} (h : DeedOk d) {k : ByteArray} (hk : tchB d k = true) : keyB k = true := by
  rcases tchB_iff.1 hk with e | e
  · exact rd_key h k e
  · exact wr_key h k e
theorem may_any' {A : List Ops} {g : Nat → Bool} {s n : Nat} (hs : s < n) (hg : g s = false) {L : List ByteArray} (hL : ∀ k, k ∈ L ↔ tchB (A.getD s []) k = true) :
    (!(L.any fun k => !holdsL (clmTo A g k n) s)) = mayB A g s := by
  rw [Bool.eq_iff_iff, ← may_iff hs hg hL]
  simp [List.any_eq_true]
end Go.Proofs.YtimchedebcoohaaGreat

/- Contracts and lemmas for the proofs of this seat; each theorem states its own conditions. -/
namespace Go.Proofs.YtimchedebcoohaaGreat
open Go.RowKit
/-! Many cells written in one block -/
def putL (cur : Array Value) (o : Nat) : List Value → Array Value
  | [] => cur
  | v :: r => putL (cur.setIfInBounds o v) (o + 1) r
theorem putL_size : ∀ (vs : List Value) (cur : Array Value) (o : Nat), (putL cur o vs).size = cur.size
  | [], _, _ => rfl
  | _ :: r, cur, o => by rw [putL, putL_size r]; simp
theorem putL_eq : ∀ (vs : List Value) (cur : Array Value) (o : Nat), o + vs.length ≤ cur.size → (putL cur o vs).toList = cur.toList.take o ++ vs ++ cur.toList.drop (o + vs.length)
  | [], cur, o, _ => by simp [putL]
  | v :: r, cur, o, h => by
    simp only [List.length_cons] at h
    rw [putL, putL_eq r _ _ (by simp; omega), Array.toList_setIfInBounds, List.set_eq_take_append_cons_drop, if_pos (by simp; omega)]
    have e1 : (cur.toList.take o).length = o := by simp; omega
    have e2 : o + 1 - o = 1 := by omega
    have e3 : o + 1 + r.length - o = r.length + 1 := by omega
    rw [List.take_append, List.drop_append, e1, e2, e3, List.take_of_length_le (by omega), @List.drop_eq_nil_of_le _ (cur.toList.take o) _ (by omega)]
    simp [Nat.add_assoc, Nat.add_comm 1]
theorem setCells_heap (b : Nat) (t : TypeId) (fr : Nat × Nat) : ∀ (vs : List Value) (o : Nat) (w : World) (cur : Array Value), w.heap[b]? = some (.cells cur t fr) → (w.setCells b o vs).heap[b]? = some (.cells (putL cur o vs) t fr)
  | [], _, _, _, h => h
  | v :: r, o, w, cur, h => setCells_heap b t fr r (o + 1) _ _ (by simp [World.setCell, Array.getElem?_modify, h])
theorem ext_setCells {B b : Nat} {a : World} (hb : B ≤ b) : ∀ (vs : List Value) (o : Nat) (w : World), Below B a w → Below B a (w.setCells b o vs)
  | [], _, _, h => h
  | v :: r, o, w, h => ext_setCells hb r (o + 1) _ (Below.setCell h hb v)
theorem setCells_other {b k : Nat} (hk : k ≠ b) : ∀ (vs : List Value) (o : Nat) (w : World), (w.setCells b o vs).heap[k]? = w.heap[k]?
  | [], _, _ => rfl
  | v :: r, o, w => (setCells_other hk r (o + 1) _).trans (Below.heap_setCell _ _ _ _ (fun e => hk e))
end Go.Proofs.YtimchedebcoohaaGreat

/- Contracts and lemmas for the proofs of this seat; each theorem states its own conditions. -/
namespace Go.Proofs.YtimchedebcoohaaGreat
open Go.RowKit Go.Shelf Go.Lib Go.Sort
/-! deed.sorted: texts in order, each once -/
theorem bl_lt (x y : List UInt8) : (Op.bytesLess x y = true) ↔ x < y := by rw [bytesLess_eq]; simp
theorem lt_tri (x y : List UInt8) : x < y ∨ x = y ∨ y < x := by
  rcases bl_tri x y with h | h | h
  · exact .inl ((bl_lt _ _).1 h)
  · exact .inr (.inl h)
  · exact .inr (.inr ((bl_lt _ _).1 h))
theorem lt_tr {x y z : List UInt8} (h : x < y) (k : y < z) : x < z := (bl_lt _ _).1 (bl_trans _ _ _ ((bl_lt _ _).2 h) ((bl_lt _ _).2 k))
theorem lt_ir (x : List UInt8) : ¬ x < x := fun h => by have := (bl_lt _ _).2 h; rw [bl_irrefl] at this; cases this
theorem le_not {x y : List UInt8} : x ≤ y ↔ ¬ y < x := Iff.rfl
theorem le_lt {x y z : List UInt8} (h : x ≤ y) (k : y < z) : x < z := by
  rcases lt_tri x y with e | e | e
  · exact lt_tr e k
  · rw [e]; exact k
  · exact absurd e (le_not.1 h)
theorem le_tr {x y z : List UInt8} (h : x ≤ y) (k : y ≤ z) : x ≤ z := by
  rcases lt_tri y z with e | e | e
  · exact le_not.2 fun h' => lt_ir _ (lt_tr (le_lt h e) h')
  · rw [← e]; exact h
  · exact absurd e (le_not.1 k)
theorem sort_le (zs : List (List UInt8)) : (zs.mergeSort fun x y => decide (x ≤ y)).Pairwise fun x y => x ≤ y := by
  have := List.pairwise_mergeSort (le := fun x y : List UInt8 => decide (x ≤ y)) (fun a b c h k => by simp only [decide_eq_true_eq] at *; exact le_tr h k) (fun a b => by
    rcases lt_tri a b with e | e | e
    · simp only [Bool.or_eq_true, decide_eq_true_eq]; exact .inl (le_not.2 fun h => lt_ir _ (lt_tr e h))
    · simp only [Bool.or_eq_true, decide_eq_true_eq]; left; rw [e]; exact le_not.2 (lt_ir _)
    · simp only [Bool.or_eq_true, decide_eq_true_eq]; exact .inr (le_not.2 fun h => lt_ir _ (lt_tr e h))) zs
  exact this.imp fun h => by simpa using h
theorem comp_to {d : Array (List UInt8)} (h : ∀ i j, i < j → j < d.size → d[i]! ≤ d[j]!) : ∀ m, m ≤ d.size → (compactUpTo d m).Pairwise (fun x y => x < y) ∧ (∀ x ∈ compactUpTo d m, ∃ j, j < m ∧ x = d[j]!) ∧ ∀ j, j < m → d[j]! ∈ compactUpTo d m
  | 0, _ => by simp [compactUpTo]
  | m + 1, hm => by
    obtain ⟨h1, h2, h3⟩ := comp_to h m (by omega)
    rw [compactUpTo_succ]
    by_cases hk : keeps d m = true
    · rw [if_pos hk]
      refine ⟨List.pairwise_append.2 ⟨h1, by simp, fun a ha b hb => ?_⟩, fun x hx => ?_, fun j hj => ?_⟩
      · simp at hb; subst hb
        obtain ⟨j, hj, rfl⟩ := h2 a ha
        have hne : d[m]! ≠ d[m - 1]! := by
          simp [keeps] at hk
          rcases hk with e | e
          · omega
          · exact e
        have h4 := h (m - 1) m (by omega) (by omega)
        have h5 : d[m - 1]! < d[m]! := by
          rcases lt_tri (d[m - 1]!) (d[m]!) with e | e | e
          · exact e
          · exact absurd e.symm hne
          · exact absurd e (le_not.1 h4)
        rcases Nat.lt_or_ge j (m - 1) with e | e
        · exact le_lt (h j (m - 1) e (by omega)) h5
        · have : j = m - 1 := by omega
          rw [this]; exact h5
      · rcases List.mem_append.1 hx with hx | hx
        · obtain ⟨j, hj, e⟩ := h2 x hx; exact ⟨j, by omega, e⟩
        · simp at hx; exact ⟨m, by omega, hx⟩
      · rcases Nat.lt_or_ge j m with e | e
        · exact List.mem_append_left _ (h3 j e)
        · have : j = m := by omega
          rw [this]; simp
    · rw [if_neg hk, List.append_nil]
      have hm0 : m ≠ 0 ∧ d[m]! = d[m - 1]! := by
        simp [keeps] at hk; exact hk
      refine ⟨h1, fun x hx => ?_, fun j hj => ?_⟩
      · obtain ⟨j, hj, e⟩ := h2 x hx; exact ⟨j, by omega, e⟩
      · rcases Nat.lt_or_ge j m with e | e
        · exact h3 j e
        · have : j = m := by omega
          rw [this, hm0.2]
          exact h3 (m - 1) (by omega)
theorem comp_sorted {zs : List (List UInt8)} (h : zs.Pairwise fun x y => x ≤ y) : (compact zs).Pairwise (fun x y => x < y) ∧ ∀ x, x ∈ compact zs ↔ x ∈ zs := by
  have ha : ∀ i j, i < j → j < zs.toArray.size → zs.toArray[i]! ≤ zs.toArray[j]! := fun i j hij hj => by
    have hj' : j < zs.length := by simpa using hj
    have hi' : i < zs.length := by omega
    have := List.pairwise_iff_getElem.1 h i j hi' hj' hij
    simpa [hi', hj'] using this
  obtain ⟨h1, h2, h3⟩ := comp_to ha zs.length (by simp)
  refine ⟨h1, fun x => ⟨fun hx => ?_, fun hx => ?_⟩⟩
  · obtain ⟨j, hj, e⟩ := h2 x hx
    rw [e]; simp [hj]
  · obtain ⟨j, hj, rfl⟩ := List.mem_iff_getElem.1 hx
    have := h3 j hj
    unfold compact
    simpa [hj] using this
def ofL (b : List UInt8) : ByteArray := ⟨b.toArray⟩
theorem ofL_data (k : ByteArray) : ofL k.data.toList = k := by simp [ofL]
/-- texts in order, each once -/
def sortU (L : List ByteArray) : List ByteArray := (compact ((L.map fun k => k.data.toList).mergeSort fun x y => decide (x ≤ y))).map ofL
theorem sortU_mem (L : List ByteArray) (k : ByteArray) : k ∈ sortU L ↔ k ∈ L := by
  unfold sortU
  have h := (comp_sorted (sort_le (L.map fun k => k.data.toList))).2
  simp only [List.mem_map, h, List.mem_mergeSort]
  constructor
  · rintro ⟨b, ⟨q, hq, rfl⟩, rfl⟩; rw [ofL_data]; exact hq
  · intro hk; exact ⟨k.data.toList, ⟨k, hk, rfl⟩, ofL_data k⟩
theorem sortU_srt (L : List ByteArray) : (sortU L).Pairwise fun a b => blt a b = true := by
  unfold sortU
  rw [List.pairwise_map]
  refine (comp_sorted (sort_le _)).1.imp fun {a b} h => ?_
  unfold blt
  rw [bl_lt, toList_data, toList_data]
  exact h
theorem sortU_len (L : List ByteArray) : (sortU L).length ≤ L.length := by
  unfold sortU
  have := compact_length_le ((L.map fun k => k.data.toList).mergeSort fun x y => decide (x ≤ y))
  rw [List.length_map]
  refine Nat.le_trans this ?_
  rw [List.length_mergeSort]; simp
theorem srt_uniq {L M : List ByteArray} (hL : L.Pairwise fun a b => blt a b = true) (hM : M.Pairwise fun a b => blt a b = true) (h : ∀ k, k ∈ L ↔ k ∈ M) : L = M := by
  induction L generalizing M with
  | nil =>
    cases M with
    | nil => rfl
    | cons m M => exact absurd ((h m).2 (by simp)) (by simp)
  | cons l L ih =>
    cases M with
    | nil => exact absurd ((h l).1 (by simp)) (by simp)
    | cons m M =>
      rw [List.pairwise_cons] at hL hM
      have e : l = m := by
        rcases List.mem_cons.1 ((h l).1 (by simp)) with e | e
        · exact e
        · rcases List.mem_cons.1 ((h m).2 (by simp)) with e' | e'
          · exact e'.symm
          · have h1 := hM.1 l e
            have h2 := hL.1 m e'
            rw [blt_asymm h1] at h2; cases h2
      subst e
      have hh : ∀ k, k ∈ L ↔ k ∈ M := fun k => by
        constructor
        · intro hk
          rcases List.mem_cons.1 ((h k).1 (by simp [hk])) with e | e
          · subst e; have := hL.1 _ hk; rw [blt_irrefl] at this; cases this
          · exact e
        · intro hk
          rcases List.mem_cons.1 ((h k).2 (by simp [hk])) with e | e
          · subst e; have := hM.1 _ hk; rw [blt_irrefl] at this; cases this
          · exact e
      rw [ih hL.2 hM.2 hh]
theorem below_of_grown {B g : Nat} {w w' : World} (h : w.grownBy w' (some g)) (hB : B ≤ g) (hs : B ≤ w.heap.size) : Below B w w' :=
  ⟨h.os, h.tape, h.output, h.size, fun k hk => h.block k (by omega) (fun e => by injection e with e; omega)⟩
theorem own_puts {w : World} {B e n c g : Nat} {xs ys : List Value} (h : w.ownsRow B e 1 (.slice (some ⟨g, 0, none⟩) n c) n xs) (hl : ys.length = n) (q : Nat) (os : Array Obj) :
    (grow ((w.drewN q).setCells g 0 ys) os).ownsRow B e 1 (.slice (some ⟨g, 0, none⟩) n c) n ys ∧ w.grownBy (grow ((w.drewN q).setCells g 0 ys) os) (some g) := by
  obtain ⟨h0, h1⟩ := h
  rcases h1 with ⟨h1, _⟩ | ⟨g', cap, cur, h1, h2, h3, h4, h5, h6, h7⟩
  · cases h1
  · injection h1 with e1 _ e3
    injection e1 with e1; injection e1 with e1
    subst e1; subst e3
    have hh := setCells_heap g e (0, 0) ys 0 (w.drewN q) cur h3
    have hlt := lt_of_block hh
    have hb := ext_setCells (B := 0) (b := g) (a := w) (Nat.zero_le _) ys 0 (w.drewN q) ⟨rfl, rfl, rfl, Nat.le_refl _, fun _ _ => rfl⟩
    refine ⟨⟨by simpa using hl, .inr ⟨g, c, putL cur 0 ys, rfl, h2, ?_, h4, h5, by rw [putL_size]; exact h6, ?_⟩⟩, hb.os, hb.tape, hb.output, by rw [size_grow]; exact Nat.le_trans hb.size (Nat.le_add_right _ _), fun k hk hne => ?_⟩
    · rw [heap_grow_old _ _ hlt]; exact hh
    · rw [putL_eq _ _ _ (by omega)]
      simp [hl]
    · rw [heap_grow_old _ _ (Nat.lt_of_lt_of_le hk hb.size), setCells_other (fun e => hne (by rw [e])) ys 0]
      rfl
theorem own_shorter {w : World} {B e n m c g : Nat} {xs : List Value} (h : w.ownsRow B e 1 (.slice (some ⟨g, 0, none⟩) n c) n xs) (hm : m ≤ n) : w.ownsRow B e 1 (.slice (some ⟨g, 0, none⟩) m c) m (xs.take m) := by
  obtain ⟨h0, h1⟩ := h
  rcases h1 with ⟨h1, _⟩ | ⟨g', cap, cur, h1, h2, h3, h4, h5, h6, h7⟩
  · cases h1
  · injection h1 with e1 _ e3
    injection e1 with e1; injection e1 with e1
    subst e1; subst e3
    refine ⟨by rw [List.length_take]; omega, .inr ⟨g, c, cur, rfl, h2, h3, by omega, h5, h6, ?_⟩⟩
    rw [← h7, List.take_take]
    congr 1; omega
theorem holds_own {w : World} {B e c g : Nat} {zs : List (List UInt8)} {n : Nat} (h : w.ownsRow B e 1 (.slice (some ⟨g, 0, none⟩) n c) n (zs.map encStr)) : Holds encStr w g 0 zs.toArray := by
  intro j hj
  have hj' : j < zs.length := by simpa using hj
  have hn := h.1
  simp at hn
  obtain ⟨_, _, he, _, _, _, hc⟩ := seg_cells (own_seg h) (by omega)
  injection he with he; injection he with he1 he2
  subst he1; subst he2
  refine ⟨?_, ?_⟩
  · rw [hc j (encStr zs[j]) (by simp [hj'])]
    simp [hj']
  · obtain ⟨cur, hcu⟩ := own_heap h
    simp [World.frozen?, hcu]
theorem cS_enc (L : List ByteArray) : cS L = (L.map fun k => k.data.toList).map encStr := by
  simp [cS, encStr, Function.comp_def]
theorem cS_of (zs : List (List UInt8)) : cS (zs.map ofL) = zs.map encStr := by
  simp [cS, encStr, ofL, Function.comp_def]
set_option maxRecDepth 10000 in
set_option maxHeartbeats 1000000 in
theorem sorted_any (B : Nat) (v : Value) (L : List ByteArray) (w : World) (ho : w.ownsRow B 9 1 v L.length (cS L)) (hB : B ≤ w.heap.size) (hn : L.length ≤ 1000000) :
    Calls Tryz.prog 79 #[v] w fun e w' => ∃ v', e = .returned v' ∧ w'.ownsRow w.heap.size 9 1 v' (sortU L).length (cS (sortU L)) ∧ ∃ w1, w.grownBy w1 v.ownBlock ∧ Ext w1 w' := by
  by_cases h0 : L.length = 0
  · have hL : L = [] := List.eq_nil_of_length_eq_zero h0
    subst hL
    obtain ⟨a, c, rfl⟩ := own_form ho
    have hs := own_seg ho
    have S0 := hid (Any.slices_Sort_string_none lays190 a c w)
    have C0 := hid (Any.slices_Compact_string_empty lays194 a c w)
    have K0 := hid (clone_Str (.slice a 0 c) 0 [] w hs (by simp) (by omega))
    have hu : sortU [] = [] := by simp [sortU, compact, compactUpTo]
    rw [hu]
    clear hu
    go_enter Tryz.func79, Tryz.ntmps79
    go_wp2_with fail
    refine (S0.out).mono ?_
    rintro e w1 ⟨rfl, rfl⟩
    clear S0
    go_wp2_with fail
    refine (C0.out).mono ?_
    rintro e w1 ⟨rfl, rfl⟩
    go_wp2_with fail
    refine (K0.out).mono ?_
    rintro e w1 ⟨a', c', rfl, ho', E1⟩
    go_wp2
    go_ret
    exact ⟨_, rfl, ho', _, World.grownBy.refl _ _, E1⟩
  · obtain ⟨a, c, rfl⟩ := own_form ho
    obtain ⟨g, rfl, hg1, hg2, hg3, hg4⟩ := own_pos ho (by omega)
    clear h0
    rw [cS_enc] at ho
    have hl : (L.map fun k => k.data.toList).length = L.length := by simp
    have S1 := Any.slices_Sort_string lays190 g 0 c (L.map fun k => k.data.toList) w (holds_own ho) hg2 (by omega)
    have hls : ((L.map fun k => k.data.toList).mergeSort fun x y => decide (x ≤ y)).length = L.length := by rw [List.length_mergeSort, hl]
    have hsu : sortU L = (compact ((L.map fun k => k.data.toList).mergeSort fun x y => decide (x ≤ y))).map ofL := rfl
    have hle := compact_length_le ((L.map fun k => k.data.toList).mergeSort fun x y => decide (x ≤ y))
    have hH := holds_own ho
    rw [hl] at S1
    have PS := fun q => putRow_eq_setCells encStr w g 0 (L.map fun k => k.data.toList).toArray ((L.map fun k => k.data.toList).mergeSort fun x y => decide (x ≤ y)) q hH (by rw [hls]; simp)
    generalize ((L.map fun k => k.data.toList).mergeSort fun x y => decide (x ≤ y)) = M at S1 hls hsu hle PS
    generalize L.map (fun k => k.data.toList) = Z at ho hl hH PS
    have S1 := hid S1
    have PS := hid PS
    have HSU := hid hsu
    have hcl : (sortU L).length = (compact M).length := by rw [hsu]; simp
    clear hsu hH
    go_enter Tryz.func79, Tryz.ntmps79
    go_wp2_with fail
    refine (S1.out).mono ?_
    clear S1
    rintro e w1 ⟨rfl, q, os, rfl⟩
    rw [PS.out q]
    clear PS
    obtain ⟨ho1, hg'⟩ := own_puts ho (ys := M.map encStr) (by simpa using hls) q os
    generalize grow ((w.drewN q).setCells g 0 (M.map encStr)) os = w1 at ho1 hg' ⊢
    have C1 := Any.slices_Compact_string lays194 g 0 c M w1 (holds_own ho1) (by omega) (by omega)
    have hH1 := holds_own ho1
    have PS1 := fun q => putRow_eq_setCells encStr w1 g 0 M.toArray (compact M ++ List.replicate (M.length - (compact M).length) []) q hH1 (by simp; omega)
    rw [hls] at C1 PS1
    have hle' : (compact M).length ≤ L.length := by omega
    have C1 := hid C1
    have PS1 := hid PS1
    have HLE := hid hle'
    clear hH1 hls hl hle hle'
    generalize compact M = D at C1 PS1 HLE hcl HSU
    go_wp2_with fail
    refine (C1.out).mono ?_
    clear C1
    rintro e w2 ⟨rfl, q2, rfl⟩
    rw [PS1.out q2]
    clear PS1
    have hle := HLE.out
    obtain ⟨ho2, hg2'⟩ := own_puts ho1 (ys := (D ++ List.replicate (L.length - D.length) []).map encStr) (by simp; omega) q2 #[]
    rw [grow_empty] at ho2 hg2'
    have ho3 := own_shorter ho2 (m := D.length) hle
    have et : ((D ++ List.replicate (L.length - D.length) []).map encStr).take D.length = D.map encStr := by rw [List.map_append, List.take_left' (by simp)]
    rw [et] at ho3
    clear et
    generalize ((w1.drewN q2).setCells g 0 ((D ++ List.replicate (L.length - D.length) []).map encStr)) = w2 at ho2 ho3 hg2' ⊢
    have K0 := hid (clone_Str (.slice (some ⟨g, 0, none⟩) D.length c) D.length (D.map encStr) w2 (own_seg ho3) (by intro u hu; simp [encStr] at hu; obtain ⟨_, _, rfl⟩ := hu; rfl) (by omega))
    have hG := hg'.trans hg2'
    clear hle
    go_wp2_with fail
    refine (K0.out).mono ?_
    rintro e w3 ⟨a', c', rfl, ho', E1⟩
    go_wp2
    go_ret
    refine ⟨_, rfl, ?_, w2, hG, E1⟩
    rw [hcl, HSU.out, cS_of]
    exact own_base ho' hG.size
end Go.Proofs.YtimchedebcoohaaGreat
