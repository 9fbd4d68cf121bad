/- Contracts and lemmas for the proof of PartsMid; each theorem states its own conditions. -/
import Derived.Test.YtijcckhkofkenaaGreatQPartsMidba
set_option linter.unusedVariables false
set_option linter.unusedSimpArgs false
/- Contracts and lemmas for the proofs of this seat; each theorem states its own conditions. -/
namespace Go.Proofs.YtijcckhkofkenaaGreat
/-! parts of a store, all and turned, in plain lists -/
/-- what the last one says -/
def lastV (v : Int) : Prs → ByteArray → Int
  | [], _ => v
  | x :: l, k => lastV (if x.1 = k then x.2 else v) l k
theorem lastV_app (v : Int) (a b : Prs) (k : ByteArray) : lastV v (a ++ b) k = lastV (lastV v a k) b k := by
  induction a generalizing v with
  | nil => rfl
  | cons x a ih => rw [List.cons_append, lastV, ih]; rfl
theorem lastV_filter (p : ByteArray → Bool) (v : Int) (l : Prs) (k : ByteArray) : lastV v (l.filter fun x => p x.1) k = if p k = true then lastV v l k else v := by
  induction l generalizing v with
  | nil => simp [lastV]
  | cons x l ih =>
    rw [List.filter_cons]
    by_cases h : x.1 = k
    · subst h
      cases hp : p x.1
      · rw [if_neg (by simp), ih]; simp [hp]
      · rw [if_pos rfl, lastV, ih, lastV]; simp [hp]
    · cases hp : p x.1
      · rw [if_neg (by simp), ih, lastV, if_neg h]
      · rw [if_pos rfl, lastV, ih, lastV, if_neg h]
theorem val_no {l : Prs} {k : ByteArray} (h : ∀ x ∈ l, x.1 ≠ k) : valP l k = 0 := by
  induction l with
  | nil => rfl
  | cons x l ih => rw [valP, if_neg (h x (by simp)), ih fun y hy => h y (by simp [hy])]
theorem lastV_store {l : Prs} (hs : srtP l) (hz : ∀ x ∈ l, x.2 ≠ 0) (v : Int) (k : ByteArray) : lastV v l k = if valP l k = 0 then v else valP l k := by
  induction l generalizing v with
  | nil => simp [lastV, valP]
  | cons x l ih =>
    obtain ⟨h1, h2⟩ := srtP_cons.1 hs
    rw [lastV, ih h2 (fun y hy => hz y (by simp [hy])), valP]
    by_cases e : x.1 = k
    · subst e
      have h0 : valP l x.1 = 0 := val_no fun y hy e => by have := h1 y hy; rw [e, blt_irrefl] at this; cases this
      rw [if_pos rfl, h0, if_pos rfl, if_pos rfl, if_neg (hz x (by simp))]
    · rw [if_neg e, if_neg e]
/-- one put after the other -/
def foldW (A : Prs) (l : Prs) : Prs := l.foldl (fun a x => withP a x.1 x.2) A
theorem foldW_app (A l m : Prs) : foldW A (l ++ m) = foldW (foldW A l) m := by unfold foldW; rw [List.foldl_append]
theorem foldW_one (A : Prs) (x : ByteArray × Int) : foldW A [x] = withP A x.1 x.2 := rfl
theorem foldW_ok : ∀ {l A : Prs}, StoreOk A → (∀ x ∈ l, keyB x.1 = true ∧ -1000000000 ≤ x.2 ∧ x.2 ≤ 1000000000) → StoreOk (foldW A l) ∧ (foldW A l).length ≤ A.length + l.length ∧ ∀ k, valP (foldW A l) k = lastV (valP A k) l k
  | [], A, h, _ => ⟨h, Nat.le_refl _, fun k => rfl⟩
  | x :: l, A, h, hl => by
    obtain ⟨q1, q2⟩ := hl x (by simp)
    obtain ⟨a, b, c⟩ := foldW_ok (l := l) (storeOk_with h q1 q2) fun y hy => hl y (by simp [hy])
    have hw := with_len A x.1 x.2
    refine ⟨a, by have e : foldW A (x :: l) = foldW (withP A x.1 x.2) l := rfl
                  rw [e, List.length_cons]; omega, fun k => ?_⟩
    have e : foldW A (x :: l) = foldW (withP A x.1 x.2) l := rfl
    rw [e, c k, val_with h.srt, lastV]
/-- the parts below i, in a row -/
def allP (P : Nat → Prs) : Nat → Prs
  | 0 => []
  | i + 1 => allP P i ++ P i
/-- the parts of a store -/
def parP (C : List ByteArray) (O : List Int) (S : Prs) (i : Nat) : Prs := partP C O S (i : Int)
theorem par_ok {S : Prs} (h : StoreOk S) (C : List ByteArray) (O : List Int) (i : Nat) : StoreOk (parP C O S i) := storeOk_filter h _
theorem par_len (C : List ByteArray) (O : List Int) (S : Prs) (i : Nat) : (parP C O S i).length ≤ S.length := List.length_filter_le _ _
theorem par_val {S : Prs} (h : StoreOk S) (C : List ByteArray) (O : List Int) (i : Nat) (k : ByteArray) : valP (parP C O S i) k = if whose C O k = (i : Int) then valP S k else 0 := by
  unfold parP
  rw [partP, val_filter h.srt]
  by_cases e : whose C O k = (i : Int)
  · rw [if_pos (by simp [e]), if_pos e]
  · rw [if_neg (by simp [e]), if_neg e]
theorem par_mem {C : List ByteArray} {O : List Int} {S : Prs} {i : Nat} {x : ByteArray × Int} (h : x ∈ parP C O S i) : whose C O x.1 = (i : Int) ∧ x ∈ S := by
  unfold parP partP at h
  obtain ⟨h1, h2⟩ := List.mem_filter.1 h
  exact ⟨by simpa using h2, h1⟩
theorem all_mem {C : List ByteArray} {O : List Int} {S : Prs} {x : ByteArray × Int} : ∀ {i : Nat}, x ∈ allP (parP C O S) i → x ∈ S
  | 0, h => by simp [allP] at h
  | i + 1, h => by
    rcases List.mem_append.1 h with h | h
    · exact all_mem h
    · exact (par_mem h).2
theorem all_pr {C : List ByteArray} {O : List Int} {S : Prs} (hS : StoreOk S) {i : Nat} : ∀ x ∈ allP (parP C O S) i, keyB x.1 = true ∧ -1000000000 ≤ x.2 ∧ x.2 ≤ 1000000000 := fun x hx => ⟨hS.key x (all_mem hx), (hS.val x (all_mem hx)).2⟩
theorem all_last {C : List ByteArray} {O : List Int} (hm : MapOk C O) {S : Prs} (hS : StoreOk S) (k : ByteArray) : ∀ i : Nat, lastV 0 (allP (parP C O S) i) k = if whose C O k < (i : Int) then valP S k else 0
  | 0 => by rw [if_neg (by have := (whose_rng hm k).1; simp; omega)]; rfl
  | i + 1 => by
    have hp := par_ok hS C O i
    rw [allP, lastV_app, all_last hm hS k i, lastV_store hp.srt hp.nz, par_val hS]
    by_cases e : whose C O k = (i : Int)
    · rw [if_pos e]
      have h1 : ¬ whose C O k < (i : Int) := by omega
      have h2 : whose C O k < ((i + 1 : Nat) : Int) := by omega
      rw [if_neg h1, if_pos h2]
      split
      · rename_i h; exact h.symm
      · rfl
    · rw [if_neg e, if_pos rfl]
      by_cases e2 : whose C O k < (i : Int)
      · rw [if_pos e2, if_pos (by omega)]
      · rw [if_neg e2, if_neg (by omega)]
/-- all that all have is the store -/
theorem all_store {C : List ByteArray} {O : List Int} (hm : MapOk C O) {S : Prs} (hS : StoreOk S) : foldW [] (allP (parP C O S) 4) = S := by
  obtain ⟨a, _, c⟩ := foldW_ok (l := allP (parP C O S) 4) storeOk_nil (all_pr hS)
  refine store_ext a hS fun k => ?_
  have hr : whose C O k < ((4 : Nat) : Int) := (whose_rng hm k).2
  rw [c k]
  show lastV 0 _ k = _
  rw [all_last hm hS, if_pos hr]
/-- all of whom a map names -/
def toP (C : List ByteArray) (O : List Int) (l : Prs) (a : Nat) : Prs := l.filter fun x => decide (whose C O x.1 = (a : Int))
theorem turn_store {C C' : List ByteArray} {O O' : List Int} (hm : MapOk C O) {S : Prs} (hS : StoreOk S) (a : Nat) : foldW [] (toP C' O' (allP (parP C O S) 4) a) = parP C' O' S a := by
  obtain ⟨p, _, c⟩ := foldW_ok (l := toP C' O' (allP (parP C O S) 4) a) storeOk_nil (fun x hx => all_pr hS x (List.mem_filter.1 hx).1)
  refine store_ext p (par_ok hS C' O' a) fun k => ?_
  have hr : whose C O k < ((4 : Nat) : Int) := (whose_rng hm k).2
  rw [c k, par_val hS]
  show lastV 0 _ k = _
  unfold toP
  rw [lastV_filter (fun k => decide (whose C' O' k = (a : Int))), all_last hm hS, if_pos hr]
  simp
theorem toP_add (C : List ByteArray) (O : List Int) (l : Prs) (x : ByteArray × Int) (a : Nat) : toP C O (l ++ [x]) a = if whose C O x.1 = (a : Int) then toP C O l a ++ [x] else toP C O l a := by
  unfold toP
  rw [List.filter_append]
  by_cases e : whose C O x.1 = (a : Int)
  · simp [e]
  · simp [e]
/-- how many have another owner by another map -/
def movedN (C C' : List ByteArray) (O O' : List Int) (l : Prs) : Nat := l.countP fun x => whose C' O' x.1 != whose C O x.1
theorem moved_app (C C' : List ByteArray) (O O' : List Int) (l m : Prs) : movedN C C' O O' (l ++ m) = movedN C C' O O' l + movedN C C' O O' m := List.countP_append
theorem moved_one (C C' : List ByteArray) (O O' : List Int) (x : ByteArray × Int) : movedN C C' O O' [x] = if whose C' O' x.1 = whose C O x.1 then 0 else 1 := by
  unfold movedN
  rw [List.countP_cons]
  by_cases e : whose C' O' x.1 = whose C O x.1
  · simp [e]
  · simp [e]
theorem moved_to (C C' : List ByteArray) (O O' : List Int) (S : Prs) : ∀ i : Nat, movedN C C' O O' (allP (parP C O S) i) = movedN C C' O O' (S.filter fun x => decide (0 ≤ whose C O x.1) && decide (whose C O x.1 < (i : Int)))
  | 0 => by
    have : (S.filter fun x => decide (0 ≤ whose C O x.1) && decide (whose C O x.1 < ((0 : Nat) : Int))) = [] := by
      rw [List.filter_eq_nil_iff]
      intro x _
      simp
    rw [this]; rfl
  | i + 1 => by
    rw [allP, moved_app, moved_to C C' O O' S i]
    unfold movedN parP partP
    induction S with
    | nil => rfl
    | cons x S ih =>
      simp only [List.filter_cons]
      by_cases e : whose C O x.1 = (i : Int)
      · have h1 : (decide (0 ≤ whose C O x.1) && decide (whose C O x.1 < (i : Int))) = false := by simp; omega
        have h2 : (!(whose C O x.1 != (i : Int))) = true := by simp [e]
        have h3 : (decide (0 ≤ whose C O x.1) && decide (whose C O x.1 < ((i + 1 : Nat) : Int))) = true := by simp; omega
        rw [h1, h2, h3]
        simp only [Bool.false_eq_true, if_false, if_true, List.countP_cons]
        omega
      · have h2 : (!(whose C O x.1 != (i : Int))) = false := by simp [e]
        have h3 : (decide (0 ≤ whose C O x.1) && decide (whose C O x.1 < ((i + 1 : Nat) : Int))) = (decide (0 ≤ whose C O x.1) && decide (whose C O x.1 < (i : Int))) := by
          congr 1
          rw [decide_eq_decide]
          constructor <;> intro h <;> omega
        rw [h2, h3]
        cases decide (0 ≤ whose C O x.1) && decide (whose C O x.1 < (i : Int))
        · simpa using ih
        · simp only [Bool.false_eq_true, if_false, if_true, List.countP_cons]
          omega
theorem moved_all {C : List ByteArray} {O : List Int} (hm : MapOk C O) (C' : List ByteArray) (O' : List Int) (S : Prs) : movedN C C' O O' (allP (parP C O S) 4) = movedN C C' O O' S := by
  rw [moved_to]
  congr 1
  rw [List.filter_eq_self]
  intro x _
  have := whose_rng hm x.1
  simp; omega
theorem moved_le (C C' : List ByteArray) (O O' : List Int) (S : Prs) : movedN C C' O O' S ≤ S.length := List.countP_le_length
theorem moved_back (C C' : List ByteArray) (O O' : List Int) (S : Prs) : movedN C' C O' O S = movedN C C' O O' S := by
  unfold movedN
  congr 1
  funext x
  exact bne_comm
theorem moved_same (C : List ByteArray) (O : List Int) (S : Prs) : movedN C C O O S = 0 := by
  unfold movedN
  rw [List.countP_eq_zero]
  intro x _
  simp
theorem all_len (C : List ByteArray) (O : List Int) (S : Prs) : ∀ i : Nat, (allP (parP C O S) i).length ≤ i * S.length
  | 0 => by simp [allP]
  | i + 1 => by
    have h := par_len C O S i
    rw [allP, List.length_append, Nat.succ_mul]
    have := all_len C O S i
    omega
end Go.Proofs.YtijcckhkofkenaaGreat
