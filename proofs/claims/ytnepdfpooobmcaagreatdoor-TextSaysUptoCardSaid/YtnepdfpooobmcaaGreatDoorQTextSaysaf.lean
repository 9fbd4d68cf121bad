/- Contracts and lemmas for the proof of TextSays; each theorem states its own conditions. -/
import Derived.WalkKit
import Derived.Orders
set_option linter.unusedVariables false
set_option linter.unusedSimpArgs false
/- Contracts and lemmas for the proofs of this seat; each theorem states its own conditions. -/
namespace Go.Proofs.YtnepdfpooobmcaaGreatDoor
/-! A region that draws its order: one step law an operation, under an invariant that is told by the set of operations that have been carried out. -/
def upd {α : Type} (f : Nat → α) (i : Nat) (v : α) : Nat → α := fun j => if j = i then v else f j
theorem upd_same {α : Type} (f : Nat → α) (i : Nat) (v : α) : upd f i v i = v := by simp [upd]
theorem upd_ne {α : Type} (f : Nat → α) {i j : Nat} (v : α) (h : j ≠ i) : upd f i v j = f j := by simp [upd, h]
def dstOf (ops : Array Oper) (i : Nat) : Option Tmp := (ops[i]?).bind (·.dst)
def frT (ops : Array Oper) (x : Nat → Value) : Nat → Array Value → Array Value
  | 0, t => t
  | k + 1, t => match dstOf ops k with
    | some d => (frT ops x k t).setIfInBounds d (x k)
    | none => frT ops x k t
/-- the frame once the operations have left x in their slots -/
def fr (ops : Array Oper) (a0 : Act) (x : Nat → Value) : Act := ⟨frT ops x ops.size a0.tmps, a0.defers⟩
theorem frT_congr {ops : Array Oper} {x y : Nat → Value} {t : Array Value} : ∀ k, (∀ i, i < k → x i = y i) → frT ops x k t = frT ops y k t
  | 0, _ => rfl
  | k + 1, h => by
    have ih := frT_congr (ops := ops) (t := t) k (fun i hi => h i (by omega))
    simp only [frT]
    rw [ih, h k (by omega)]
theorem frT_none {ops : Array Oper} {x : Nat → Value} {t : Array Value} {i : Nat} (h : dstOf ops i = none) (v : Value) : ∀ k, frT ops (upd x i v) k t = frT ops x k t
  | 0 => rfl
  | k + 1 => by
    simp only [frT]
    rw [frT_none h v k]
    cases hk : dstOf ops k with
    | none => rfl
    | some d =>
      have : k ≠ i := fun e => by rw [e, h] at hk; cases hk
      simp only [upd_ne x v this]
theorem frT_put {ops : Array Oper} {x : Nat → Value} {t : Array Value} {i d : Nat} (hd : ∀ i j d, dstOf ops i = some d → dstOf ops j = some d → i = j) (h : dstOf ops i = some d) (v : Value) :
    ∀ k, i < k → (frT ops x k t).setIfInBounds d v = frT ops (upd x i v) k t
  | 0, hk => absurd hk (by omega)
  | k + 1, hk => by
    simp only [frT]
    by_cases e : i = k
    · subst e
      simp only [h, upd_same]
      rw [frT_congr (x := upd x i v) (y := x) i (fun j hj => upd_ne x v (by omega))]
      exact Array.setIfInBounds_setIfInBounds _
    · have ih := frT_put (x := x) (t := t) hd h v k (by omega)
      cases hk' : dstOf ops k with
      | none => simpa using ih
      | some d' =>
        have hne : d' ≠ d := fun e' => by subst e'; exact e (hd i k d' h hk')
        simp only [upd_ne x v (Ne.symm e)]
        rw [← ih]
        exact Array.setIfInBounds_comm _ _ hne
theorem frT_start {ops : Array Oper} {t : Array Value} : ∀ k, frT ops (fun i => match dstOf ops i with | some d => t.getD d undef | none => undef) k t = t
  | 0 => rfl
  | k + 1 => by
    simp only [frT]
    rw [frT_start k]
    cases hk : dstOf ops k with
    | none => rfl
    | some d =>
      apply Array.ext
      · simp
      · intro m h1 h2
        have h2' : m < t.size := h2
        show (t.setIfInBounds d (t.getD d undef))[m]'(by simpa using h2') = t[m]
        rw [Array.getElem_setIfInBounds]
        split
        · rename_i e; subst e; simp [h2']
        · rfl
theorem Oper.upon_both {P : Program} {o : Oper} {a : Act} {K K' : Act → World → Prop} {Q Q' : Exit → Act → World → Prop} (hk : ∀ a w, K a w → K' a w) (hq : ∀ e a w, e ≠ .normal → Q e a w → Q' e a w) {r : Result Next} (h : o.upon P a K Q r) : o.upon P a K' Q' r := by
  cases r with
  | ok n w' =>
    cases n <;> simp only [Oper.upon] at h ⊢ <;>
      first
        | exact hk _ _ h
        | exact Calls.mono h (fun e w'' he => by
            cases e with
            | returned v => exact hk _ _ he
            | panicked c => exact hq _ _ _ (by simp) he
            | outgrown => obtain ⟨a, w, hh⟩ := he; exact ⟨a, w, hq _ _ _ (by simp) hh⟩)
        | exact Rows.mono h (fun _ _ he => hk _ _ he)
        | exact h
  | halt x w' => cases x <;> simp only [Oper.upon] at h ⊢ <;> first | exact hq _ _ _ (by simp) h | exact h
/-- the check of a region's form -/
def regB (ops : Array Oper) : Bool :=
  (List.range ops.size).all (fun i => match ops[i]? with | some o => o.after.all (fun e => !Region.binds .any e || decide (e.on < i)) | none => true) &&
  (List.range ops.size).all (fun i => (List.range ops.size).all fun j => decide (i = j) || (match dstOf ops i, dstOf ops j with | some d, some d' => decide (d ≠ d') | _, _ => true))
theorem regB_dst {ops : Array Oper} (h : regB ops = true) : ∀ i j d, dstOf ops i = some d → dstOf ops j = some d → i = j := by
  intro i j d hi hj
  have hlt : ∀ k d, dstOf ops k = some d → k < ops.size := fun k d hk => by
    rcases Nat.lt_or_ge k ops.size with h | h
    · exact h
    · simp [dstOf, Array.getElem?_eq_none h] at hk
  simp only [regB, Bool.and_eq_true, List.all_eq_true, List.mem_range] at h
  have := h.2 i (hlt i d hi) j (hlt j d hj)
  simp only [hi, hj, Bool.or_eq_true, decide_eq_true_eq, ne_eq, not_true_eq_false, decide_false, Bool.false_eq_true, or_false] at this
  exact this
theorem regB_on {ops : Array Oper} (h : regB ops = true) {i : Nat} {o : Oper} (ho : ops[i]? = some o) : ∀ e ∈ o.after, Region.binds .any e = true → e.on < i := by
  have hlt : i < ops.size := (Array.getElem?_eq_some_iff.1 ho).1
  simp only [regB, Bool.and_eq_true, List.all_eq_true, List.mem_range] at h
  have := h.1 i hlt
  simp only [ho, Array.all_eq_true_iff_forall_mem] at this
  intro e he hb
  have h2 := this e he
  rw [hb] at h2
  simpa using h2
/-- the set of what has been carried out is closed under what must come first -/
def Closed (ops : Array Oper) (L : Nat → Bool) : Prop := ∀ j o, ops[j]? = some o → L j = true → ∀ e ∈ o.after, Region.binds .any e = true → L e.on = true
/-- the frame, operation by operation -/
def frL (x : Nat → Value) : List Oper → Nat → Array Value → Array Value
  | [], _, t => t
  | o :: r, k, t => frL x r (k + 1) (match o.dst with | some d => t.setIfInBounds d (x k) | none => t)
theorem frL_eq {x : Nat → Value} {t : Array Value} : ∀ (l2 l1 : List Oper), frL x l2 l1.length (frT (l1 ++ l2).toArray x l1.length t) = frT (l1 ++ l2).toArray x (l1 ++ l2).length t
  | [], l1 => by simp [frL]
  | o :: r, l1 => by
    have ih := frL_eq (x := x) (t := t) r (l1 ++ [o])
    simp only [List.append_assoc, List.singleton_append, List.length_append, List.length_cons, List.length_nil, Nat.zero_add] at ih
    simp only [frL, List.length_append, List.length_cons]
    have hd : dstOf (l1 ++ o :: r).toArray l1.length = o.dst := by simp [dstOf]
    rw [← ih, frT, hd]
theorem fr_lit {l : List Oper} {a0 : Act} {x : Nat → Value} : fr l.toArray a0 x = ⟨frL x l 0 a0.tmps, a0.defers⟩ := by
  have := frL_eq (x := x) (t := a0.tmps) l []
  simp only [List.nil_append, List.length_nil, frT] at this
  simp only [fr, List.size_toArray]
  rw [this]
def AllFrom (p : Nat → Oper → Prop) : List Oper → Nat → Prop
  | [], _ => True
  | o :: r, k => p k o ∧ AllFrom p r (k + 1)
theorem AllFrom.get {p : Nat → Oper → Prop} {l : List Oper} : ∀ {k : Nat}, AllFrom p l k → ∀ i o, l[i]? = some o → p (k + i) o := by
  induction l with
  | nil => intro k _ i o ho; simp at ho
  | cons o' r ih =>
    intro k h i o ho
    cases i with
    | zero => simp at ho; subst ho; exact h.1
    | succ i =>
      have := ih h.2 i o (by simpa using ho)
      rw [show k + (i + 1) = k + 1 + i from by omega]; exact this
end Go.Proofs.YtnepdfpooobmcaaGreatDoor
