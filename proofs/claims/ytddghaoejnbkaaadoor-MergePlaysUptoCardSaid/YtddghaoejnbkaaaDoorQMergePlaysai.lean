/- Contracts and lemmas for the proof of MergePlays; each theorem states its own conditions. -/
import Derived.WalkKit
import Derived.Orders
set_option linter.unusedVariables false
set_option linter.unusedSimpArgs false
/- Contracts and lemmas for the proofs of this seat; each theorem states its own conditions. -/
namespace Go.Proofs.YtddghaoejnbkaaaDoor
/-! A region that draws its order: one step law an operation, under an invariant that is told by the set of operations that have been carried out. -/
def upd {α : Type} (f : Nat → α) (i : Nat) (v : α) : Nat → α := fun j => if j = i then v else f j
theorem upd_same {α : Type} (f : Nat → α) (i : Nat) (v : α) : upd f i v i = v := by simp [upd]
theorem upd_ne {α : Type} (f : Nat → α) {i j : Nat} (v : α) (h : j ≠ i) : upd f i v j = f j := by simp [upd, h]
def dstOf (ops : Array Oper) (i : Nat) : Option Tmp := (ops[i]?).bind (·.dst)
def frT (ops : Array Oper) (x : Nat → Value) : Nat → Array Value → Array Value
  | 0, t => t
  | k + 1, t => match dstOf ops k with
    | some d => (frT ops x k t).setIfInBounds d (x k)
    | none => frT ops x k t
/-- the frame once the operations have left x in their slots -/
def fr (ops : Array Oper) (a0 : Act) (x : Nat → Value) : Act := ⟨frT ops x ops.size a0.tmps, a0.defers⟩
theorem frT_congr {ops : Array Oper} {x y : Nat → Value} {t : Array Value} : ∀ k, (∀ i, i < k → x i = y i) → frT ops x k t = frT ops y k t
  | 0, _ => rfl
  | k + 1, h => by
    have ih := frT_congr (ops := ops) (t := t) k (fun i hi => h i (by omega))
    simp only [frT]
    rw [ih, h k (by omega)]
theorem frT_none {ops : Array Oper} {x : Nat → Value} {t : Array Value} {i : Nat} (h : dstOf ops i = none) (v : Value) : ∀ k, frT ops (upd x i v) k t = frT ops x k t
  | 0 => rfl
  | k + 1 => by
    simp only [frT]
    rw [frT_none h v k]
    cases hk : dstOf ops k with
    | none => rfl
    | some d =>
      have : k ≠ i := fun e => by rw [e, h] at hk; cases hk
      simp only [upd_ne x v this]
theorem frT_put {ops : Array Oper} {x : Nat → Value} {t : Array Value} {i d : Nat} (hd : ∀ i j d, dstOf ops i = some d → dstOf ops j = some d → i = j) (h : dstOf ops i = some d) (v : Value) :
    ∀ k, i < k → (frT ops x k t).setIfInBounds d v = frT ops (upd x i v) k t
  | 0, hk => absurd hk (by omega)
  | k + 1, hk => by
    simp only [frT]
    by_cases e : i = k
    · subst e
      simp only [h, upd_same]
      rw [frT_congr (x := upd x i v) (y := x) i (fun j hj => upd_ne x v (by omega))]
      exact Array.setIfInBounds_setIfInBounds _
    · have ih := frT_put (x := x) (t := t) hd h v k (by omega)
      cases hk' : dstOf ops k with
      | none => simpa using ih
      | some d' =>
        have hne : d' ≠ d := fun e' => by subst e'; exact e (hd i k d' h hk')
        simp only [upd_ne x v (Ne.symm e)]
        rw [← ih]
        exact Array.setIfInBounds_comm _ _ hne
theorem frT_start {ops : Array Oper} {t : Array Value} : ∀ k, frT ops (fun i => match dstOf ops i with | some d => t.getD d undef | none => undef) k t = t
  | 0 => rfl
  | k + 1 => by
    simp only [frT]
    rw [frT_start k]
    cases hk : dstOf ops k with
    | none => rfl
    | some d =>
      apply Array.ext
      · simp
      · intro m h1 h2
        have h2' : m < t.size := h2
        show (t.setIfInBounds d (t.getD d undef))[m]'(by simpa using h2') = t[m]
        rw [Array.getElem_setIfInBounds]
        split
        · rename_i e; subst e; simp [h2']
        · rfl
theorem Oper.upon_both {P : Program} {o : Oper} {a : Act} {K K' : Act → World → Prop} {Q Q' : Exit → Act → World → Prop} (hk : ∀ a w, K a w → K' a w) (hq : ∀ e a w, e ≠ .normal → Q e a w → Q' e a w) {r : Result Next} (h : o.upon P a K Q r) : o.upon P a K' Q' r := by
  cases r with
  | ok n w' =>
    cases n <;> simp only [Oper.upon] at h ⊢ <;>
      first
        | exact hk _ _ h
        | exact Calls.mono h (fun e w'' he => by
            cases e with
            | returned v => exact hk _ _ he
            | panicked c => exact hq _ _ _ (by simp) he
            | outgrown => obtain ⟨a, w, hh⟩ := he; exact ⟨a, w, hq _ _ _ (by simp) hh⟩)
        | exact Rows.mono h (fun _ _ he => hk _ _ he)
        | exact h
  | halt x w' => cases x <;> simp only [Oper.upon] at h ⊢ <;> first | exact hq _ _ _ (by simp) h | exact h
/-- the check of a region's form -/
def regB (ops : Array Oper) : Bool :=
  (List.range ops.size).all (fun i => match ops[i]? with | some o => o.after.all (fun e => !Region.binds .any e || decide (e.on < i)) | none => true) &&
  (List.range ops.size).all (fun i => (List.range ops.size).all fun j => decide (i = j) || (match dstOf ops i, dstOf ops j with | some d, some d' => decide (d ≠ d') | _, _ => true))
theorem regB_dst {ops : Array Oper} (h : regB ops = true) : ∀ i j d, dstOf ops i = some d → dstOf ops j = some d → i = j := by
  intro i j d hi hj
  have hlt : ∀ k d, dstOf ops k = some d → k < ops.size := fun k d hk => by
    rcases Nat.lt_or_ge k ops.size with h | h
    · exact h
    · simp [dstOf, Array.getElem?_eq_none h] at hk
  simp only [regB, Bool.and_eq_true, List.all_eq_true, List.mem_range] at h
  have := h.2 i (hlt i d hi) j (hlt j d hj)
  simp only [hi, hj, Bool.or_eq_true, decide_eq_true_eq, ne_eq, not_true_eq_false, decide_false, Bool.false_eq_true, or_false] at this
  exact this
theorem regB_on {ops : Array Oper} (h : regB ops = true) {i : Nat} {o : Oper} (ho : ops[i]? = some o) : ∀ e ∈ o.after, Region.binds .any e = true → e.on < i := by
  have hlt : i < ops.size := (Array.getElem?_eq_some_iff.1 ho).1
  simp only [regB, Bool.and_eq_true, List.all_eq_true, List.mem_range] at h
  have := h.1 i hlt
  simp only [ho, Array.all_eq_true_iff_forall_mem] at this
  intro e he hb
  have h2 := this e he
  rw [hb] at h2
  simpa using h2
/-- the set of what has been carried out is closed under what must come first -/
def Closed (ops : Array Oper) (L : Nat → Bool) : Prop := ∀ j o, ops[j]? = some o → L j = true → ∀ e ∈ o.after, Region.binds .any e = true → L e.on = true
def waitsB (ops : Array Oper) (j i : Nat) : Bool := match ops[j]? with
  | some o => o.after.any fun e => Region.binds .any e && e.on == i
  | none => false
theorem Closed.notYet {ops : Array Oper} {L : Nat → Bool} (h : Closed ops L) {j i : Nat} (hw : waitsB ops j i = true) (hL : L i = false) : L j = false := by
  unfold waitsB at hw
  cases hj : L j with
  | false => rfl
  | true =>
    cases ho : ops[j]? with
    | none => rw [ho] at hw; cases hw
    | some o =>
      rw [ho] at hw
      obtain ⟨e, he, hb⟩ := Array.any_eq_true'.1 hw
      simp only [Bool.and_eq_true, beq_iff_eq] at hb
      have := h j o ho hj e he hb.1
      rw [hb.2, hL] at this; cases this
theorem Closed.done {ops : Array Oper} {L : Nat → Bool} (h : Closed ops L) {j i : Nat} (hw : waitsB ops j i = true) (hL : L j = true) : L i = true := by
  cases hi : L i with
  | true => rfl
  | false => have := h.notYet hw hi; rw [hL] at this; cases this
/-- what one operation must show -/
def StepOk (P : Program) (ops : Array Oper) (a0 : Act) (c : Nat → Option Value) (G : (Nat → Bool) → (Nat → Value) → World → Prop) (i : Nat) (o : Oper) : Prop :=
  ∀ (L : Nat → Bool) (x : Nat → Value) (w : World), L i = false → Closed ops L → (∀ e ∈ o.after, Region.binds .any e = true → L e.on = true ∧ ∀ v, c e.on = some v → x e.on = v) → G L x w →
    wpList P ops (fun e a' w' => e = .normal ∧ ∃ v, a' = (fr ops a0 x).put o.dst v ∧ (∀ u, c i = some u → v = u) ∧ G (upd L i true) (upd x i v) w') [o] (fr ops a0 x) w
theorem wp_region_inv {P : Program} {ops : Array Oper} {id : Nat} {Q : Exit → Act → World → Prop} {a0 : Act} {w : World} (hm : P.follows .mixedOrders = true) (hB : regB ops = true)
    (c : Nat → Option Value) (G : (Nat → Bool) → (Nat → Value) → World → Prop)
    (h0 : G (fun _ => false) (fun i => match dstOf ops i with | some d => a0.tmps.getD d undef | none => undef) w.drew)
    (hstep : ∀ i o, ops[i]? = some o → StepOk P ops a0 c G i o)
    (hend : ∀ L x w', (∀ i, i < ops.size → L i = true ∧ ∀ v, c i = some v → x i = v) → G L x w' → Q .normal (fr ops a0 x) w') : (Code.region id ops true).wp P Q a0 w := by
  refine wp_region_any hm ?_
  have key : ∀ fuel (listed : Array Bool) (x : Nat → Value) (w : World), listed.size = ops.size → listed.toList.count false = fuel →
      (∀ i, listed.getD i false = true → ∀ v, c i = some v → x i = v) → Closed ops (fun i => listed.getD i false) → G (fun i => listed.getD i false) x w → wpAny P .any ops Q fuel listed (fr ops a0 x) w := by
    intro fuel
    induction fuel with
    | zero =>
      intro listed x w hs hc hv hcl hG
      have hall : ∀ i, i < ops.size → listed.getD i false = true := fun i hi => by
        have h1 : i < listed.size := by omega
        have := List.count_eq_zero.1 hc
        cases hb : listed[i] with
        | true => simp [h1, hb]
        | false => exact absurd (by rw [← hb]; exact Array.getElem_mem_toList h1) this
      refine ⟨?_, hend _ _ _ (fun i hi => ⟨hall i hi, hv i (hall i hi)⟩) hG⟩
      unfold Region.ready
      rw [List.filter_eq_nil_iff]
      intro i hi
      have h1 : i < listed.size := by rw [hs]; exact List.mem_range.1 hi
      have := hall i (List.mem_range.1 hi)
      have : listed[i] = true := by simpa [h1] using this
      simp [h1, this]
    | succ fuel ih =>
      intro listed x w hs hc hv hcl hG
      refine ⟨fun hr => ?_, fun i hi => ?_⟩
      · have hall : ∀ i, i < ops.size → listed.getD i false = true := fun i => by
          induction i using Nat.strongRecOn with
          | _ i ihi =>
            intro hi
            have h1 : i < listed.size := by omega
            cases hb : listed[i] with
            | true => simp [h1, hb]
            | false =>
              exfalso
              have : i ∈ Region.ready .any ops listed := by
                rw [mem_ready]
                refine ⟨by simp [h1, hb], ops[i], by simp [hi], fun e he hb' => ihi e.on (regB_on hB (by simp [hi]) e he hb') (Nat.lt_trans (regB_on hB (by simp [hi]) e he hb') hi)⟩
              rw [hr] at this; cases this
        exact hend _ _ _ (fun i hi => ⟨hall i hi, hv i (hall i hi)⟩) hG
      · obtain ⟨hun, o, ho, hdeps⟩ := mem_ready.1 hi
        have hlt : i < ops.size := (Array.getElem?_eq_some_iff.1 ho).1
        have h1 : i < listed.size := by omega
        have hun' : listed[i] = false := by simpa [h1] using hun
        have hL : listed.getD i false = false := by simp [h1, hun']
        have hst := hstep i o ho (fun j => listed.getD j false) x w hL hcl (fun e he hb => ⟨hdeps e he hb, hv _ (hdeps e he hb)⟩) hG
        have hdst : dstOf ops i = o.dst := by simp [dstOf, ho]
        have fin : ∀ (v : Value) (w' : World), (∀ u, c i = some u → v = u) → G (upd (fun j => listed.getD j false) i true) (upd x i v) w' → wpAny P .any ops Q fuel (listed.setIfInBounds i true) ((fr ops a0 x).put o.dst v) w' := by
          intro v w' hcv hG'
          have e1 : (fr ops a0 x).put o.dst v = fr ops a0 (upd x i v) := by
            cases hd : o.dst with
            | none => simp only [Act.put, fr]; rw [frT_none (by rw [hdst, hd])]
            | some d => simp only [Act.put, fr]; rw [frT_put (regB_dst hB) (by rw [hdst, hd]) v _ hlt]
          have e2 : (upd (fun j => listed.getD j false) i true) = fun j => (listed.setIfInBounds i true).getD j false := by
            funext j
            by_cases hj : j = i
            · subst hj; simp [upd, h1]
            · rw [upd_ne _ _ hj, getD_set_ne false (Ne.symm hj)]
          rw [e1]
          rw [e2] at hG'
          have hcl' : Closed ops (fun j => (listed.setIfInBounds i true).getD j false) := by
            intro j oj hoj hj e he hb
            by_cases hji : j = i
            · subst hji
              have : oj = o := Option.some.inj (hoj.symm.trans ho)
              subst this
              exact getD_set_true (hdeps e he hb)
            · have hj' : listed.getD j false = true := by rw [← getD_set_ne false (Ne.symm hji)]; exact hj
              exact getD_set_true (hcl j oj hoj hj' e he hb)
          refine ih _ _ _ (by simpa using hs) ?_ ?_ hcl' hG'
          · rw [Array.toList_setIfInBounds, List.count_set (by simpa using h1)]
            simp only [Array.getElem_toList, hun', hc]
            simp
          · intro j hj u hu
            by_cases hji : j = i
            · subst hji; rw [upd_same]; exact hcv u hu
            · rw [upd_ne _ _ hji]
              rw [getD_set_ne false (Ne.symm hji)] at hj
              exact hv j hj u hu
        unfold wpOp
        simp only [ho]
        unfold wpList at hst
        split
        · rename_i hw
          rw [if_pos hw] at hst
          rcases hst with hst | ⟨_, hst⟩
          · left
            refine Oper.upon_both (fun a' w' hh => ?_) (fun e a' w' hne hh => ?_) hst
            · obtain ⟨_, v, rfl, hv2, hv3⟩ := hh
              exact fin v w' hv2 hv3
            · exact absurd hh.1 hne
          · obtain ⟨a', w', he, _⟩ := hst; cases he
        · rename_i hw
          rw [if_neg hw] at hst
          obtain ⟨_, v, he, hv2, hv3⟩ := hst
          rw [he]
          exact fin v w hv2 hv3
  have hst := key ops.size (Array.replicate ops.size false) _ w.drew (by simp) (by simp) (fun i hi => by
    by_cases h : i < ops.size <;> simp [h] at hi) (fun j o _ hj => by
    by_cases h : j < ops.size <;> simp [h] at hj) (by
    have e : (fun i => (Array.replicate ops.size false).getD i false) = fun _ => false := by
      funext i; by_cases h : i < ops.size <;> simp [h]
    rw [e]; exact h0)
  rw [show fr ops a0 (fun i => match dstOf ops i with | some d => a0.tmps.getD d undef | none => undef) = a0 from by
    simp only [fr]; rw [frT_start]] at hst
  exact hst
/-- the frame, operation by operation -/
def frL (x : Nat → Value) : List Oper → Nat → Array Value → Array Value
  | [], _, t => t
  | o :: r, k, t => frL x r (k + 1) (match o.dst with | some d => t.setIfInBounds d (x k) | none => t)
theorem frL_eq {x : Nat → Value} {t : Array Value} : ∀ (l2 l1 : List Oper), frL x l2 l1.length (frT (l1 ++ l2).toArray x l1.length t) = frT (l1 ++ l2).toArray x (l1 ++ l2).length t
  | [], l1 => by simp [frL]
  | o :: r, l1 => by
    have ih := frL_eq (x := x) (t := t) r (l1 ++ [o])
    simp only [List.append_assoc, List.singleton_append, List.length_append, List.length_cons, List.length_nil, Nat.zero_add] at ih
    simp only [frL, List.length_append, List.length_cons]
    have hd : dstOf (l1 ++ o :: r).toArray l1.length = o.dst := by simp [dstOf]
    rw [← ih, frT, hd]
theorem fr_lit {l : List Oper} {a0 : Act} {x : Nat → Value} : fr l.toArray a0 x = ⟨frL x l 0 a0.tmps, a0.defers⟩ := by
  have := frL_eq (x := x) (t := a0.tmps) l []
  simp only [List.nil_append, List.length_nil, frT] at this
  simp only [fr, List.size_toArray]
  rw [this]
def AllFrom (p : Nat → Oper → Prop) : List Oper → Nat → Prop
  | [], _ => True
  | o :: r, k => p k o ∧ AllFrom p r (k + 1)
theorem AllFrom.get {p : Nat → Oper → Prop} {l : List Oper} : ∀ {k : Nat}, AllFrom p l k → ∀ i o, l[i]? = some o → p (k + i) o := by
  induction l with
  | nil => intro k _ i o ho; simp at ho
  | cons o' r ih =>
    intro k h i o ho
    cases i with
    | zero => simp at ho; subst ho; exact h.1
    | succ i =>
      have := ih h.2 i o (by simpa using ho)
      rw [show k + (i + 1) = k + 1 + i from by omega]; exact this
/-- what one operation must show, with the frame written as frL -/
def Step (P : Program) (l : List Oper) (t0 : Array Value) (ds : List Deferred) (c : Nat → Option Value) (G : (Nat → Bool) → (Nat → Value) → World → Prop) (i : Nat) (o : Oper) : Prop :=
  ∀ (L : Nat → Bool) (x : Nat → Value) (w : World), L i = false → Closed l.toArray L → (∀ e ∈ o.after, Region.binds .any e = true → L e.on = true ∧ ∀ v, c e.on = some v → x e.on = v) → G L x w →
    wpList P l.toArray (fun e a' w' => e = .normal ∧ ∃ v, a' = (⟨frL x l 0 t0, ds⟩ : Act).put o.dst v ∧ (∀ u, c i = some u → v = u) ∧ G (upd L i true) (upd x i v) w') [o] ⟨frL x l 0 t0, ds⟩ w
theorem wp_region_lit_inv {P : Program} {l : List Oper} {id : Nat} {Q : Exit → Act → World → Prop} {t0 : Array Value} {ds : List Deferred} {w : World} (hm : P.follows .mixedOrders = true) (hB : regB l.toArray = true)
    (c : Nat → Option Value) (G : (Nat → Bool) → (Nat → Value) → World → Prop)
    (h0 : G (fun _ => false) (fun i => match dstOf l.toArray i with | some d => t0.getD d undef | none => undef) w.drew)
    (hstep : AllFrom (Step P l t0 ds c G) l 0)
    (hend : ∀ L x w', (∀ i, i < l.length → L i = true ∧ ∀ v, c i = some v → x i = v) → G L x w' → Q .normal ⟨frL x l 0 t0, ds⟩ w') : (Code.region id l.toArray true).wp P Q ⟨t0, ds⟩ w := by
  refine wp_region_inv hm hB c G h0 (fun i o ho => ?_) (fun L x w' h hG => ?_)
  · have := hstep.get i o (by simpa using ho)
    rw [Nat.zero_add] at this
    intro L x w hL hcl hd hG
    rw [fr_lit]
    exact this L x w hL hcl hd hG
  · rw [fr_lit]
    exact hend L x w' (fun i hi => h i (by simpa using hi)) hG
end Go.Proofs.YtddghaoejnbkaaaDoor
