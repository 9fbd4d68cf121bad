/- Contracts and lemmas for the proof of TopMoves; each theorem states its own conditions. -/
import Derived.Test.YtnepdfpooobmcaaGreatQTopMovesac
set_option linter.unusedVariables false
set_option linter.unusedSimpArgs false
/- Contracts and lemmas for the proofs of this seat; each theorem states its own conditions. -/
namespace Go.Proofs.YtnepdfpooobmcaaGreat
/-! deeds, in plain lists -/
abbrev Vls := ByteArray → Int
def setV (v : Vls) (k : ByteArray) (n : Int) : Vls := fun x => if k = x then n else v x
/-- P10 -/
def twoB (o : GOp) : Bool := decide (o.kind = 3) || decide (o.kind = 5)
def opE (o : GOp) : Int :=
  if o.kind < 1 ∨ 5 < o.kind then 3
  else if keyB o.key = false ∨ (twoB o = true ∧ (keyB o.from_ = false ∨ o.from_ = o.key)) then 3
  else if (o.kind ≠ 3 ∧ valB o.n = false) ∨ (o.kind = 5 ∧ o.n < 0) then 1 else 0
structure OpOk (o : GOp) : Prop where
  lo : 1 ≤ o.kind
  hi : o.kind ≤ 5
  key : keyB o.key = true
  from_ : o.kind = 3 ∨ o.kind = 5 → keyB o.from_ = true ∧ o.from_ ≠ o.key
  val : o.kind ≠ 3 → -1000000000 ≤ o.n ∧ o.n ≤ 1000000000
  pos : o.kind = 5 → 0 ≤ o.n
theorem valB_iff {n : Int} : valB n = true ↔ -1000000000 ≤ n ∧ n ≤ 1000000000 := by simp [valB]
theorem op_ok {o : GOp} (h : opE o = 0) : OpOk o := by
  unfold opE at h
  split at h
  · cases h
  · rename_i h1
    split at h
    · cases h
    · rename_i h2
      split at h
      · cases h
      · rename_i h3
        rw [not_or] at h1 h2 h3
        refine ⟨by omega, by omega, by simpa using h2.1, fun hk => ?_, fun hk => ?_, fun hk => ?_⟩
        · have ht : twoB o = true := by simpa [twoB] using hk
          have := h2.2
          simp only [ht, true_and, not_or] at this
          exact ⟨by simpa using this.1, this.2⟩
        · rw [← valB_iff]
          cases hv : valB o.n with
          | true => rfl
          | false => exact absurd ⟨hk, hv⟩ h3.1
        · have := h3.2
          simp only [hk, true_and] at this
          omega
theorem opE_ok {o : GOp} (h : OpOk o) : opE o = 0 := by
  unfold opE
  rw [if_neg, if_neg, if_neg]
  · rintro (⟨a, b⟩ | ⟨a, b⟩)
    · have := valB_iff.2 (h.val a); rw [b] at this; cases this
    · have := h.pos a; omega
  · rintro (a | ⟨a, b⟩)
    · rw [h.key] at a; cases a
    · have hk : o.kind = 3 ∨ o.kind = 5 := by simpa [twoB] using a
      have := h.from_ hk
      rcases b with b | b
      · rw [this.1] at b; cases b
      · exact this.2 b
  · have := h.lo; have := h.hi; omega
abbrev Ops := List GOp
def deedE (d : Ops) : Int := if d.length = 0 ∨ 8 < d.length then 2 else firstE (fun i => opE (d.getD i ⟨0, ⟨#[]⟩, ⟨#[]⟩, 0⟩)) d.length
structure DeedOk (d : Ops) : Prop where
  lo : 1 ≤ d.length
  hi : d.length ≤ 8
  ops : ∀ o ∈ d, OpOk o
theorem deed_ok {d : Ops} (h : deedE d = 0) : DeedOk d := by
  unfold deedE at h
  split at h
  · cases h
  · rename_i h1
    refine ⟨by omega, by omega, fun o ho => ?_⟩
    obtain ⟨i, hi, rfl⟩ := List.mem_iff_getElem.1 ho
    have := firstE_all h i hi
    simp [hi] at this
    exact op_ok this
theorem deedE_ok {d : Ops} (h : DeedOk d) : deedE d = 0 := by
  have := h.lo
  have := h.hi
  unfold deedE
  rw [if_neg (by omega)]
  refine firstE_zero fun i hi => ?_
  simp [hi]
  exact opE_ok (h.ops _ (List.getElem_mem hi))
/-- an operation on values; false: it may not be -/
def doV (v : Vls) (o : GOp) : Vls × Bool :=
  if o.kind = 1 then (setV v o.key o.n, valB o.n)
  else if o.kind = 2 then (setV v o.key (v o.key + o.n), valB (v o.key + o.n))
  else if o.kind = 3 then (setV v o.key (v o.from_), valB (v o.from_))
  else if o.kind = 4 then (v, decide (o.n ≤ v o.key))
  else if v o.from_ < o.n then (v, false)
  else (setV (setV v o.from_ (v o.from_ - o.n)) o.key (v o.key + o.n), valB (v o.key + o.n))
/-- on a store -/
def doP (l : Prs) (o : GOp) : Prs × Bool :=
  if o.kind = 1 then (withP l o.key o.n, valB o.n)
  else if o.kind = 2 then (withP l o.key (valP l o.key + o.n), valB (valP l o.key + o.n))
  else if o.kind = 3 then (withP l o.key (valP l o.from_), valB (valP l o.from_))
  else if o.kind = 4 then (l, decide (o.n ≤ valP l o.key))
  else if valP l o.from_ < o.n then (l, false)
  else (withP (withP l o.from_ (valP l o.from_ - o.n)) o.key (valP l o.key + o.n), valB (valP l o.key + o.n))
theorem val_set {l : Prs} (h : srtP l) (k : ByteArray) (n : Int) : valP (withP l k n) = setV (valP l) k n := funext fun x => val_with h k n x
theorem val_do {l : Prs} (h : srtP l) (o : GOp) : valP (doP l o).1 = (doV (valP l) o).1 ∧ (doP l o).2 = (doV (valP l) o).2 := by
  unfold doP doV
  split
  · exact ⟨val_set h _ _, rfl⟩
  · split
    · exact ⟨val_set h _ _, rfl⟩
    · split
      · exact ⟨val_set h _ _, rfl⟩
      · split
        · exact ⟨rfl, rfl⟩
        · split
          · exact ⟨rfl, rfl⟩
          · exact ⟨by rw [val_set (srt_with h _ _), val_set h], rfl⟩
theorem len_do (l : Prs) (o : GOp) : (doP l o).1.length ≤ l.length + 2 := by
  have h1 := fun (l : Prs) k n => with_len l k n
  unfold doP
  split
  · have := h1 l o.key o.n; simp only; omega
  · split
    · have := h1 l o.key (valP l o.key + o.n); simp only; omega
    · split
      · have := h1 l o.key (valP l o.from_); simp only; omega
      · split
        · simp
        · split
          · simp
          · have := h1 l o.from_ (valP l o.from_ - o.n)
            have := h1 (withP l o.from_ (valP l o.from_ - o.n)) o.key (valP l o.key + o.n)
            simp only; omega
theorem val_bd {l : Prs} (h : StoreOk l) (k : ByteArray) : -1000000000 ≤ valP l k ∧ valP l k ≤ 1000000000 := by
  by_cases e : valP l k = 0
  · rw [e]; omega
  · exact (h.val _ (valP_ne e)).2
theorem ok_do {l : Prs} (h : StoreOk l) {o : GOp} (ho : OpOk o) (hr : (doP l o).2 = true) : StoreOk (doP l o).1 := by
  unfold doP at hr ⊢
  split
  · rename_i e; rw [if_pos e] at hr; exact storeOk_with h ho.key (valB_iff.1 hr)
  · rename_i e1
    rw [if_neg e1] at hr
    split
    · rename_i e; rw [if_pos e] at hr; exact storeOk_with h ho.key (valB_iff.1 hr)
    · rename_i e2
      rw [if_neg e2] at hr
      split
      · rename_i e; rw [if_pos e] at hr; exact storeOk_with h ho.key (valB_iff.1 hr)
      · rename_i e3
        rw [if_neg e3] at hr
        split
        · exact h
        · rename_i e4
          rw [if_neg e4] at hr
          split
          · exact h
          · rename_i e5
            rw [if_neg e5] at hr
            have := ho.lo
            have := ho.hi
            have hk : o.kind = 5 := by omega
            have := ho.pos hk
            have := val_bd h o.from_
            exact storeOk_with (storeOk_with h (ho.from_ (.inr hk)).1 (by omega)) ho.key (valB_iff.1 hr)
def runV (v : Vls) : Ops → Option Vls
  | [] => some v
  | o :: d => if (doV v o).2 then runV (doV v o).1 d else none
def runP (l : Prs) : Ops → Option Prs
  | [] => some l
  | o :: d => if (doP l o).2 then runP (doP l o).1 d else none
theorem runP_some {d : Ops} (hd : ∀ o ∈ d, OpOk o) : ∀ {l l' : Prs}, StoreOk l → runP l d = some l' → StoreOk l' ∧ runV (valP l) d = some (valP l') := by
  induction d with
  | nil => intro l l' h e; injection e with e; subst e; exact ⟨h, rfl⟩
  | cons o d ih =>
    intro l l' h e
    obtain ⟨v1, v2⟩ := val_do h.srt o
    simp only [runP] at e
    simp only [runV]
    split at e
    · rename_i hr
      rw [← v2, if_pos hr, ← v1]
      exact ih (fun q hq => hd q (by simp [hq])) (ok_do h (hd o (by simp)) hr) e
    · cases e
theorem runP_none {d : Ops} (hd : ∀ o ∈ d, OpOk o) : ∀ {l : Prs}, StoreOk l → runP l d = none → runV (valP l) d = none := by
  induction d with
  | nil => intro l h e; cases e
  | cons o d ih =>
    intro l h e
    obtain ⟨v1, v2⟩ := val_do h.srt o
    simp only [runP] at e
    simp only [runV]
    split at e
    · rename_i hr
      rw [← v2, if_pos hr, ← v1]
      exact ih (fun q hq => hd q (by simp [hq])) (ok_do h (hd o (by simp)) hr) e
    · rename_i hr
      rw [← v2, if_neg hr]
/-- what Run answers -/
def runS (l : Prs) (d : Ops) : Prs := (runP l d).getD l
def runB (l : Prs) (d : Ops) : Bool := (runP l d).isSome
def stepV (v : Vls) (d : Ops) : Vls := (runV v d).getD v
def okV (v : Vls) (d : Ops) : Bool := (runV v d).isSome
theorem run_val {l : Prs} (h : StoreOk l) {d : Ops} (hd : ∀ o ∈ d, OpOk o) : StoreOk (runS l d) ∧ valP (runS l d) = stepV (valP l) d ∧ runB l d = okV (valP l) d := by
  unfold runS runB stepV okV
  cases e : runP l d with
  | none => rw [runP_none hd h e]; exact ⟨h, rfl, rfl⟩
  | some l' =>
    obtain ⟨a, b⟩ := runP_some hd h e
    rw [b]; exact ⟨a, rfl, rfl⟩
theorem len_run {d : Ops} : ∀ {l l' : Prs}, runP l d = some l' → l'.length ≤ l.length + 2 * d.length := by
  induction d with
  | nil => intro l l' e; injection e with e; subst e; simp
  | cons o d ih =>
    intro l l' e
    simp only [runP] at e
    split at e
    · have := ih e
      have := len_do l o
      rw [List.length_cons]; omega
    · cases e
/-! what is read and written -/
def rdO (o : GOp) : List ByteArray := if o.kind = 2 then [o.key] else if o.kind = 3 then [o.from_] else if o.kind = 4 then [o.key] else if o.kind = 5 then [o.key, o.from_] else []
def wrO (o : GOp) : List ByteArray := if o.kind = 1 then [o.key] else if o.kind = 2 then [o.key] else if o.kind = 3 then [o.key] else if o.kind = 5 then [o.key, o.from_] else []
def rds (d : Ops) : List ByteArray := d.flatMap rdO
def wrs (d : Ops) : List ByteArray := d.flatMap wrO
theorem kinds {o : GOp} (h : OpOk o) : o.kind = 1 ∨ o.kind = 2 ∨ o.kind = 3 ∨ o.kind = 4 ∨ o.kind = 5 := by
  have := h.lo; have := h.hi; omega
theorem do_keep {o : GOp} (ho : OpOk o) (v : Vls) {k : ByteArray} (hk : k ∉ wrO o) : (doV v o).1 k = v k := by
  rcases kinds ho with e | e | e | e | e
  all_goals simp [wrO, e] at hk
  · simp [doV, e, setV, Ne.symm hk]
  · simp [doV, e, setV, Ne.symm hk]
  · simp [doV, e, setV, Ne.symm hk]
  · simp [doV, e]
  · simp only [doV, e]
    simp only [show ¬ (5 : Int) = 1 by omega, show ¬ (5 : Int) = 2 by omega, show ¬ (5 : Int) = 3 by omega, show ¬ (5 : Int) = 4 by omega, if_false]
    split
    · rfl
    · simp [setV, Ne.symm hk.1, Ne.symm hk.2]
theorem do_agree {o : GOp} (ho : OpOk o) {v u : Vls} {A : ByteArray → Prop} (h : ∀ k, A k → v k = u k) (hr : ∀ k ∈ rdO o, A k) :
    (doV v o).2 = (doV u o).2 ∧ ∀ k, (A k ∨ k ∈ wrO o) → (doV v o).1 k = (doV u o).1 k := by
  rcases kinds ho with e | e | e | e | e
  all_goals simp [rdO, e] at hr
  · refine ⟨by simp [doV, e], fun k hk => ?_⟩
    simp [wrO, e] at hk
    simp only [doV, e, if_true, setV]
    split
    · rfl
    · rename_i hne; rcases hk with hk | hk
      · exact h k hk
      · exact absurd hk.symm hne
  · have q := h _ hr
    refine ⟨by simp [doV, e, q], fun k hk => ?_⟩
    simp [wrO, e] at hk
    simp [doV, e, setV, q]
    split
    · rfl
    · rename_i hne; rcases hk with hk | hk
      · exact h k hk
      · exact absurd hk.symm hne
  · have q := h _ hr
    refine ⟨by simp [doV, e, q], fun k hk => ?_⟩
    simp [wrO, e] at hk
    simp [doV, e, setV, q]
    split
    · rfl
    · rename_i hne; rcases hk with hk | hk
      · exact h k hk
      · exact absurd hk.symm hne
  · have q := h _ hr
    refine ⟨by simp [doV, e, q], fun k hk => ?_⟩
    simp [wrO, e] at hk
    simp [doV, e]
    exact h k hk
  · have q1 := h _ hr.1
    have q2 := h _ hr.2
    simp only [doV, e]
    simp only [show ¬ (5 : Int) = 1 by omega, show ¬ (5 : Int) = 2 by omega, show ¬ (5 : Int) = 3 by omega, show ¬ (5 : Int) = 4 by omega, if_false, q1, q2]
    split
    · refine ⟨rfl, fun k hk => ?_⟩
      simp [wrO, e] at hk
      rcases hk with hk | hk | hk
      · exact h k hk
      · subst hk; exact q1
      · subst hk; exact q2
    · refine ⟨rfl, fun k hk => ?_⟩
      simp [wrO, e] at hk
      simp only [setV]
      split
      · rfl
      · split
        · rfl
        · rename_i n1 n2
          rcases hk with hk | hk | hk
          · exact h k hk
          · exact absurd hk.symm n1
          · exact absurd hk.symm n2
theorem run_keep {d : Ops} (hd : ∀ o ∈ d, OpOk o) : ∀ {v v' : Vls}, runV v d = some v' → ∀ {k}, k ∉ wrs d → v' k = v k := by
  induction d with
  | nil => intro v v' e k _; injection e with e; subst e; rfl
  | cons o d ih =>
    intro v v' e k hk
    simp only [wrs, List.flatMap_cons, List.mem_append, not_or] at hk
    simp only [runV] at e
    split at e
    · rw [ih (fun q hq => hd q (by simp [hq])) e hk.2, do_keep (hd o (by simp)) v hk.1]
    · cases e
theorem step_keep {d : Ops} (hd : ∀ o ∈ d, OpOk o) (v : Vls) {k : ByteArray} (hk : k ∉ wrs d) : stepV v d k = v k := by
  unfold stepV
  cases e : runV v d with
  | none => rfl
  | some v' => exact run_keep hd e hk
theorem run_agree {d : Ops} (hd : ∀ o ∈ d, OpOk o) : ∀ {v u : Vls} {A : ByteArray → Prop}, (∀ k, A k → v k = u k) → (∀ k ∈ rds d, A k) →
    (runV v d = none ∧ runV u d = none) ∨ ∃ v' u', runV v d = some v' ∧ runV u d = some u' ∧ ∀ k, (A k ∨ k ∈ wrs d) → v' k = u' k := by
  induction d with
  | nil => intro v u A h _; exact .inr ⟨v, u, rfl, rfl, fun k hk => by rcases hk with hk | hk; (exact h k hk); (simp [wrs] at hk)⟩
  | cons o d ih =>
    intro v u A h hr
    simp only [rds, List.flatMap_cons, List.mem_append] at hr
    obtain ⟨q1, q2⟩ := do_agree (hd o (by simp)) h (fun k hk => hr k (.inl hk))
    simp only [runV, q1]
    split
    · rcases ih (fun q hq => hd q (by simp [hq])) (A := fun k => A k ∨ k ∈ wrO o) q2 (fun k hk => .inl (hr k (.inr hk))) with ⟨a, b⟩ | ⟨v', u', a, b, c⟩
      · exact .inl ⟨a, b⟩
      · refine .inr ⟨v', u', a, b, fun k hk => c k ?_⟩
        rcases hk with hk | hk
        · exact .inl (.inl hk)
        · simp only [wrs, List.flatMap_cons, List.mem_append] at hk
          rcases hk with hk | hk
          · exact .inl (.inr hk)
          · exact .inr hk
    · exact .inl ⟨rfl, rfl⟩
/-- what a deed makes hangs on what it reads -/
theorem step_agree {d : Ops} (hd : ∀ o ∈ d, OpOk o) {v u : Vls} (h : ∀ k ∈ rds d, v k = u k) :
    okV v d = okV u d ∧ (okV v d = true → ∀ k ∈ wrs d, stepV v d k = stepV u d k) := by
  rcases run_agree hd (A := fun k => k ∈ rds d) h (fun k hk => hk) with ⟨a, b⟩ | ⟨v', u', a, b, c⟩
  · unfold okV; rw [a, b]; exact ⟨rfl, fun h => by cases h⟩
  · unfold okV stepV; rw [a, b]; exact ⟨rfl, fun _ k hk => c k (.inr hk)⟩
/-- P13 -/
def meets (a b : List ByteArray) : Bool := a.any fun k => b.any fun j => decide (j = k)
def clashB (a b : Ops) : Bool := meets (wrs a) (wrs b) || meets (wrs a) (rds b) || meets (rds a) (wrs b)
open Classical in
theorem tot_with' {l : Prs} (hs : srtP l) (hz : nzP l) (k : ByteArray) (n : Int) (tot : Prs → Int) (t0 : tot [] = 0) (t1 : ∀ p l, tot (p :: l) = p.2 + tot l) : tot (withP l k n) = tot l + n - valP l k := by
  induction l with
  | nil => simp only [withP, valP]; split <;> simp [t0, t1, *]
  | cons p l ih =>
    obtain ⟨h1, h2⟩ := srtP_cons.1 hs
    have ih := ih h2 (fun q hq => hz q (by simp [hq]))
    simp only [withP, valP]
    split
    · rename_i hb
      rw [if_neg (blt_ne hb), t1, t1, ih]; omega
    · split
      · split
        · rename_i e; subst e; rw [t1]; omega
        · rw [t1, t1]; simp only; omega
      · rename_i hb hne
        have hv : valP l k = 0 := valP_lt fun q hq => by
          rcases blt_of_not (show blt p.1 k = false by simpa using hb) with e | e
          · exact absurd e hne
          · exact blt_trans e (h1 q hq)
        rw [hv]
        split
        · rename_i e; subst e; omega
        · rw [t1]; simp only; omega
theorem runP_app (l : Prs) (a b : Ops) : runP l (a ++ b) = (runP l a).bind fun l' => runP l' b := by
  induction a generalizing l with
  | nil => rfl
  | cons o a ih =>
    simp only [List.cons_append, runP]
    split
    · exact ih _
    · rfl
theorem runP_step {l l' : Prs} {d : Ops} {k : Nat} (hk : k < d.length) (h : runP l (d.take k) = some l') : runP l (d.take (k + 1)) = if (doP l' d[k]).2 then some (doP l' d[k]).1 else none := by
  rw [List.take_succ_eq_append_getElem hk, runP_app, h]
  simp [runP]
theorem runP_off {l : Prs} {d : Ops} {k : Nat} (h : runP l (d.take k) = none) : runP l d = none := by
  have e := runP_app l (d.take k) (d.drop k)
  rw [List.take_append_drop, h] at e
  exact e
theorem opsOk_take {d : Ops} (h : ∀ o ∈ d, OpOk o) (k : Nat) : ∀ o ∈ d.take k, OpOk o := fun o ho => h o (List.mem_of_mem_take ho)
end Go.Proofs.YtnepdfpooobmcaaGreat
