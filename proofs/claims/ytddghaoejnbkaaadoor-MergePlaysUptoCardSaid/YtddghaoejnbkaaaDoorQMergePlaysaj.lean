/- Contracts and lemmas for the proof of MergePlays; each theorem states its own conditions. -/
import Derived.Test.YtddghaoejnbkaaaDoorQMergePlaysai
import Derived.Test.YtddghaoejnbkaaaDoorQMergePlaysaa
set_option linter.unusedVariables false
set_option linter.unusedSimpArgs false
/- Contracts and lemmas for the proofs of this seat; each theorem states its own conditions. -/
namespace Go.Proofs.YtddghaoejnbkaaaDoor
/-! A region whose operations from the n-th on wait for all that stands ahead: the first n in whatever order, each in a grown world; the rest one behind the other. -/
def ancOne (o : Oper) (acc : List (List Nat)) : List Nat := (o.after.toList.filter (Region.binds .any)).flatMap fun e => e.on :: acc.getD e.on []
def ancGo : List Oper → List (List Nat) → List (List Nat)
  | [], acc => acc
  | o :: r, acc => ancGo r (acc ++ [ancOne o acc])
/-- from n on each waits for all ahead of it, but for those of C -/
def phB (l : List Oper) (n : Nat) (C : List Nat) : Bool :=
  (List.range l.length).all fun j => decide (j < n) || (List.range j).all fun i => C.contains i || ((ancGo l []).getD j []).contains i
/-- who might come ahead of one of C does not touch its slots -/
def phCB (l : List Oper) (n : Nat) (C : List Nat) : Bool :=
  l.all (fun o => match o.op with | .select _ _ => false | _ => true) &&
  C.all fun i => match l[i]? with
    | none => true
    | some oi => (List.range l.length).all fun j => match l[j]? with
      | none => true
      | some oj => decide (j = i) || (decide (j < n) && !C.contains j) || oj.after.any (fun e => Region.binds .any e && e.on == i) || oi.apart l.toArray oj
def Imp (ops : Array Oper) (j i : Nat) : Prop := ∀ L, Closed ops L → (∀ o, ops[j]? = some o → ∀ e ∈ o.after, Region.binds .any e = true → L e.on = true) → L i = true
theorem imp_done {ops : Array Oper} {j i : Nat} (h : Imp ops j i) {L : Nat → Bool} (hc : Closed ops L) (hj : L j = true) : L i = true :=
  h L hc fun o ho e he hb => hc j o ho hj e he hb
theorem anc_sound (ops : Array Oper) : ∀ (r p : List Oper) (acc : List (List Nat)), ops.toList = p ++ r → acc.length = p.length → (∀ j i, i ∈ acc.getD j [] → Imp ops j i) → ∀ j i, i ∈ (ancGo r acc).getD j [] → Imp ops j i
  | [], _, _, _, _, h => h
  | o :: r, p, acc, e, hl, h => by
    refine anc_sound ops r (p ++ [o]) (acc ++ [ancOne o acc]) (by simp [e]) (by simp [hl]) fun j i hi => ?_
    rcases Nat.lt_trichotomy j acc.length with k | k | k
    · rw [List.getD_eq_getElem?_getD, List.getElem?_append_left k] at hi
      exact h j i (by rw [List.getD_eq_getElem?_getD]; exact hi)
    · subst k
      rw [List.getD_eq_getElem?_getD, List.getElem?_append_right (Nat.le_refl _)] at hi
      simp only [Nat.sub_self, List.getElem?_cons_zero, Option.getD_some, ancOne, List.mem_flatMap, List.mem_filter, List.mem_cons] at hi
      obtain ⟨ed, ⟨he, hb⟩, hi⟩ := hi
      have ho : ops[acc.length]? = some o := by
        rw [← Array.getElem?_toList, e, hl]; simp
      intro L hc hd
      have h1 := hd o ho ed (Array.mem_def.2 he) hb
      rcases hi with hi | hi
      · subst hi; exact h1
      · exact imp_done (h _ _ hi) hc h1
    · rw [List.getD_eq_getElem?_getD, List.getElem?_append_right (Nat.le_of_lt k)] at hi
      have : ([ancOne o acc])[j - acc.length]? = none := by
        rw [List.getElem?_eq_none]; simp; omega
      rw [this] at hi; simp at hi
theorem ph_chain {l : List Oper} {n : Nat} {C : List Nat} (h : phB l n C = true) : ∀ L, Closed l.toArray L → ∀ j o, l.toArray[j]? = some o → n ≤ j → (∀ e ∈ o.after, Region.binds .any e = true → L e.on = true) → ∀ i, i < j → C.contains i = false → L i = true := by
  intro L hc j o ho hn hd i hi hC
  have hj : j < l.length := by have := (Array.getElem?_eq_some_iff.1 ho).1; simpa using this
  simp only [phB, List.all_eq_true, List.mem_range, Bool.or_eq_true, decide_eq_true_eq] at h
  rcases h j hj with h' | h'
  · omega
  · rcases h' i hi with h2 | h2
    · rw [h2] at hC; cases hC
    · have hm : i ∈ (ancGo l []).getD j [] := by simpa using h2
      exact anc_sound l.toArray l [] [] (by simp) rfl (by simp) j i hm L hc fun o' ho' => by
        have : o' = o := Option.some.inj (ho'.symm.trans ho)
        subst this; exact hd
theorem wpAny_tail {P : Program} {ops : Array Oper} {Q : Exit → Act → World → Prop} {n : Nat} (hB : regB ops = true)
    (hch : ∀ L, Closed ops L → ∀ j o, ops[j]? = some o → n ≤ j → (∀ e ∈ o.after, Region.binds .any e = true → L e.on = true) → ∀ i, i < j → n ≤ i → L i = true) :
    ∀ (fuel : Nat) (listed : Array Bool) (m : Nat), listed.size = ops.size → listed.toList.count false = fuel → n ≤ m → m ≤ ops.size → (∀ i, i < ops.size → listed.getD i false = decide (i < m)) →
      ∀ a w, wpList P ops Q (ops.toList.drop m) a w → wpAny P .any ops Q fuel listed a w := by
  have hcl : ∀ (listed : Array Bool) (m : Nat), listed.size = ops.size → (∀ i, i < ops.size → listed.getD i false = decide (i < m)) → Closed ops fun i => listed.getD i false := by
    intro listed m hs hL j o ho hj e he hb
    have hlt : j < ops.size := (Array.getElem?_eq_some_iff.1 ho).1
    have h1 := regB_on hB ho e he hb
    simp only [hL j hlt, decide_eq_true_eq] at hj
    show listed.getD e.on false = true
    rw [hL e.on (by omega)]; simp; omega
  intro fuel
  induction fuel with
  | zero =>
    intro listed m hs hc hn hm hL a w h
    have hall : ∀ i, i < ops.size → i < m := fun i hi => by
      have h1 : i < listed.size := by omega
      have h2 := List.count_eq_zero.1 hc
      have h3 := hL i hi
      cases hb : listed[i] with
      | true => have : listed.getD i false = true := by simp [h1, hb]
                rw [this] at h3; simpa using h3.symm
      | false => exact absurd (by rw [← hb]; exact Array.getElem_mem_toList h1) h2
    have hme : m = ops.size := by
      rcases Nat.lt_or_ge m ops.size with h' | h'
      · have := hall m h'; omega
      · omega
    subst hme
    refine ⟨?_, ?_⟩
    · rw [List.eq_nil_iff_forall_not_mem]
      intro i hi
      obtain ⟨h1, o, ho, _⟩ := mem_ready.1 hi
      have hlt : i < ops.size := (Array.getElem?_eq_some_iff.1 ho).1
      have h2 := hL i hlt
      have h3 : i < listed.size := by omega
      simp [h3] at h1 h2
      rw [h1] at h2; simp at h2; omega
    · rw [List.drop_of_length_le (by simp)] at h; exact h
  | succ fuel ih =>
    intro listed m hs hc hn hm hL a w h
    have hlt : m < ops.size := by
      rcases Nat.lt_or_ge m ops.size with h' | h'
      · exact h'
      · exfalso
        have : listed.toList.count false = 0 := by
          rw [List.count_eq_zero]
          intro hmem
          obtain ⟨i, hi, he⟩ := List.mem_iff_getElem.1 hmem
          have hi' : i < listed.size := by simpa using hi
          have h2 := hL i (by omega)
          have h4 : listed[i] = false := by simpa using he
          simp [hi', h4] at h2
          omega
        omega
    have hm1 : m < listed.size := by omega
    have hmf : listed[m] = false := by
      have h2 := hL m hlt
      simp [hm1] at h2
      exact h2
    refine ⟨fun hr => ?_, fun i hi => ?_⟩
    · exfalso
      have : m ∈ Region.ready .any ops listed := by
        rw [mem_ready]
        refine ⟨by simp [hm1, hmf], ops[m], by simp [hlt], fun e he hb => ?_⟩
        have h1 := regB_on hB (by simp [hlt] : ops[m]? = some ops[m]) e he hb
        rw [hL e.on (by omega)]; simp; omega
      rw [hr] at this; cases this
    · obtain ⟨h1, o, ho, hd⟩ := mem_ready.1 hi
      have hil : i < ops.size := (Array.getElem?_eq_some_iff.1 ho).1
      have hi1 : i < listed.size := by omega
      have hif : listed[i] = false := by simpa [hi1] using h1
      have hge : m ≤ i := by
        have h2 := hL i hil
        simp [hi1, hif] at h2
        exact h2
      have him : i = m := by
        rcases Nat.eq_or_lt_of_le hge with h' | h'
        · exact h'.symm
        · have := hch _ (hcl listed m hs hL) i o ho (by omega) (fun e he hb => hd e he hb) m h' hn
          have h2 := hL m hlt
          rw [this] at h2; simp at h2
      subst him
      have hd1 : ops.toList.drop i = o :: ops.toList.drop (i + 1) := by
        rw [List.drop_eq_getElem_cons (by simpa using hlt)]
        congr 1
        have := (Array.getElem?_eq_some_iff.1 ho).2
        simpa using this
      rw [hd1] at h
      unfold wpOp
      simp only [ho]
      unfold wpList at h
      have nx : ∀ a w, wpList P ops Q (ops.toList.drop (i + 1)) a w → wpAny P .any ops Q fuel (listed.setIfInBounds i true) a w := by
        intro a w hh
        refine ih _ (i + 1) (by simpa using hs) ?_ (by omega) (by omega) ?_ a w hh
        · rw [Array.toList_setIfInBounds, List.count_set (by simpa using hi1)]
          simp only [Array.getElem_toList, hif, hc]
          simp
        · intro j hj
          by_cases hji : j = i
          · subst hji; simp [hi1]
          · rw [getD_set_ne false (Ne.symm hji), hL j hj]
            have : (j < i) ↔ (j < i + 1) := by omega
            simp [this]
      split
      · rename_i hw
        rw [if_pos hw] at h
        rcases h with h | h
        · exact .inl (Oper.wp_mono nx h)
        · exact .inr h
      · rename_i hw
        rw [if_neg hw] at h
        exact nx _ _ h
/-- the slots as they were -/
def x0 (ops : Array Oper) (t : Array Value) (i : Nat) : Value := match dstOf ops i with | some d => t.getD d undef | none => undef
theorem frT_other {ops : Array Oper} {x : Nat → Value} {t : Array Value} {d : Nat} : ∀ k, (∀ j, j < k → dstOf ops j ≠ some d) → (frT ops x k t)[d]? = t[d]?
  | 0, _ => rfl
  | k + 1, h => by
    have ih := frT_other (x := x) (t := t) k (fun j hj => h j (by omega))
    simp only [frT]
    cases hk : dstOf ops k with
    | none => exact ih
    | some d' =>
      have : d' ≠ d := fun e => h k (by omega) (by rw [hk, e])
      simp only [Array.getElem?_setIfInBounds_ne this]; exact ih
theorem set_self {t : Array Value} {d : Nat} {v : Value} (h : t.getD d undef = v) : t.setIfInBounds d v = t := by
  apply Array.ext
  · simp
  · intro i h1 h2
    rw [Array.getElem_setIfInBounds]
    split
    · rename_i e; subst e; rw [← h]; simp [h2]
    · rfl
theorem frT_stop {ops : Array Oper} {x : Nat → Value} {t : Array Value} {n : Nat} (hd : ∀ i j d, dstOf ops i = some d → dstOf ops j = some d → i = j) (hx : ∀ i, n ≤ i → x i = x0 ops t i) :
    ∀ k, n ≤ k → frT ops x k t = frT ops x n t := by
  intro k
  induction k with
  | zero => intro h; obtain rfl : n = 0 := by omega
            rfl
  | succ k ih =>
    intro h
    rcases Nat.eq_or_lt_of_le h with e | e
    · rw [e]
    · have hk := ih (by omega)
      simp only [frT]
      cases hdk : dstOf ops k with
      | none => exact hk
      | some d =>
        have h1 : x k = t.getD d undef := by rw [hx k (by omega)]; simp [x0, hdk]
        have h2 : (frT ops x k t)[d]? = t[d]? := frT_other k (fun j hj e => by have := hd j k d e hdk; omega)
        simp only [h1]
        rw [set_self, hk]
        rw [Array.getD_eq_getD_getElem?, Array.getD_eq_getD_getElem?, h2]
theorem frT_ops {ops ops' : Array Oper} {x : Nat → Value} {t : Array Value} : ∀ k, (∀ j, j < k → dstOf ops j = dstOf ops' j) → frT ops x k t = frT ops' x k t
  | 0, _ => rfl
  | k + 1, h => by
    have ih := frT_ops (x := x) (t := t) k (fun j hj => h j (by omega))
    simp only [frT]
    rw [ih, h k (by omega)]
theorem fr_take {l : List Oper} {t0 : Array Value} {ds : List Deferred} {x : Nat → Value} {n : Nat} (hB : regB l.toArray = true) (hn : n ≤ l.length) (hx : ∀ i, n ≤ i → x i = x0 l.toArray t0 i) :
    fr l.toArray ⟨t0, ds⟩ x = ⟨frL x (l.take n) 0 t0, ds⟩ := by
  have h1 := fr_lit (l := l.take n) (a0 := ⟨t0, ds⟩) (x := x)
  rw [← h1]
  simp only [fr]
  congr 1
  have h2 := frT_stop (regB_dst hB) hx l.toArray.size (by simpa using hn)
  rw [h2, show (l.take n).toArray.size = n from by simp; omega]
  refine frT_ops n fun j hj => ?_
  simp [dstOf, List.getElem?_take, hj]
/-- a fact that stood at a world between -/
def Up (w0 w' : World) (S : World → Prop) : Prop := ∃ w1, Ext w0 w1 ∧ Ext w1 w' ∧ S w1
theorem Up.up {w0 w1 w2 : World} {S : World → Prop} (h : Up w0 w1 S) (k : Ext w1 w2) : Up w0 w2 S := by
  obtain ⟨w, h1, h2, h3⟩ := h; exact ⟨w, h1, h2.trans k, h3⟩
theorem Up.new {w0 w : World} {S : World → Prop} (h : S w) (k : Ext w0 w) : Up w0 w S := ⟨w, k, Ext.refl _, h⟩
/-- what is known of a slot: its value, or a fact that stood when it was filled, or that of a pair whose second limb is known -/
structure RS where
  val : Option Value
  two : Option Value
  post : Value → World → Prop
def RS.k (u : Value) : RS := ⟨some u, none, fun _ _ => True⟩
def RS.p (S : Value → World → Prop) : RS := ⟨none, none, S⟩
def RS.t (u : Value) (S : Value → World → Prop) : RS := ⟨none, some u, S⟩
def RS.any : RS := ⟨none, none, fun _ _ => True⟩
def RS.at (w0 : World) (r : RS) (v : Value) (w' : World) : Prop := match r.val with
  | some u => v = u
  | none => match r.two with
    | some u => ∃ y, v = .tuple #[y, u] ∧ Up w0 w' (r.post y)
    | none => Up w0 w' (r.post v)
theorem at_k {w0 w' : World} {u v : Value} : (RS.k u).at w0 v w' = (v = u) := rfl
theorem at_p {w0 w' : World} {S : Value → World → Prop} {v : Value} : (RS.p S).at w0 v w' = Up w0 w' (S v) := rfl
theorem at_t {w0 w' : World} {u : Value} {S : Value → World → Prop} {v : Value} : (RS.t u S).at w0 v w' = ∃ y, v = .tuple #[y, u] ∧ Up w0 w' (S y) := rfl
theorem at_any {w0 w' : World} {v : Value} : RS.any.at w0 v w' = Up w0 w' (fun _ => True) := rfl
theorem at_up {w0 w1 w2 : World} {r : RS} {v : Value} (h : r.at w0 v w1) (k : Ext w1 w2) : r.at w0 v w2 := by
  unfold RS.at at h ⊢
  split
  · rename_i u hu; rw [hu] at h; exact h
  · rename_i hu; rw [hu] at h
    split
    · rename_i u hu2; rw [hu2] at h
      obtain ⟨y, h1, h2⟩ := h
      exact ⟨y, h1, h2.up k⟩
    · rename_i hu2; rw [hu2] at h
      exact h.up k
/-- what an operation of the first part must leave -/
def PhOk (w0 : World) (r : RS) (w' : World) (v : Value) (w'' : World) : Prop := r.at w0 v w'' ∧ Ext w' w''
theorem phK {w0 : World} {u : Value} {w' w'' : World} {v : Value} (h : v = u) (k : Ext w' w'') : PhOk w0 (.k u) w' v w'' := ⟨h, k⟩
theorem phN {w0 : World} {S : Value → World → Prop} {w' w'' : World} {v : Value} (h : S v w'') (e : Ext w0 w') (k : Ext w' w'') : PhOk w0 (.p S) w' v w'' := ⟨Up.new h (e.trans k), k⟩
theorem phU {w0 : World} {S : Value → World → Prop} {w' w'' : World} {v : Value} (h : Up w0 w' (S v)) (k : Ext w' w'') : PhOk w0 (.p S) w' v w'' := ⟨h.up k, k⟩
theorem phT {w0 : World} {u : Value} {S : Value → World → Prop} {w' w'' : World} {v y : Value} (hv : v = .tuple #[y, u]) (h : Up w0 w' (S y)) (k : Ext w' w'') : PhOk w0 (.t u S) w' v w'' := ⟨⟨y, hv, h.up k⟩, k⟩
/-- a new variable -/
def BoxAt (w0 : World) (cs : Array Value) (t : TypeId) (v : Value) (w' : World) : Prop := ∃ b, v = .pointer (some ⟨b, 0, none⟩) ∧ w0.heap.size ≤ b ∧ w'.heap[b]? = some (.cells cs t (0, 0))
/-- a new row -/
def RowAt (w0 : World) (cs : Array Value) (t : TypeId) (n : Nat) (v : Value) (w' : World) : Prop := ∃ b, v = .slice (some ⟨b, 0, none⟩) n n ∧ w0.heap.size ≤ b ∧ w'.heap[b]? = some (.cells cs t (0, 0))
theorem phBox {w0 w' : World} {cs : Array Value} {t : TypeId} (e : Ext w0 w') : PhOk w0 (.p (BoxAt w0 cs t)) w' (.pointer (some ⟨w'.heap.size, 0, none⟩)) (w'.alloc (.cells cs t)) :=
  phN ⟨_, rfl, e.size', heap_alloc_new _ _⟩ e ((Ext.refl _).alloc _)
theorem phRow {w0 w' : World} {cs : Array Value} {t : TypeId} {n : Nat} (e : Ext w0 w') : PhOk w0 (.p (RowAt w0 cs t n)) w' (.slice (some ⟨w'.heap.size, 0, none⟩) n n) (w'.alloc (.cells cs t)) :=
  phN ⟨_, rfl, e.size', heap_alloc_new _ _⟩ e ((Ext.refl _).alloc _)
/-- the facts on the slots that an operation waits for -/
def PhDeps (rs : List RS) (w0 : World) (x : Nat → Value) (w' : World) : List Edge → Prop
  | [] => True
  | e :: r => (Region.binds .any e = true → (rs.getD e.on .any).at w0 (x e.on) w') ∧ PhDeps rs w0 x w' r
theorem phDeps_mk {rs : List RS} {w0 w' : World} {x : Nat → Value} : ∀ {es : List Edge}, (∀ e ∈ es, Region.binds .any e = true → (rs.getD e.on .any).at w0 (x e.on) w') → PhDeps rs w0 x w' es
  | [], _ => trivial
  | e :: r, h => ⟨h e (by simp), phDeps_mk fun e' he' => h e' (by simp [he'])⟩
def PhStep (P : Program) (l : List Oper) (t0 : Array Value) (ds : List Deferred) (rs : List RS) (w0 : World) (r : RS) (o : Oper) : Prop :=
  ∀ (x : Nat → Value) (w' : World), Ext w0 w' → PhDeps rs w0 x w' o.after.toList →
    wpList P l.toArray (fun e a' w'' => e = .normal ∧ ∃ v, a' = (⟨frL x (l.take rs.length) 0 t0, ds⟩ : Act).put o.dst v ∧ PhOk w0 r w' v w'') [o] ⟨frL x (l.take rs.length) 0 t0, ds⟩ w'
def PhAll (P : Program) (l : List Oper) (t0 : Array Value) (ds : List Deferred) (rs : List RS) (w0 : World) : List RS → List Oper → Prop
  | r :: rr, o :: oo => PhStep P l t0 ds rs w0 r o ∧ PhAll P l t0 ds rs w0 rr oo
  | _, _ => True
theorem PhAll.get {P : Program} {l : List Oper} {t0 : Array Value} {ds : List Deferred} {rs : List RS} {w0 : World} : ∀ {rr : List RS} {oo : List Oper}, PhAll P l t0 ds rs w0 rr oo → ∀ (i : Nat) (r : RS) (o : Oper), rr[i]? = some r → oo[i]? = some o → PhStep P l t0 ds rs w0 r o
  | [], _, _, i, r, o, h, _ => by simp at h
  | _ :: _, [], _, i, r, o, _, h => by simp at h
  | r' :: rr, o' :: oo, h, 0, r, o, h1, h2 => by
    simp at h1 h2; subst h1; subst h2; exact h.1
  | r' :: rr, o' :: oo, h, i + 1, r, o, h1, h2 => PhAll.get h.2 i r o (by simpa using h1) (by simpa using h2)
/-- all that is known behind the first part -/
def PhEnd (w0 : World) (x : Nat → Value) (w' : World) : List RS → Nat → Prop
  | [], _ => True
  | r :: rr, k => r.at w0 (x k) w' ∧ PhEnd w0 x w' rr (k + 1)
theorem phEnd_mk {w0 w' : World} {x : Nat → Value} : ∀ {rr : List RS} {k : Nat}, (∀ (i : Nat) (r : RS), rr[i]? = some r → r.at w0 (x (k + i)) w') → PhEnd w0 x w' rr k
  | [], _, _ => trivial
  | r :: rr, k, h => ⟨h 0 r (by simp), phEnd_mk fun i r' hr' => by
      have := h (i + 1) r' (by simpa using hr')
      rwa [show k + (i + 1) = k + 1 + i from by omega] at this⟩
/-- one of C: its value is known whatever the world -/
def PhPure (P : Program) (l : List Oper) (t0 : Array Value) (ds : List Deferred) (rs : List RS) (w0 : World) (i : Nat) : Prop :=
  ∀ o u, l[i]? = some o → (rs[i]?).bind (·.val) = some u → o.guard = none ∧ ∀ (x : Nat → Value) (w' : World), PhDeps rs w0 x w' o.after.toList → ∀ w, (execOp (⟨frL x (l.take rs.length) 0 t0, ds⟩ : Act).eval o).run P w = .ok (.value u) w
theorem fr_put {l : List Oper} {t0 : Array Value} {ds : List Deferred} {x : Nat → Value} (hB : regB l.toArray = true) {i : Nat} {o : Oper} (ho : l.toArray[i]? = some o) (v : Value) :
    (fr l.toArray ⟨t0, ds⟩ x).put o.dst v = fr l.toArray ⟨t0, ds⟩ (upd x i v) := by
  have hdst : dstOf l.toArray i = o.dst := by simp only [dstOf, ho, Option.bind_some]
  cases hd : o.dst with
  | none => simp only [Act.put, fr]; rw [frT_none (by rw [hdst, hd])]
  | some d => simp only [Act.put, fr]; rw [frT_put (regB_dst hB) (by rw [hdst, hd]) v _ (Array.getElem?_eq_some_iff.1 ho).1]
theorem closed_set {ops : Array Oper} {listed : Array Bool} {i : Nat} {o : Oper} (hcl : Closed ops (fun i => listed.getD i false)) (ho : ops[i]? = some o) (hd : ∀ e ∈ o.after, Region.binds .any e = true → listed.getD e.on false = true) :
    Closed ops (fun j => (listed.setIfInBounds i true).getD j false) := by
  intro j oj hoj hj e he hb
  by_cases hji : j = i
  · subst hji
    have : oj = o := Option.some.inj (hoj.symm.trans ho)
    subst this
    exact getD_set_true (hd e he hb)
  · have hj' : listed.getD j false = true := by rw [← getD_set_ne false (Ne.symm hji)]; exact hj
    exact getD_set_true (hcl j oj hoj hj' e he hb)
theorem wp_region_ph {P : Program} {l : List Oper} {id : Nat} {Q : Exit → Act → World → Prop} {t0 : Array Value} {ds : List Deferred} {w : World} (rs : List RS) (C : List Nat)
    (hm : P.follows .mixedOrders = true) (hB : regB l.toArray = true) (hP : (phB l rs.length C && phCB l rs.length C) = true) (hN : decide (rs.length ≤ l.length) = true)
    (hCk : (C.all fun i => decide (i < rs.length) && (((rs[i]?).bind (·.val)).isSome)) = true)
    (hs : PhAll P l t0 ds rs w rs l) (hC : ∀ i ∈ C, PhPure P l t0 ds rs w i)
    (he : ∀ x w', Ext w w' → PhEnd w x w' rs 0 → wpList P l.toArray (fun e a w => e = .normal ∧ Q .normal a w) (l.drop rs.length) ⟨frL x (l.take rs.length) 0 t0, ds⟩ w') : (Code.region id l.toArray true).wp P Q ⟨t0, ds⟩ w := by
  rw [Bool.and_eq_true] at hP
  obtain ⟨hP, hCB⟩ := hP
  have hch := ph_chain hP
  have hN : rs.length ≤ l.length := of_decide_eq_true hN
  refine Code.wp_mono (Q := fun e a w => e = .normal ∧ Q .normal a w) (fun e a w hh => hh.1 ▸ hh.2) ?_
  generalize hQ' : (fun e a w => e = Exit.normal ∧ Q .normal a w) = Q' at he ⊢
  have hQp : ∀ c a w, ¬ Q' (.panic c) a w := fun c a w h => by rw [← hQ'] at h; cases h.1
  clear hQ'
  refine wp_region_any hm ?_
  have hsz : l.toArray.size = l.length := by simp
  have hCn : ∀ i, C.contains i = true → i < rs.length ∧ ∃ u, (rs[i]?).bind (·.val) = some u := by
    intro i hi
    simp only [List.all_eq_true, Bool.and_eq_true, decide_eq_true_eq] at hCk
    obtain ⟨h1, h2⟩ := hCk i (by simpa using hi)
    exact ⟨h1, Option.isSome_iff_exists.1 h2⟩
  -- all of the first part but some of C has come up
  have fin : ∀ (k fuel : Nat) (listed : Array Bool) (x : Nat → Value) (w' : World), k ≤ rs.length → listed.size = l.length → listed.toList.count false = fuel →
      Ext w w' → (∀ i, rs.length ≤ i → x i = x0 l.toArray t0 i) → (∀ i r, rs[i]? = some r → listed.getD i false = true → r.at w (x i) w') → Closed l.toArray (fun i => listed.getD i false) → (∀ i, rs.length ≤ i → listed.getD i false = false) →
      (∀ i, i < rs.length → C.contains i = false → listed.getD i false = true) → (∀ i, i < rs.length - k → listed.getD i false = true) →
      wpAny P .any l.toArray Q' fuel listed (fr l.toArray ⟨t0, ds⟩ x) w' := by
    intro k
    induction k with
    | zero =>
      intro fuel listed x w' hk hsl hc hE hx hR hcl hno hA hlo
      refine wpAny_tail hB (fun L hL j o ho hn hd i hi hni => hch L hL j o ho hn hd i hi (by
        cases hb : C.contains i with
        | false => rfl
        | true => have := (hCn i hb).1; omega)) fuel listed rs.length (by omega) hc (Nat.le_refl _) (by omega) ?_ _ _ ?_
      · intro i hi
        rcases Nat.lt_or_ge i rs.length with h' | h'
        · rw [hlo i (by omega)]; simp [h']
        · rw [hno i h']; simp; omega
      · rw [fr_take hB hN hx]
        refine he x w' hE (phEnd_mk fun i r hr => ?_)
        rw [Nat.zero_add]
        exact hR i r hr (hlo i (by have := (List.getElem?_eq_some_iff.1 hr).1; omega))
    | succ k ih =>
      intro fuel listed x w' hk hsl hc hE hx hR hcl hno hA hlo
      have hml : rs.length - (k + 1) < rs.length := by omega
      cases hb : listed.getD (rs.length - (k + 1)) false with
      | true =>
        refine ih fuel listed x w' (by omega) hsl hc hE hx hR hcl hno hA fun i hi => ?_
        by_cases e : i = rs.length - (k + 1)
        · subst e; exact hb
        · exact hlo i (by omega)
      | false =>
        generalize hme : rs.length - (k + 1) = m at *
        have hmC : C.contains m = true := by
          cases h : C.contains m with
          | true => rfl
          | false => have := hA m hml h; rw [hb] at this; cases this
        have hm1 : m < listed.size := by omega
        have hmf : listed[m] = false := by simpa [hm1] using hb
        have hmo : l.toArray[m]? = some (l[m]'(by omega)) := by simp [show m < l.length by omega]
        generalize hom : l[m]'(by omega) = om at hmo
        obtain ⟨_, u, hu⟩ := hCn m hmC
        have hpu := hC m (by simpa using hmC) om u (by simpa using hmo) hu
        have hdeps : ∀ e ∈ om.after, Region.binds .any e = true → listed.getD e.on false = true := fun e he hb' => hlo _ (regB_on hB hmo e he hb')
        have hyi : Yields P l.toArray om u (fr l.toArray ⟨t0, ds⟩ x) := by
          left
          refine ⟨by simp [Region.wanted, hpu.1], fun w2 => ?_⟩
          rw [fr_take hB hN hx]
          refine hpu.2 x w' (phDeps_mk fun e he' hb' => ?_) w2
          have h1 := hlo _ (regB_on hB hmo e (Array.mem_def.2 he') hb')
          have h2 := regB_on hB hmo e (Array.mem_def.2 he') hb'
          have hr : rs[e.on]? = some (rs[e.on]'(by omega)) := by simp [show e.on < rs.length by omega]
          have hg : rs.getD e.on .any = rs[e.on]'(by omega) := by simp [show e.on < rs.length by omega]
          rw [hg]
          exact hR e.on _ hr h1
        obtain ⟨fuel', rfl⟩ : ∃ f, fuel = f + 1 := by
          refine ⟨fuel - 1, ?_⟩
          have : 0 < listed.toList.count false := List.count_pos_iff.2 (by rw [← hmf]; exact Array.getElem_mem_toList hm1)
          omega
        simp only [phCB, Bool.and_eq_true, List.all_eq_true] at hCB
        obtain ⟨hsel, hap⟩ := hCB
        refine wpAny_first (i := m) (v := u) hmo (fun j o cs b ho hop => ?_) (fun c a w3 h => absurd h (hQp _ _ _)) fuel' listed _ w' ?_ ?_ hyi ?_
        · have := hsel o (List.mem_of_getElem? (by simpa using ho))
          rw [hop] at this; cases this
        · intro j oj hoj hji hjl hnw
          have h1 := hap m (by simpa using hmC)
          rw [show l[m]? = some om from by simpa using hmo] at h1
          simp only [List.all_eq_true, List.mem_range] at h1
          have hjlt : j < l.length := by have := (Array.getElem?_eq_some_iff.1 hoj).1; simpa using this
          have h2 := h1 j hjlt
          rw [show l[j]? = some oj from by simpa using hoj] at h2
          simp only [Bool.or_eq_true, decide_eq_true_eq, Bool.and_eq_true] at h2
          rcases h2 with ((h2 | h2) | h2) | h2
          · exact absurd h2 hji
          · have hj1 : j < listed.size := by omega
            have hjC : C.contains j = false := by simpa using h2.2
            have := hA j h2.1 hjC
            simp [hj1] at this hjl
            rw [this] at hjl; cases hjl
          · obtain ⟨e, he', hb2⟩ := Array.any_eq_true'.1 h2
            simp only [Bool.and_eq_true, beq_iff_eq] at hb2
            exact absurd hb2.2 (hnw e he' hb2.1)
          · exact h2
        · rw [mem_ready]
          exact ⟨by simp [hm1, hmf], om, hmo, hdeps⟩
        · rw [fr_put hB hmo]
          refine ih fuel' _ _ w' (by omega) (by simpa using hsl) ?_ hE (fun i hi => by rw [upd_ne _ _ (by omega)]; exact hx i hi) ?_ (closed_set hcl hmo hdeps) ?_ ?_ ?_
          · rw [Array.toList_setIfInBounds, List.count_set (by simpa using hm1)]
            simp only [Array.getElem_toList, hmf, hc]
            simp
          · intro j r hjr hj
            by_cases hji : j = m
            · subst hji
              rw [upd_same]
              have hv : r.val = some u := by rw [hjr] at hu; simpa using hu
              unfold RS.at; rw [hv]
            · rw [upd_ne _ _ hji]
              rw [getD_set_ne false (Ne.symm hji)] at hj
              exact hR j r hjr hj
          · intro j hj
            rw [getD_set_ne false (by omega)]; exact hno j hj
          · intro j hj hjC
            by_cases hji : j = m
            · subst hji; simp [hm1]
            · rw [getD_set_ne false (Ne.symm hji)]; exact hA j hj hjC
          · intro j hj
            by_cases hji : j = m
            · subst hji; simp [hm1]
            · rw [getD_set_ne false (Ne.symm hji)]; exact hlo j (by omega)
  have key : ∀ fuel (listed : Array Bool) (x : Nat → Value) (w' : World), listed.size = l.length → listed.toList.count false = fuel →
      Ext w w' → (∀ i, rs.length ≤ i → x i = x0 l.toArray t0 i) → (∀ i r, rs[i]? = some r → listed.getD i false = true → r.at w (x i) w') → Closed l.toArray (fun i => listed.getD i false) → (∀ i, rs.length ≤ i → listed.getD i false = false) →
      wpAny P .any l.toArray Q' fuel listed (fr l.toArray ⟨t0, ds⟩ x) w' := by
    intro fuel
    induction fuel with
    | zero =>
      intro listed x w' hsl hc hE hx hR hcl hno
      have hall : ∀ i, i < rs.length → listed.getD i false = true := by
        intro i hi
        have hi1 : i < listed.size := by omega
        have h2 := List.count_eq_zero.1 hc
        cases hb : listed[i] with
        | true => simp [hi1, hb]
        | false => exact absurd (by rw [← hb]; exact Array.getElem_mem_toList hi1) h2
      exact fin 0 0 listed x w' (by omega) hsl hc hE hx hR hcl hno (fun i hi _ => hall i hi) (fun i hi => hall i (by omega))
    | succ fuel ih =>
      intro listed x w' hsl hc hE hx hR hcl hno
      by_cases hall : ∀ i, i < rs.length → C.contains i = false → listed.getD i false = true
      · exact fin rs.length (fuel + 1) listed x w' (Nat.le_refl _) hsl hc hE hx hR hcl hno hall (fun i hi => by omega)
      · have hnot : ∀ i o, l.toArray[i]? = some o → (∀ e ∈ o.after, Region.binds .any e = true → listed.getD e.on false = true) → i < rs.length := by
          intro i o ho hd
          rcases Nat.lt_or_ge i rs.length with h' | h'
          · exact h'
          · exact absurd (fun j hj hjC => hch _ hcl i o ho h' hd j (by omega) hjC) hall
        refine ⟨fun hr => ?_, fun i hi => ?_⟩
        · exfalso
          have key2 : ∀ m, m < l.length → listed.getD m false = true := by
            intro m
            induction m using Nat.strongRecOn with
            | _ m ihm =>
              intro hm
              have hm1 : m < listed.size := by omega
              cases hbm : listed[m] with
              | true => simp [hm1, hbm]
              | false =>
                exfalso
                have hml : m < l.toArray.size := by omega
                have : m ∈ Region.ready .any l.toArray listed := by
                  rw [mem_ready]
                  exact ⟨by simp [hm1, hbm], l.toArray[m], by simp [hm], fun e he hb' => ihm e.on (regB_on hB (by simp [hm]) e he hb') (by have := regB_on hB (by simp [hm] : l.toArray[m]? = some l.toArray[m]) e he hb'; omega)⟩
                rw [hr] at this; cases this
          exact hall fun i hi _ => key2 i (by omega)
        · obtain ⟨hun, o, ho, hdeps⟩ := mem_ready.1 hi
          have hin := hnot i o ho hdeps
          have h1 : i < listed.size := by omega
          have hun' : listed[i] = false := by simpa [h1] using hun
          have hr : rs[i]? = some rs[i] := by simp [hin]
          have hst := hs.get i rs[i] o hr (by simpa using ho) x w' hE (phDeps_mk fun e he hb => by
            have hL := hdeps e (Array.mem_def.2 he) hb
            have hlt' : e.on < rs.length := Nat.lt_trans (regB_on hB ho e (Array.mem_def.2 he) hb) hin
            have : rs.getD e.on .any = rs[e.on] := by simp [hlt']
            rw [this]
            exact hR e.on _ (by simp [hlt']) hL)
          have fin2 : ∀ (v : Value) (w'' : World), PhOk w rs[i] w' v w'' → wpAny P .any l.toArray Q' fuel (listed.setIfInBounds i true) ((fr l.toArray ⟨t0, ds⟩ x).put o.dst v) w'' := by
            intro v w'' hv
            rw [fr_put hB ho]
            refine ih _ _ _ (by simpa using hsl) ?_ (hE.trans hv.2) (fun j hj => by rw [upd_ne _ _ (by omega)]; exact hx j hj) ?_ (closed_set hcl ho hdeps) ?_
            · rw [Array.toList_setIfInBounds, List.count_set (by simpa using h1)]
              simp only [Array.getElem_toList, hun', hc]
              simp
            · intro j r hjr hj
              by_cases hji : j = i
              · subst hji
                rw [upd_same]
                have : r = rs[j] := Option.some.inj (hjr.symm.trans hr)
                subst this
                exact hv.1
              · rw [upd_ne _ _ hji]
                rw [getD_set_ne false (Ne.symm hji)] at hj
                exact at_up (hR j r hjr hj) hv.2
            · intro j hj
              rw [getD_set_ne false (by omega)]; exact hno j hj
          rw [← fr_take hB hN hx] at hst
          unfold wpOp
          simp only [ho]
          unfold wpList at hst
          split
          · rename_i hw
            rw [if_pos hw] at hst
            rcases hst with hst | ⟨_, hst⟩
            · left
              refine Oper.upon_both (fun a' w'' hh => ?_) (fun e a' w'' hne hh => ?_) hst
              · obtain ⟨_, v, rfl, hv⟩ := hh
                exact fin2 v w'' hv
              · exact absurd hh.1 hne
            · obtain ⟨a', w'', he, _⟩ := hst; cases he
          · rename_i hw
            rw [if_neg hw] at hst
            obtain ⟨_, v, he, hv⟩ := hst
            rw [he]
            exact fin2 v w' hv
  have hst := key l.toArray.size (Array.replicate l.length false) (x0 l.toArray t0) w.drew (by simp) (by simp) (Ext.refl w).drew (fun i _ => rfl) (fun i r hr hi => by
    by_cases h : i < l.length <;> simp [h] at hi) (fun j o _ hj => by
    by_cases h : j < l.length <;> simp [h] at hj) (fun i _ => by
    by_cases h : i < l.length <;> simp [h])
  rw [show fr l.toArray ⟨t0, ds⟩ (x0 l.toArray t0) = ⟨t0, ds⟩ from by
    simp only [fr]; congr 1; exact frT_start _] at hst
  simpa using hst
end Go.Proofs.YtddghaoejnbkaaaDoor
