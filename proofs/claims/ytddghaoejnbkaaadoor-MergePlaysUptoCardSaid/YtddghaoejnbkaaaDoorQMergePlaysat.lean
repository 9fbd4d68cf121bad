/- Contracts and lemmas for the proof of MergePlays; each theorem states its own conditions. -/
import Derived.Test.YtddghaoejnbkaaaDoorQMergePlaysaj
set_option linter.unusedVariables false
set_option linter.unusedSimpArgs false
/- Contracts and lemmas for the proofs of this seat; each theorem states its own conditions. -/
namespace Go.Proofs.YtddghaoejnbkaaaDoor
namespace PR
/-! regions in two phases, under whatever frame: what an operation may turn is told by F; a fact on a slot may name the slots that its operation waits for -/
structure Fr (F : World → World → Prop) : Prop where
  refl : ∀ w, F w w
  trans : ∀ {a b c}, F a b → F b c → F a c
  drew : ∀ w, F w w.drew
section
variable {F : World → World → Prop}
/-- a fact that stood at a world between -/
def Up (F : World → World → Prop) (w0 w' : World) (S : World → Prop) : Prop := ∃ w1, F w0 w1 ∧ F w1 w' ∧ S w1
theorem Up.up (hF : Fr F) {w0 w1 w2 : World} {S : World → Prop} (h : Up F w0 w1 S) (k : F w1 w2) : Up F w0 w2 S := by
  obtain ⟨w, h1, h2, h3⟩ := h; exact ⟨w, h1, hF.trans h2 k, h3⟩
theorem Up.new (hF : Fr F) {w0 w : World} {S : World → Prop} (h : S w) (k : F w0 w) : Up F w0 w S := ⟨w, k, hF.refl _, h⟩
structure RS where
  val : Option Value
  two : Option Value
  on : List Nat
  post : List Value → Value → World → Prop
def RS.k (u : Value) : RS := ⟨some u, none, [], fun _ _ _ => True⟩
def RS.p (S : Value → World → Prop) : RS := ⟨none, none, [], fun _ => S⟩
def RS.d (on : List Nat) (S : List Value → Value → World → Prop) : RS := ⟨none, none, on, S⟩
def RS.t (u : Value) (S : Value → World → Prop) : RS := ⟨none, some u, [], fun _ => S⟩
def RS.any : RS := ⟨none, none, [], fun _ _ _ => True⟩
def RS.at (F : World → World → Prop) (w0 : World) (r : RS) (x : Nat → Value) (v : Value) (w' : World) : Prop := match r.val with
  | some u => v = u
  | none => match r.two with
    | some u => ∃ y, v = .tuple #[y, u] ∧ Up F w0 w' (r.post (r.on.map x) y)
    | none => Up F w0 w' (r.post (r.on.map x) v)
theorem at_k {w0 w' : World} {x : Nat → Value} {u v : Value} : (RS.k u).at F w0 x v w' = (v = u) := rfl
theorem at_p {w0 w' : World} {x : Nat → Value} {S : Value → World → Prop} {v : Value} : (RS.p S).at F w0 x v w' = Up F w0 w' (S v) := rfl
theorem at_t {w0 w' : World} {x : Nat → Value} {u : Value} {S : Value → World → Prop} {v : Value} : (RS.t u S).at F w0 x v w' = ∃ y, v = .tuple #[y, u] ∧ Up F w0 w' (S y) := rfl
theorem at_any {w0 w' : World} {x : Nat → Value} {v : Value} : RS.any.at F w0 x v w' = Up F w0 w' (fun _ => True) := rfl
theorem at_up (hF : Fr F) {w0 w1 w2 : World} {r : RS} {x : Nat → Value} {v : Value} (h : r.at F w0 x v w1) (k : F w1 w2) : r.at F w0 x v w2 := by
  unfold RS.at at h ⊢
  split
  · rename_i u hu; rw [hu] at h; exact h
  · rename_i hu; rw [hu] at h
    split
    · rename_i u hu2; rw [hu2] at h
      obtain ⟨y, h1, h2⟩ := h
      exact ⟨y, h1, h2.up hF k⟩
    · rename_i hu2; rw [hu2] at h
      exact h.up hF k
theorem at_x {w0 w1 : World} {r : RS} {x : Nat → Value} {i : Nat} {u v : Value} (h : r.at F w0 x v w1) (hi : i ∉ r.on) : r.at F w0 (upd x i u) v w1 := by
  have e : r.on.map (upd x i u) = r.on.map x := List.map_congr_left fun j hj => upd_ne _ _ (fun e => hi (e ▸ hj))
  unfold RS.at at h ⊢
  rw [e]; exact h
/-- what an operation of the first part must leave -/
def PhOk (F : World → World → Prop) (w0 : World) (r : RS) (x : Nat → Value) (w' : World) (v : Value) (w'' : World) : Prop := r.at F w0 x v w'' ∧ F w' w''
theorem phK {w0 : World} {x : Nat → Value} {u : Value} {w' w'' : World} {v : Value} (h : v = u) (k : F w' w'') : PhOk F w0 (.k u) x w' v w'' := ⟨h, k⟩
theorem phN (hF : Fr F) {w0 : World} {x : Nat → Value} {S : Value → World → Prop} {w' w'' : World} {v : Value} (h : S v w'') (e : F w0 w') (k : F w' w'') : PhOk F w0 (.p S) x w' v w'' := ⟨Up.new hF h (hF.trans e k), k⟩
theorem phU (hF : Fr F) {w0 : World} {x : Nat → Value} {S : Value → World → Prop} {w' w'' : World} {v : Value} (h : Up F w0 w' (S v)) (k : F w' w'') : PhOk F w0 (.p S) x w' v w'' := ⟨h.up hF k, k⟩
/-- the facts on the slots that an operation waits for -/
def PhDeps (F : World → World → Prop) (rs : List RS) (w0 : World) (x : Nat → Value) (w' : World) : List Edge → Prop
  | [] => True
  | e :: r => (Region.binds .any e = true → (rs.getD e.on .any).at F w0 x (x e.on) w') ∧ PhDeps F rs w0 x w' r
theorem phDeps_mk {rs : List RS} {w0 w' : World} {x : Nat → Value} : ∀ {es : List Edge}, (∀ e ∈ es, Region.binds .any e = true → (rs.getD e.on .any).at F w0 x (x e.on) w') → PhDeps F rs w0 x w' es
  | [], _ => trivial
  | e :: r, h => ⟨h e (by simp), phDeps_mk fun e' he' => h e' (by simp [he'])⟩
def PhStep (F : World → World → Prop) (P : Program) (l : List Oper) (t0 : Array Value) (ds : List Deferred) (rs : List RS) (w0 : World) (r : RS) (o : Oper) : Prop :=
  ∀ (x : Nat → Value) (w' : World), F w0 w' → PhDeps F rs w0 x w' o.after.toList →
    wpList P l.toArray (fun e a' w'' => e = .normal ∧ ∃ v, a' = (⟨frL x (l.take rs.length) 0 t0, ds⟩ : Act).put o.dst v ∧ PhOk F w0 r x w' v w'') [o] ⟨frL x (l.take rs.length) 0 t0, ds⟩ w'
def PhAll (F : World → World → Prop) (P : Program) (l : List Oper) (t0 : Array Value) (ds : List Deferred) (rs : List RS) (w0 : World) : List RS → List Oper → Prop
  | r :: rr, o :: oo => PhStep F P l t0 ds rs w0 r o ∧ PhAll F P l t0 ds rs w0 rr oo
  | _, _ => True
theorem PhAll.get {P : Program} {l : List Oper} {t0 : Array Value} {ds : List Deferred} {rs : List RS} {w0 : World} : ∀ {rr : List RS} {oo : List Oper}, PhAll F P l t0 ds rs w0 rr oo → ∀ (i : Nat) (r : RS) (o : Oper), rr[i]? = some r → oo[i]? = some o → PhStep F P l t0 ds rs w0 r o
  | [], _, _, i, r, o, h, _ => by simp at h
  | _ :: _, [], _, i, r, o, _, h => by simp at h
  | r' :: rr, o' :: oo, h, 0, r, o, h1, h2 => by
    simp at h1 h2; subst h1; subst h2; exact h.1
  | r' :: rr, o' :: oo, h, i + 1, r, o, h1, h2 => PhAll.get h.2 i r o (by simpa using h1) (by simpa using h2)
/-- all that is known behind the first part -/
def PhEnd (F : World → World → Prop) (w0 : World) (x : Nat → Value) (w' : World) : List RS → Nat → Prop
  | [], _ => True
  | r :: rr, k => r.at F w0 x (x k) w' ∧ PhEnd F w0 x w' rr (k + 1)
theorem phEnd_mk {w0 w' : World} {x : Nat → Value} : ∀ {rr : List RS} {k : Nat}, (∀ (i : Nat) (r : RS), rr[i]? = some r → r.at F w0 x (x (k + i)) w') → PhEnd F w0 x w' rr k
  | [], _, _ => trivial
  | r :: rr, k, h => ⟨h 0 r (by simp), phEnd_mk fun i r' hr' => by
      have := h (i + 1) r' (by simpa using hr')
      rwa [show k + (i + 1) = k + 1 + i from by omega] at this⟩
/-- one of C: its value is known whatever the world -/
def PhPure (F : World → World → Prop) (P : Program) (l : List Oper) (t0 : Array Value) (ds : List Deferred) (rs : List RS) (w0 : World) (i : Nat) : Prop :=
  ∀ o u, l[i]? = some o → (rs[i]?).bind (·.val) = some u → o.guard = none ∧ ∀ (x : Nat → Value) (w' : World), PhDeps F rs w0 x w' o.after.toList → ∀ w, (execOp (⟨frL x (l.take rs.length) 0 t0, ds⟩ : Act).eval o).run P w = .ok (.value u) w
/-- every fact names only slots that its operation waits for -/
def phO (l : List Oper) (ons : List (List Nat)) : Bool := (List.range ons.length).all fun j => match l[j]? with
  | none => true
  | some o => (ons.getD j []).all fun k => o.after.any fun e => Region.binds .any e && e.on == k
theorem phO_on {l : List Oper} {rs : List RS} {ons : List (List Nat)} (h : phO l ons = true) (he : rs.map (·.on) = ons) {j : Nat} {r : RS} {o : Oper} (hr : rs[j]? = some r) (ho : l[j]? = some o) {k : Nat} (hk : k ∈ r.on) :
    ∃ e ∈ o.after, Region.binds .any e = true ∧ e.on = k := by
  subst he
  simp only [phO, List.all_eq_true, List.mem_range, List.length_map] at h
  have h1 := h j (List.getElem?_eq_some_iff.1 hr).1
  rw [ho] at h1
  simp only [List.getD_eq_getElem?_getD, List.getElem?_map, hr, Option.map_some, Option.getD_some, List.all_eq_true] at h1
  obtain ⟨e, h2, h3⟩ := Array.any_eq_true'.1 (h1 k hk)
  simp only [Bool.and_eq_true, beq_iff_eq] at h3
  exact ⟨e, h2, h3.1, h3.2⟩
theorem wp_region_ph (hF : Fr F) {P : Program} {l : List Oper} {id : Nat} {Q : Exit → Act → World → Prop} {t0 : Array Value} {ds : List Deferred} {w : World} (rs : List RS) (ons : List (List Nat)) (C : List Nat)
    (hm : P.follows .mixedOrders = true) (hB : regB l.toArray = true) (hP : (phB l rs.length C && phCB l rs.length C) = true) (hN : decide (rs.length ≤ l.length) = true)
    (hCk : (C.all fun i => decide (i < rs.length) && (((rs[i]?).bind (·.val)).isSome)) = true)
    (hons : rs.map (·.on) = ons) (hO : phO l ons = true)
    (hs : PhAll F P l t0 ds rs w rs l) (hC : ∀ i ∈ C, PhPure F P l t0 ds rs w i)
    (he : ∀ x w', F w w' → PhEnd F w x w' rs 0 → wpList P l.toArray (fun e a w => e = .normal ∧ Q .normal a w) (l.drop rs.length) ⟨frL x (l.take rs.length) 0 t0, ds⟩ w') : (Code.region id l.toArray true).wp P Q ⟨t0, ds⟩ w := by
  rw [Bool.and_eq_true] at hP
  obtain ⟨hP, hCB⟩ := hP
  have hch := ph_chain hP
  have hN : rs.length ≤ l.length := of_decide_eq_true hN
  refine Code.wp_mono (Q := fun e a w => e = .normal ∧ Q .normal a w) (fun e a w hh => hh.1 ▸ hh.2) ?_
  generalize hQ' : (fun e a w => e = Exit.normal ∧ Q .normal a w) = Q' at he ⊢
  have hQp : ∀ c a w, ¬ Q' (.panic c) a w := fun c a w h => by rw [← hQ'] at h; cases h.1
  clear hQ'
  refine wp_region_any hm ?_
  have hsz : l.toArray.size = l.length := by simp
  have hCn : ∀ i, C.contains i = true → i < rs.length ∧ ∃ u, (rs[i]?).bind (·.val) = some u := by
    intro i hi
    simp only [List.all_eq_true, Bool.and_eq_true, decide_eq_true_eq] at hCk
    obtain ⟨h1, h2⟩ := hCk i (by simpa using hi)
    exact ⟨h1, Option.isSome_iff_exists.1 h2⟩
  -- all of the first part but some of C has come up
  have fin : ∀ (k fuel : Nat) (listed : Array Bool) (x : Nat → Value) (w' : World), k ≤ rs.length → listed.size = l.length → listed.toList.count false = fuel →
      F w w' → (∀ i, rs.length ≤ i → x i = x0 l.toArray t0 i) → (∀ i r, rs[i]? = some r → listed.getD i false = true → r.at F w x (x i) w') → Closed l.toArray (fun i => listed.getD i false) → (∀ i, rs.length ≤ i → listed.getD i false = false) →
      (∀ i, i < rs.length → C.contains i = false → listed.getD i false = true) → (∀ i, i < rs.length - k → listed.getD i false = true) →
      wpAny P .any l.toArray Q' fuel listed (fr l.toArray ⟨t0, ds⟩ x) w' := by
    intro k
    induction k with
    | zero =>
      intro fuel listed x w' hk hsl hc hE hx hR hcl hno hA hlo
      refine wpAny_tail hB (fun L hL j o ho hn hd i hi hni => hch L hL j o ho hn hd i hi (by
        cases hb : C.contains i with
        | false => rfl
        | true => have := (hCn i hb).1; omega)) fuel listed rs.length (by omega) hc (Nat.le_refl _) (by omega) ?_ _ _ ?_
      · intro i hi
        rcases Nat.lt_or_ge i rs.length with h' | h'
        · rw [hlo i (by omega)]; simp [h']
        · rw [hno i h']; simp; omega
      · rw [fr_take hB hN hx]
        refine he x w' hE (phEnd_mk fun i r hr => ?_)
        rw [Nat.zero_add]
        exact hR i r hr (hlo i (by have := (List.getElem?_eq_some_iff.1 hr).1; omega))
    | succ k ih =>
      intro fuel listed x w' hk hsl hc hE hx hR hcl hno hA hlo
      have hml : rs.length - (k + 1) < rs.length := by omega
      cases hb : listed.getD (rs.length - (k + 1)) false with
      | true =>
        refine ih fuel listed x w' (by omega) hsl hc hE hx hR hcl hno hA fun i hi => ?_
        by_cases e : i = rs.length - (k + 1)
        · subst e; exact hb
        · exact hlo i (by omega)
      | false =>
        generalize hme : rs.length - (k + 1) = m at *
        have hmC : C.contains m = true := by
          cases h : C.contains m with
          | true => rfl
          | false => have := hA m hml h; rw [hb] at this; cases this
        have hm1 : m < listed.size := by omega
        have hmf : listed[m] = false := by simpa [hm1] using hb
        have hmo : l.toArray[m]? = some (l[m]'(by omega)) := by simp [show m < l.length by omega]
        generalize hom : l[m]'(by omega) = om at hmo
        obtain ⟨_, u, hu⟩ := hCn m hmC
        have hpu := hC m (by simpa using hmC) om u (by simpa using hmo) hu
        have hdeps : ∀ e ∈ om.after, Region.binds .any e = true → listed.getD e.on false = true := fun e he hb' => hlo _ (regB_on hB hmo e he hb')
        have hyi : Yields P l.toArray om u (fr l.toArray ⟨t0, ds⟩ x) := by
          left
          refine ⟨by simp [Region.wanted, hpu.1], fun w2 => ?_⟩
          rw [fr_take hB hN hx]
          refine hpu.2 x w' (phDeps_mk fun e he' hb' => ?_) w2
          have h1 := hlo _ (regB_on hB hmo e (Array.mem_def.2 he') hb')
          have h2 := regB_on hB hmo e (Array.mem_def.2 he') hb'
          have hr : rs[e.on]? = some (rs[e.on]'(by omega)) := by simp [show e.on < rs.length by omega]
          have hg : rs.getD e.on .any = rs[e.on]'(by omega) := by simp [show e.on < rs.length by omega]
          rw [hg]
          exact hR e.on _ hr h1
        obtain ⟨fuel', rfl⟩ : ∃ f, fuel = f + 1 := by
          refine ⟨fuel - 1, ?_⟩
          have : 0 < listed.toList.count false := List.count_pos_iff.2 (by rw [← hmf]; exact Array.getElem_mem_toList hm1)
          omega
        simp only [phCB, Bool.and_eq_true, List.all_eq_true] at hCB
        obtain ⟨hsel, hap⟩ := hCB
        refine wpAny_first (i := m) (v := u) hmo (fun j o cs b ho hop => ?_) (fun c a w3 h => absurd h (hQp _ _ _)) fuel' listed _ w' ?_ ?_ hyi ?_
        · have := hsel o (List.mem_of_getElem? (by simpa using ho))
          rw [hop] at this; cases this
        · intro j oj hoj hji hjl hnw
          have h1 := hap m (by simpa using hmC)
          rw [show l[m]? = some om from by simpa using hmo] at h1
          simp only [List.all_eq_true, List.mem_range] at h1
          have hjlt : j < l.length := by have := (Array.getElem?_eq_some_iff.1 hoj).1; simpa using this
          have h2 := h1 j hjlt
          rw [show l[j]? = some oj from by simpa using hoj] at h2
          simp only [Bool.or_eq_true, decide_eq_true_eq, Bool.and_eq_true] at h2
          rcases h2 with ((h2 | h2) | h2) | h2
          · exact absurd h2 hji
          · have hj1 : j < listed.size := by omega
            have hjC : C.contains j = false := by simpa using h2.2
            have := hA j h2.1 hjC
            simp [hj1] at this hjl
            rw [this] at hjl; cases hjl
          · obtain ⟨e, he', hb2⟩ := Array.any_eq_true'.1 h2
            simp only [Bool.and_eq_true, beq_iff_eq] at hb2
            exact absurd hb2.2 (hnw e he' hb2.1)
          · exact h2
        · rw [mem_ready]
          exact ⟨by simp [hm1, hmf], om, hmo, hdeps⟩
        · rw [fr_put hB hmo]
          refine ih fuel' _ _ w' (by omega) (by simpa using hsl) ?_ hE (fun i hi => by rw [upd_ne _ _ (by omega)]; exact hx i hi) ?_ (closed_set hcl hmo hdeps) ?_ ?_ ?_
          · rw [Array.toList_setIfInBounds, List.count_set (by simpa using hm1)]
            simp only [Array.getElem_toList, hmf, hc]
            simp
          · intro j r hjr hj
            by_cases hji : j = m
            · subst hji
              rw [upd_same]
              have hv : r.val = some u := by rw [hjr] at hu; simpa using hu
              unfold RS.at; rw [hv]
            · rw [upd_ne _ _ hji]
              rw [getD_set_ne false (Ne.symm hji)] at hj
              refine at_x (hR j r hjr hj) fun hmem => ?_
              have hjl : j < l.length := Nat.lt_of_lt_of_le (List.getElem?_eq_some_iff.1 hjr).1 hN
              obtain ⟨e, e1, e2, e3⟩ := phO_on hO hons hjr (List.getElem?_eq_getElem hjl) hmem
              have := hcl j l[j] (by simp [hjl]) hj e e1 e2
              dsimp only at this
              rw [e3, hb] at this; cases this
          · intro j hj
            rw [getD_set_ne false (by omega)]; exact hno j hj
          · intro j hj hjC
            by_cases hji : j = m
            · subst hji; simp [hm1]
            · rw [getD_set_ne false (Ne.symm hji)]; exact hA j hj hjC
          · intro j hj
            by_cases hji : j = m
            · subst hji; simp [hm1]
            · rw [getD_set_ne false (Ne.symm hji)]; exact hlo j (by omega)
  have key : ∀ fuel (listed : Array Bool) (x : Nat → Value) (w' : World), listed.size = l.length → listed.toList.count false = fuel →
      F w w' → (∀ i, rs.length ≤ i → x i = x0 l.toArray t0 i) → (∀ i r, rs[i]? = some r → listed.getD i false = true → r.at F w x (x i) w') → Closed l.toArray (fun i => listed.getD i false) → (∀ i, rs.length ≤ i → listed.getD i false = false) →
      wpAny P .any l.toArray Q' fuel listed (fr l.toArray ⟨t0, ds⟩ x) w' := by
    intro fuel
    induction fuel with
    | zero =>
      intro listed x w' hsl hc hE hx hR hcl hno
      have hall : ∀ i, i < rs.length → listed.getD i false = true := by
        intro i hi
        have hi1 : i < listed.size := by omega
        have h2 := List.count_eq_zero.1 hc
        cases hb : listed[i] with
        | true => simp [hi1, hb]
        | false => exact absurd (by rw [← hb]; exact Array.getElem_mem_toList hi1) h2
      exact fin 0 0 listed x w' (by omega) hsl hc hE hx hR hcl hno (fun i hi _ => hall i hi) (fun i hi => hall i (by omega))
    | succ fuel ih =>
      intro listed x w' hsl hc hE hx hR hcl hno
      by_cases hall : ∀ i, i < rs.length → C.contains i = false → listed.getD i false = true
      · exact fin rs.length (fuel + 1) listed x w' (Nat.le_refl _) hsl hc hE hx hR hcl hno hall (fun i hi => by omega)
      · have hnot : ∀ i o, l.toArray[i]? = some o → (∀ e ∈ o.after, Region.binds .any e = true → listed.getD e.on false = true) → i < rs.length := by
          intro i o ho hd
          rcases Nat.lt_or_ge i rs.length with h' | h'
          · exact h'
          · exact absurd (fun j hj hjC => hch _ hcl i o ho h' hd j (by omega) hjC) hall
        refine ⟨fun hr => ?_, fun i hi => ?_⟩
        · exfalso
          have key2 : ∀ m, m < l.length → listed.getD m false = true := by
            intro m
            induction m using Nat.strongRecOn with
            | _ m ihm =>
              intro hm
              have hm1 : m < listed.size := by omega
              cases hbm : listed[m] with
              | true => simp [hm1, hbm]
              | false =>
                exfalso
                have hml : m < l.toArray.size := by omega
                have : m ∈ Region.ready .any l.toArray listed := by
                  rw [mem_ready]
                  exact ⟨by simp [hm1, hbm], l.toArray[m], by simp [hm], fun e he hb' => ihm e.on (regB_on hB (by simp [hm]) e he hb') (by have := regB_on hB (by simp [hm] : l.toArray[m]? = some l.toArray[m]) e he hb'; omega)⟩
                rw [hr] at this; cases this
          exact hall fun i hi _ => key2 i (by omega)
        · obtain ⟨hun, o, ho, hdeps⟩ := mem_ready.1 hi
          have hin := hnot i o ho hdeps
          have h1 : i < listed.size := by omega
          have hun' : listed[i] = false := by simpa [h1] using hun
          have hr : rs[i]? = some rs[i] := by simp [hin]
          have hst := hs.get i rs[i] o hr (by simpa using ho) x w' hE (phDeps_mk fun e he hb => by
            have hL := hdeps e (Array.mem_def.2 he) hb
            have hlt' : e.on < rs.length := Nat.lt_trans (regB_on hB ho e (Array.mem_def.2 he) hb) hin
            have : rs.getD e.on .any = rs[e.on] := by simp [hlt']
            rw [this]
            exact hR e.on _ (by simp [hlt']) hL)
          have fin2 : ∀ (v : Value) (w'' : World), PhOk F w rs[i] x w' v w'' → wpAny P .any l.toArray Q' fuel (listed.setIfInBounds i true) ((fr l.toArray ⟨t0, ds⟩ x).put o.dst v) w'' := by
            intro v w'' hv
            rw [fr_put hB ho]
            refine ih _ _ _ (by simpa using hsl) ?_ (hF.trans hE hv.2) (fun j hj => by rw [upd_ne _ _ (by omega)]; exact hx j hj) ?_ (closed_set hcl ho hdeps) ?_
            · rw [Array.toList_setIfInBounds, List.count_set (by simpa using h1)]
              simp only [Array.getElem_toList, hun', hc]
              simp
            · intro j r hjr hj
              by_cases hji : j = i
              · subst hji
                rw [upd_same]
                have : r = rs[j] := Option.some.inj (hjr.symm.trans hr)
                subst this
                refine at_x hv.1 fun hmem => ?_
                obtain ⟨e, e1, e2, e3⟩ := phO_on hO hons hjr (by simpa using ho) hmem
                have := regB_on hB ho e e1 e2
                omega
              · rw [upd_ne _ _ hji]
                rw [getD_set_ne false (Ne.symm hji)] at hj
                refine at_x (at_up hF (hR j r hjr hj) hv.2) fun hmem => ?_
                have hjl : j < l.length := Nat.lt_of_lt_of_le (List.getElem?_eq_some_iff.1 hjr).1 hN
                obtain ⟨e, e1, e2, e3⟩ := phO_on hO hons hjr (List.getElem?_eq_getElem hjl) hmem
                have := hcl j l[j] (by simp [hjl]) hj e e1 e2
                dsimp only at this
                rw [e3, show listed.getD i false = false from by simp [h1, hun']] at this; cases this
            · intro j hj
              rw [getD_set_ne false (by omega)]; exact hno j hj
          rw [← fr_take hB hN hx] at hst
          unfold wpOp
          simp only [ho]
          unfold wpList at hst
          split
          · rename_i hw
            rw [if_pos hw] at hst
            rcases hst with hst | ⟨_, hst⟩
            · left
              refine Oper.upon_both (fun a' w'' hh => ?_) (fun e a' w'' hne hh => ?_) hst
              · obtain ⟨_, v, rfl, hv⟩ := hh
                exact fin2 v w'' hv
              · exact absurd hh.1 hne
            · obtain ⟨a', w'', he, _⟩ := hst; cases he
          · rename_i hw
            rw [if_neg hw] at hst
            obtain ⟨_, v, he, hv⟩ := hst
            rw [he]
            exact fin2 v w' hv
  have hst := key l.toArray.size (Array.replicate l.length false) (x0 l.toArray t0) w.drew (by simp) (by simp) (hF.drew w) (fun i _ => rfl) (fun i r hr hi => by
    by_cases h : i < l.length <;> simp [h] at hi) (fun j o _ hj => by
    by_cases h : j < l.length <;> simp [h] at hj) (fun i _ => by
    by_cases h : i < l.length <;> simp [h])
  rw [show fr l.toArray ⟨t0, ds⟩ (x0 l.toArray t0) = ⟨t0, ds⟩ from by
    simp only [fr]; congr 1; exact frT_start _] at hst
  simpa using hst
end
end PR
end Go.Proofs.YtddghaoejnbkaaaDoor
