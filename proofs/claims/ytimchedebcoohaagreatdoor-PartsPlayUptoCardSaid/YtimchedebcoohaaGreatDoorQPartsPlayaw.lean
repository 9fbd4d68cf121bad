/- Contracts and lemmas for the proof of PartsPlay; each theorem states its own conditions. -/
import Derived.Test.YtimchedebcoohaaGreatDoorQPartsPlayav
set_option linter.unusedVariables false
set_option linter.unusedSimpArgs false
/- Contracts and lemmas for the proofs of this seat; each theorem states its own conditions. -/
namespace Go.Proofs.YtimchedebcoohaaGreatDoor
/-! orders of deeds, in plain lists -/
def evO (A : List Ops) (v : Vls) : List Nat → Vls
  | [] => v
  | i :: q => evO A (stepV v (A.getD i [])) q
def trO (A : List Ops) (v : Vls) : List Nat → List (Nat × Bool)
  | [] => []
  | i :: q => (i, okV v (A.getD i [])) :: trO A (stepV v (A.getD i [])) q
theorem evO_app (A : List Ops) (v : Vls) (p q : List Nat) : evO A v (p ++ q) = evO A (evO A v p) q := by
  induction p generalizing v with
  | nil => rfl
  | cons i p ih => exact ih _
theorem trO_app (A : List Ops) (v : Vls) (p q : List Nat) : trO A v (p ++ q) = trO A v p ++ trO A (evO A v p) q := by
  induction p generalizing v with
  | nil => rfl
  | cons i p ih => simp only [List.cons_append, trO, evO, ih]
theorem trO_fst (A : List Ops) (v : Vls) (q : List Nat) : (trO A v q).map (·.1) = q := by
  induction q generalizing v with
  | nil => rfl
  | cons i q ih => simp [trO, ih]
/-- every order in which what clashes stands as it did -/
def AdmO (A : List Ops) (ord : List Nat) : Prop := ∀ p s q, ord = p ++ s :: q → ∀ t, t < s → t ∉ p → clashB (A.getD t []) (A.getD s []) = false
/-- one goes behind those that it does not clash with -/
theorem move_end {A : List Ops} (hA : ∀ i, ∀ o ∈ A.getD i [], OpOk o) {m : Nat} : ∀ {q : List Nat} {v : Vls}, (∀ t ∈ q, clashB (A.getD t []) (A.getD m []) = false) →
    evO A v (m :: q) = evO A v (q ++ [m]) ∧ ∀ i b, (i, b) ∈ trO A v (m :: q) ↔ (i, b) ∈ trO A v (q ++ [m])
  | [], v, _ => ⟨rfl, fun _ _ => Iff.rfl⟩
  | t :: q, v, h => by
    have hc := h t (by simp)
    obtain ⟨b1, b2, b3⟩ := bernstein (hA t) (hA m) hc v
    obtain ⟨i1, i2⟩ := move_end hA (q := q) (v := stepV v (A.getD t [])) (fun u hu => h u (by simp [hu]))
    constructor
    · have : evO A v (m :: t :: q) = evO A (stepV v (A.getD t [])) (m :: q) := by
        simp only [evO]; rw [b1]
      rw [this, i1]; rfl
    · intro i b
      have e2 := i2 i b
      simp only [List.cons_append, trO, List.mem_cons] at e2 ⊢
      rw [b1] at e2
      rw [b2] at e2
      rw [b3, ← e2]
      constructor
      · rintro (a | a | a)
        · exact .inr (.inl a)
        · exact .inl a
        · exact .inr (.inr a)
      · rintro (a | a | a)
        · exact .inr (.inl a)
        · exact .inl a
        · exact .inr (.inr a)
theorem adm_ser {A : List Ops} (hA : ∀ i, ∀ o ∈ A.getD i [], OpOk o) : ∀ {n : Nat} {ord : List Nat} {v : Vls}, AdmO A ord → ord.Nodup → (∀ i, i ∈ ord ↔ i < n) →
    evO A v ord = evO A v (List.range n) ∧ ∀ i b, (i, b) ∈ trO A v ord ↔ (i, b) ∈ trO A v (List.range n)
  | 0, ord, v, _, _, h => by
    have : ord = [] := by
      cases ord with
      | nil => rfl
      | cons i q => have := (h i).1 (by simp); omega
    subst this
    exact ⟨rfl, fun _ _ => Iff.rfl⟩
  | n + 1, ord, v, ha, hn, h => by
    obtain ⟨p, q, rfl⟩ := List.append_of_mem ((h n).2 (by omega))
    have hn' := hn
    rw [List.nodup_append, List.nodup_cons] at hn
    obtain ⟨n1, ⟨n2, n3⟩, n4⟩ := hn
    have hnp : n ∉ p := fun hp => n4 n hp n (by simp) rfl
    have hq : ∀ t ∈ q, clashB (A.getD t []) (A.getD n []) = false := fun t ht => by
      have h1 := (h t).1 (by simp [ht])
      have hne : t ≠ n := fun e => n2 (e ▸ ht)
      exact ha p n q rfl t (by omega) (fun hp => n4 t hp t (by simp [ht]) rfl)
    obtain ⟨m1, m2⟩ := move_end hA (v := evO A v p) hq
    have hpq : AdmO A (p ++ q) := by
      intro p' s r e t hts ht
      rcases List.append_eq_append_iff.1 e with ⟨a, e1, e2⟩ | ⟨a, e1, e2⟩
      · -- p' = p ++ a, q = a ++ s :: r
        subst e1
        have hs := (h s).1 (by rw [e2]; simp)
        have hsn : s ≠ n := fun e => n2 (by rw [e2, ← e]; simp)
        refine ha (p ++ n :: a) s r (by rw [e2]; simp) t hts ?_
        simp only [List.mem_append, List.mem_cons] at ht ⊢
        rintro (x | x | x)
        · exact ht (.inl x)
        · omega
        · exact ht (.inr x)
      · -- p = p' ++ a, s :: r = a ++ q
        cases a with
        | nil =>
          simp at e1 e2
          subst e1
          have hs := (h s).1 (by rw [← e2]; simp)
          have hsn : s ≠ n := fun e => n2 (by rw [← e2, ← e]; simp)
          refine ha (p ++ [n]) s r (by rw [← e2]; simp) t hts ?_
          simp only [List.mem_append, List.mem_singleton]
          rintro (x | x)
          · exact ht x
          · omega
        | cons s' a =>
          simp at e2
          obtain ⟨rfl, rfl⟩ := e2
          exact ha p' s (a ++ n :: q) (by rw [e1]; simp) t hts ht
    have hnd : (p ++ q).Nodup := by
      rw [List.nodup_append]
      exact ⟨n1, n3, fun a hp b hb => n4 a hp b (by simp [hb])⟩
    have hmem : ∀ i, i ∈ p ++ q ↔ i < n := fun i => by
      have hi := h i
      simp only [List.mem_append, List.mem_cons] at hi ⊢
      constructor
      · intro hh
        have h1 : i < n + 1 := hi.1 (by rcases hh with x | x; exact .inl x; exact .inr (.inr x))
        have : i ≠ n := by rintro rfl; rcases hh with x | x; exact hnp x; exact n2 x
        omega
      · intro hh
        rcases hi.2 (by omega) with x | x | x
        · exact .inl x
        · omega
        · exact .inr x
    obtain ⟨i1, i2⟩ := adm_ser hA (v := v) hpq hnd hmem
    rw [List.range_succ]
    constructor
    · rw [evO_app, m1, ← evO_app, ← List.append_assoc, evO_app, i1, ← evO_app]
    · intro i b
      have e2 := m2 i b
      have e3 := i2 i b
      rw [trO_app, List.mem_append] at e2 e3
      rw [trO_app, trO_app, List.mem_append, List.mem_append, e2, ← e3, ← i1, evO_app]
      rw [or_assoc]
end Go.Proofs.YtimchedebcoohaaGreatDoor

/- Contracts and lemmas for the proofs of this seat; each theorem states its own conditions. -/
namespace Go.Proofs.YtimchedebcoohaaGreatDoor
/-! orders of deeds, on stores; where each stands; rounds -/
theorem nd_inj {l : List Nat} (h : l.Nodup) {i j : Nat} {hi : i < l.length} {hj : j < l.length} (e : l[i] = l[j]) : i = j := by
  rcases Nat.lt_trichotomy i j with k | k | k
  · exact absurd e (List.pairwise_iff_getElem.1 h i j hi hj k)
  · exact k
  · exact absurd e.symm (List.pairwise_iff_getElem.1 h j i hj hi k)
theorem getD_ok {A : List Ops} (h : ∀ d ∈ A, DeedOk d) (i : Nat) : ∀ o ∈ A.getD i [], OpOk o := by
  by_cases hi : i < A.length
  · have e : A.getD i [] = A[i] := by simp [hi]
    rw [e]; exact (h _ (List.getElem_mem hi)).ops
  · have e : A.getD i [] = [] := by simp [List.getD, List.getElem?_eq_none (Nat.le_of_not_lt hi)]
    rw [e]; intro o ho; cases ho
theorem ser_val {A : List Ops} (hA : ∀ d ∈ A, DeedOk d) : ∀ (ord : List Nat) {l : Prs}, StoreOk l → StoreOk (serS l (ord.map fun i => A.getD i [])) ∧ valP (serS l (ord.map fun i => A.getD i [])) = evO A (valP l) ord ∧ trO A (valP l) ord = ord.zip (serB l (ord.map fun i => A.getD i []))
  | [], l, h => ⟨h, rfl, rfl⟩
  | i :: ord, l, h => by
    obtain ⟨r1, r2, r3⟩ := run_val h (getD_ok hA i)
    obtain ⟨q1, q2, q3⟩ := ser_val hA ord r1
    refine ⟨q1, ?_, ?_⟩
    · show valP (serS (runS l (A.getD i [])) (ord.map fun i => A.getD i [])) = evO A (stepV (valP l) (A.getD i [])) ord
      rw [q2, r2]
    · show (i, okV (valP l) (A.getD i [])) :: trO A (stepV (valP l) (A.getD i [])) ord = _
      rw [← r2, q3, ← r3]; rfl
theorem map_range (A : List Ops) : (List.range A.length).map (fun i => A.getD i []) = A := by
  apply List.ext_getElem
  · simp
  · intro i h1 h2
    simp at h1
    simp [h1]
/-- any order that may be makes the same store, and tells each the same -/
theorem adm_same {A : List Ops} (hA : ∀ d ∈ A, DeedOk d) {l : Prs} (hl : StoreOk l) {ord : List Nat} (ha : AdmO A ord) (hn : ord.Nodup) (hm : ∀ i, i ∈ ord ↔ i < A.length) :
    serS l (ord.map fun i => A.getD i []) = serS l A ∧ ∀ j (h : j < ord.length), (serB l (ord.map fun i => A.getD i []))[j]? = (serB l A)[ord[j]]? := by
  obtain ⟨s1, s2, s3⟩ := ser_val hA ord hl
  obtain ⟨t1, t2, t3⟩ := ser_val hA (List.range A.length) hl
  rw [map_range] at t1 t2 t3
  obtain ⟨u1, u2⟩ := adm_ser (getD_ok hA) (v := valP l) ha hn hm
  refine ⟨store_ext s1 t1 fun x => by rw [s2, t2, u1], fun j hj => ?_⟩
  have hlen : j < (serB l (ord.map fun i => A.getD i [])).length := by rw [serB_len]; simpa using hj
  have hz : (ord[j], (serB l (ord.map fun i => A.getD i []))[j]) ∈ ord.zip (serB l (ord.map fun i => A.getD i [])) := by
    rw [List.mem_iff_getElem?]
    exact ⟨j, by rw [List.getElem?_zip_eq_some]; exact ⟨List.getElem?_eq_getElem hj, List.getElem?_eq_getElem hlen⟩⟩
  rw [← s3, u2, t3] at hz
  obtain ⟨m, hm'⟩ := List.mem_iff_getElem?.1 hz
  rw [List.getElem?_zip_eq_some] at hm'
  obtain ⟨m1, m2⟩ := hm'
  have hmr := (List.getElem?_eq_some_iff.1 m1)
  obtain ⟨h1, h2⟩ := hmr
  rw [List.getElem_range] at h2
  replace h2 : m = ord[j] := h2
  rw [List.getElem?_eq_getElem hlen, ← h2]; exact m2.symm
/-- where each stands, after j -/
def atL (n : Nat) (ord : List Nat) : Nat → List Int
  | 0 => List.replicate n (-1)
  | j + 1 => (atL n ord j).set (ord.getD j 0) j
theorem atL_len (n : Nat) (ord : List Nat) : ∀ j, (atL n ord j).length = n
  | 0 => by simp [atL]
  | j + 1 => by rw [atL, List.length_set, atL_len n ord j]
theorem atL_at {n : Nat} {ord : List Nat} (hn : ord.Nodup) : ∀ j, j ≤ ord.length → ∀ k, k < n → (k ∉ ord.take j → (atL n ord j)[k]? = some (-1)) ∧ ∀ i (h : i < ord.length), i < j → ord[i] = k → (atL n ord j)[k]? = some (i : Int)
  | 0, _, k, hk => ⟨fun _ => by simp [atL, hk], fun i h h0 => by omega⟩
  | j + 1, hj, k, hk => by
    obtain ⟨h1, h2⟩ := atL_at hn j (by omega) k hk
    have hjl : j < ord.length := by omega
    have e : ord.getD j 0 = ord[j] := by simp [hjl]
    rw [atL, e]
    refine ⟨fun hno => ?_, fun i hi hij hik => ?_⟩
    · rw [List.take_succ_eq_append_getElem hjl] at hno
      simp only [List.mem_append, List.mem_singleton, not_or] at hno
      rw [List.getElem?_set_ne (fun e => hno.2 e.symm)]
      exact h1 hno.1
    · by_cases e' : i = j
      · subst e'
        rw [hik, List.getElem?_set_self (by rw [atL_len]; exact hk)]
      · have hne : ord[j] ≠ k := fun e2 => e' (nd_inj hn (hik.trans e2.symm))
        rw [List.getElem?_set_ne hne]
        exact h2 i hi (by omega) hik
/-- does each that clashes stand as it did? -/
def ordB (A : List Ops) (at_ : List Int) (n : Nat) : Bool := (List.range n).all fun i => (List.range i).all fun k => !(clashB (A.getD k []) (A.getD i []) && decide (at_.getD i 0 < at_.getD k 0))
theorem ordB_iff {A : List Ops} {at_ : List Int} {n : Nat} : ordB A at_ n = true ↔ ∀ i < n, ∀ k < i, clashB (A.getD k []) (A.getD i []) = true → at_.getD k 0 ≤ at_.getD i 0 := by
  simp only [ordB, List.all_eq_true, List.mem_range, Bool.not_eq_true', Bool.and_eq_false_iff, decide_eq_false_iff_not, Int.not_lt]
  constructor
  · intro h i hi k hk hc
    rcases h i hi k hk with e | e
    · rw [hc] at e; cases e
    · exact e
  · intro h i hi k hk
    cases hc : clashB (A.getD k []) (A.getD i []) with
    | false => exact .inl rfl
    | true => exact .inr (h i hi k hk hc)
theorem at_pos {n : Nat} {ord : List Nat} (hn : ord.Nodup) {j : Nat} (hj : j < ord.length) (hl : ord[j] < n) : (atL n ord ord.length).getD ord[j] 0 = (j : Int) := by
  have := (atL_at hn ord.length (Nat.le_refl _) ord[j] hl).2 j hj hj rfl
  simp [List.getD, this]
theorem adm_ord {A : List Ops} {ord : List Nat} (hn : ord.Nodup) (hm : ∀ i, i ∈ ord ↔ i < A.length) : ordB A (atL A.length ord ord.length) A.length = true ↔ AdmO A ord := by
  rw [ordB_iff]
  constructor
  · intro h p s q e t hts htp
    subst e
    cases hc : clashB (A.getD t []) (A.getD s []) with
    | false => rfl
    | true =>
      exfalso
      have hs : s < A.length := (hm s).1 (by simp)
      have ht : t ∈ p ++ s :: q := (hm t).2 (by omega)
      have hle := h s hs t hts hc
      have hps : p.length < (p ++ s :: q).length := by simp
      have a1 := at_pos (n := A.length) hn hps (by simpa using hs)
      simp only [List.getElem_append_right (Nat.le_refl _), Nat.sub_self, List.getElem_cons_zero] at a1
      obtain ⟨i, hi, hit⟩ := List.mem_iff_getElem.1 ht
      have a2 := at_pos (n := A.length) hn hi (by rw [hit]; omega)
      rw [hit] at a2
      rw [a1, a2] at hle
      have hip : i ≤ p.length := by omega
      rcases Nat.lt_or_ge i p.length with h' | h'
      · rw [List.getElem_append_left h'] at hit
        exact htp (by rw [← hit]; exact List.getElem_mem h')
      · obtain rfl : i = p.length := by omega
        simp at hit
        omega
  · intro h i hi k hk hc
    obtain ⟨x, hx, hxi⟩ := List.mem_iff_getElem.1 ((hm i).2 hi)
    obtain ⟨y, hy, hyk⟩ := List.mem_iff_getElem.1 ((hm k).2 (by omega))
    have a1 := at_pos (n := A.length) hn hx (by omega)
    have a2 := at_pos (n := A.length) hn hy (by omega)
    rw [hxi] at a1; rw [hyk] at a2
    rw [a1, a2]
    have e : ord = ord.take x ++ i :: ord.drop (x + 1) := by
      rw [← hxi, ← List.drop_eq_getElem_cons hx, List.take_append_drop]
    by_cases hin : k ∈ ord.take x
    · obtain ⟨z, hz, hzk⟩ := List.mem_iff_getElem.1 hin
      rw [List.length_take] at hz
      rw [List.getElem_take] at hzk
      have : z = y := nd_inj hn (hzk.trans hyk.symm)
      omega
    · have := h _ _ _ e k hk hin
      rw [hc] at this; cases this
/-- the round of each, up to k -/
def rnd1 (A : List Ops) (R : List Nat) (i : Nat) : Nat → Nat
  | 0 => 0
  | k + 1 => if clashB (A.getD k []) (A.getD i []) = true then max (rnd1 A R i k) (R.getD k 0 + 1) else rnd1 A R i k
def rndTo (A : List Ops) : Nat → List Nat
  | 0 => []
  | n + 1 => rndTo A n ++ [rnd1 A (rndTo A n) n n]
theorem rndTo_len (A : List Ops) : ∀ n, (rndTo A n).length = n
  | 0 => rfl
  | n + 1 => by rw [rndTo, List.length_append, rndTo_len A n]; rfl
theorem rnd1_spec (A : List Ops) (R : List Nat) (i : Nat) : ∀ k, (rnd1 A R i k = 0 ∨ ∃ j < k, clashB (A.getD j []) (A.getD i []) = true ∧ rnd1 A R i k = R.getD j 0 + 1) ∧ ∀ j < k, clashB (A.getD j []) (A.getD i []) = true → R.getD j 0 + 1 ≤ rnd1 A R i k
  | 0 => ⟨.inl rfl, fun j h => by omega⟩
  | k + 1 => by
    obtain ⟨h1, h2⟩ := rnd1_spec A R i k
    simp only [rnd1]
    split
    · rename_i hc
      refine ⟨?_, fun j hj hcj => ?_⟩
      · rcases Nat.le_total (rnd1 A R i k) (R.getD k 0 + 1) with hm | hm
        · rw [Nat.max_eq_right hm]; exact .inr ⟨k, by omega, hc, rfl⟩
        · rw [Nat.max_eq_left hm]
          rcases h1 with h1 | ⟨j, hj, e1, e2⟩
          · exact .inl h1
          · exact .inr ⟨j, by omega, e1, e2⟩
      · by_cases e : j = k
        · subst e; omega
        · have := h2 j (by omega) hcj; omega
    · rename_i hc
      refine ⟨?_, fun j hj hcj => ?_⟩
      · rcases h1 with h1 | ⟨j, hj, e1, e2⟩
        · exact .inl h1
        · exact .inr ⟨j, by omega, e1, e2⟩
      · have : j ≠ k := by rintro rfl; exact hc hcj
        exact h2 j (by omega) hcj
def rnd (A : List Ops) (i : Nat) : Nat := rnd1 A (rndTo A i) i i
theorem rndTo_at (A : List Ops) : ∀ n k, k < n → (rndTo A n).getD k 0 = rnd A k
  | 0, k, h => by omega
  | n + 1, k, h => by
    rw [rndTo]
    by_cases e : k < n
    · rw [getD_app (by rw [rndTo_len]; exact e), rndTo_at A n k e]
    · obtain rfl : k = n := by omega
      simp [List.getD, List.getElem?_append_right, rndTo_len, rnd]
theorem rnd_spec (A : List Ops) (i : Nat) : (rnd A i = 0 ∨ ∃ j < i, clashB (A.getD j []) (A.getD i []) = true ∧ rnd A i = rnd A j + 1) ∧ ∀ j < i, clashB (A.getD j []) (A.getD i []) = true → rnd A j < rnd A i := by
  obtain ⟨h1, h2⟩ := rnd1_spec A (rndTo A i) i i
  refine ⟨?_, fun j hj hc => ?_⟩
  · rcases h1 with h1 | ⟨j, hj, e1, e2⟩
    · exact .inl h1
    · rw [rndTo_at A i j hj] at e2; exact .inr ⟨j, hj, e1, e2⟩
  · have := h2 j hj hc
    rw [rndTo_at A i j hj] at this; exact this
theorem rnd_le (A : List Ops) (i : Nat) : rnd A i ≤ i := by
  induction i using Nat.strongRecOn with
  | _ i ih =>
    rcases (rnd_spec A i).1 with h | ⟨j, hj, _, e⟩
    · omega
    · have := ih j hj; omega
/-- those of round r, of the first m -/
def ofR (A : List Ops) (r m : Nat) : List Nat := (List.range m).filter fun i => decide (rnd A i = r)
theorem ofR_succ (A : List Ops) (r m : Nat) : ofR A r (m + 1) = ofR A r m ++ if rnd A m = r then [m] else [] := by
  unfold ofR
  rw [List.range_succ, List.filter_append]
  congr 1
  simp only [List.filter_cons, List.filter_nil, decide_eq_true_eq]
theorem ofR_mem {A : List Ops} {r m i : Nat} : i ∈ ofR A r m ↔ i < m ∧ rnd A i = r := by simp [ofR]
/-- round by round -/
def byR (A : List Ops) (n : Nat) : Nat → List Nat
  | 0 => []
  | r + 1 => byR A n r ++ ofR A r n
theorem byR_mem {A : List Ops} {n i : Nat} : ∀ {r : Nat}, i ∈ byR A n r ↔ i < n ∧ rnd A i < r
  | 0 => by simp [byR]
  | r + 1 => by rw [byR, List.mem_append, byR_mem, ofR_mem]; omega
theorem byR_nodup (A : List Ops) (n : Nat) : ∀ r, (byR A n r).Nodup
  | 0 => List.nodup_nil
  | r + 1 => by
    rw [byR, List.nodup_append]
    refine ⟨byR_nodup A n r, List.Pairwise.filter _ List.nodup_range, fun a ha b hb e => ?_⟩
    subst e
    have h1 := (byR_mem.1 ha).2
    have h2 := (ofR_mem.1 hb).2
    omega
theorem ofR_len (A : List Ops) (r m : Nat) : (ofR A r m).length ≤ m := by
  have := List.length_filter_le (fun i => decide (rnd A i = r)) (List.range m)
  simpa [ofR] using this
theorem byR_len (A : List Ops) (n : Nat) : ∀ r, (byR A n r).length ≤ n * r
  | 0 => by simp [byR]
  | r + 1 => by
    have := byR_len A n r
    have h2 := ofR_len A r n
    rw [byR, List.length_append, Nat.mul_succ]; omega
theorem byR_adm (A : List Ops) (n : Nat) : ∀ r, ∀ p s q, byR A n r = p ++ s :: q → ∀ t, t < s → t ∉ p → clashB (A.getD t []) (A.getD s []) = false
  | 0, p, s, q, e, t, _, _ => by simp [byR] at e
  | r + 1, p, s, q, e, t, hts, htp => by
    rw [byR] at e
    rcases List.append_eq_append_iff.1 e with ⟨a, e1, e2⟩ | ⟨a, e1, e2⟩
    · -- p = byR ++ a: s is of round r
      subst e1
      have hs := ofR_mem.1 (show s ∈ ofR A r n by rw [e2]; simp)
      cases hc : clashB (A.getD t []) (A.getD s []) with
      | false => rfl
      | true =>
        exfalso
        have := (rnd_spec A s).2 t hts hc
        exact htp (List.mem_append_left _ (byR_mem.2 ⟨by omega, by omega⟩))
    · cases a with
      | nil =>
        simp at e1 e2
        have hs := ofR_mem.1 (show s ∈ ofR A r n by rw [← e2]; simp)
        cases hc : clashB (A.getD t []) (A.getD s []) with
        | false => rfl
        | true =>
          exfalso
          have := (rnd_spec A s).2 t hts hc
          exact htp (by rw [← e1]; exact byR_mem.2 ⟨by omega, by omega⟩)
      | cons s' a =>
        simp at e2
        obtain ⟨rfl, _⟩ := e2
        exact byR_adm A n r p s a e1 t hts htp
theorem byR_adm' (A : List Ops) : AdmO A (byR A A.length A.length) := byR_adm A A.length A.length
theorem byR_all (A : List Ops) (i : Nat) : i ∈ byR A A.length A.length ↔ i < A.length := by
  rw [byR_mem]
  have := rnd_le A i
  omega
/-- as many as there are -/
theorem perm_len {ord : List Nat} (hn : ord.Nodup) {n : Nat} (hm : ∀ i, i ∈ ord ↔ i < n) : ord.length = n := by
  have h1 : ord.Perm (List.range n) := (List.perm_ext_iff_of_nodup hn List.nodup_range).2 fun a => by rw [hm, List.mem_range]
  simpa using h1.length_eq
end Go.Proofs.YtimchedebcoohaaGreatDoor
