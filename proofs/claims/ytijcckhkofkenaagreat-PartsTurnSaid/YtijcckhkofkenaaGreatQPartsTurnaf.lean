/- Contracts and lemmas for the proof of PartsTurn; each theorem states its own conditions. -/
import Derived.Test.YtijcckhkofkenaaGreatQPartsTurnae
set_option linter.unusedVariables false
set_option linter.unusedSimpArgs false
/- Contracts and lemmas for the proofs of this seat; each theorem states its own conditions. -/
namespace Go.Proofs.YtijcckhkofkenaaGreat
/-! orders of deeds, in plain lists -/
def evO (A : List Ops) (v : Vls) : List Nat → Vls
  | [] => v
  | i :: q => evO A (stepV v (A.getD i [])) q
def trO (A : List Ops) (v : Vls) : List Nat → List (Nat × Bool)
  | [] => []
  | i :: q => (i, okV v (A.getD i [])) :: trO A (stepV v (A.getD i [])) q
theorem evO_app (A : List Ops) (v : Vls) (p q : List Nat) : evO A v (p ++ q) = evO A (evO A v p) q := by
  induction p generalizing v with
  | nil => rfl
  | cons i p ih => exact ih _
theorem trO_app (A : List Ops) (v : Vls) (p q : List Nat) : trO A v (p ++ q) = trO A v p ++ trO A (evO A v p) q := by
  induction p generalizing v with
  | nil => rfl
  | cons i p ih => simp only [List.cons_append, trO, evO, ih]
theorem trO_fst (A : List Ops) (v : Vls) (q : List Nat) : (trO A v q).map (·.1) = q := by
  induction q generalizing v with
  | nil => rfl
  | cons i q ih => simp [trO, ih]
/-- every order in which what clashes stands as it did -/
def AdmO (A : List Ops) (ord : List Nat) : Prop := ∀ p s q, ord = p ++ s :: q → ∀ t, t < s → t ∉ p → clashB (A.getD t []) (A.getD s []) = false
/-- one goes behind those that it does not clash with -/
theorem move_end {A : List Ops} (hA : ∀ i, ∀ o ∈ A.getD i [], OpOk o) {m : Nat} : ∀ {q : List Nat} {v : Vls}, (∀ t ∈ q, clashB (A.getD t []) (A.getD m []) = false) →
    evO A v (m :: q) = evO A v (q ++ [m]) ∧ ∀ i b, (i, b) ∈ trO A v (m :: q) ↔ (i, b) ∈ trO A v (q ++ [m])
  | [], v, _ => ⟨rfl, fun _ _ => Iff.rfl⟩
  | t :: q, v, h => by
    have hc := h t (by simp)
    obtain ⟨b1, b2, b3⟩ := bernstein (hA t) (hA m) hc v
    obtain ⟨i1, i2⟩ := move_end hA (q := q) (v := stepV v (A.getD t [])) (fun u hu => h u (by simp [hu]))
    constructor
    · have : evO A v (m :: t :: q) = evO A (stepV v (A.getD t [])) (m :: q) := by
        simp only [evO]; rw [b1]
      rw [this, i1]; rfl
    · intro i b
      have e2 := i2 i b
      simp only [List.cons_append, trO, List.mem_cons] at e2 ⊢
      rw [b1] at e2
      rw [b2] at e2
      rw [b3, ← e2]
      constructor
      · rintro (a | a | a)
        · exact .inr (.inl a)
        · exact .inl a
        · exact .inr (.inr a)
      · rintro (a | a | a)
        · exact .inr (.inl a)
        · exact .inl a
        · exact .inr (.inr a)
theorem adm_ser {A : List Ops} (hA : ∀ i, ∀ o ∈ A.getD i [], OpOk o) : ∀ {n : Nat} {ord : List Nat} {v : Vls}, AdmO A ord → ord.Nodup → (∀ i, i ∈ ord ↔ i < n) →
    evO A v ord = evO A v (List.range n) ∧ ∀ i b, (i, b) ∈ trO A v ord ↔ (i, b) ∈ trO A v (List.range n)
  | 0, ord, v, _, _, h => by
    have : ord = [] := by
      cases ord with
      | nil => rfl
      | cons i q => have := (h i).1 (by simp); omega
    subst this
    exact ⟨rfl, fun _ _ => Iff.rfl⟩
  | n + 1, ord, v, ha, hn, h => by
    obtain ⟨p, q, rfl⟩ := List.append_of_mem ((h n).2 (by omega))
    have hn' := hn
    rw [List.nodup_append, List.nodup_cons] at hn
    obtain ⟨n1, ⟨n2, n3⟩, n4⟩ := hn
    have hnp : n ∉ p := fun hp => n4 n hp n (by simp) rfl
    have hq : ∀ t ∈ q, clashB (A.getD t []) (A.getD n []) = false := fun t ht => by
      have h1 := (h t).1 (by simp [ht])
      have hne : t ≠ n := fun e => n2 (e ▸ ht)
      exact ha p n q rfl t (by omega) (fun hp => n4 t hp t (by simp [ht]) rfl)
    obtain ⟨m1, m2⟩ := move_end hA (v := evO A v p) hq
    have hpq : AdmO A (p ++ q) := by
      intro p' s r e t hts ht
      rcases List.append_eq_append_iff.1 e with ⟨a, e1, e2⟩ | ⟨a, e1, e2⟩
      · -- p' = p ++ a, q = a ++ s :: r
        subst e1
        have hs := (h s).1 (by rw [e2]; simp)
        have hsn : s ≠ n := fun e => n2 (by rw [e2, ← e]; simp)
        refine ha (p ++ n :: a) s r (by rw [e2]; simp) t hts ?_
        simp only [List.mem_append, List.mem_cons] at ht ⊢
        rintro (x | x | x)
        · exact ht (.inl x)
        · omega
        · exact ht (.inr x)
      · -- p = p' ++ a, s :: r = a ++ q
        cases a with
        | nil =>
          simp at e1 e2
          subst e1
          have hs := (h s).1 (by rw [← e2]; simp)
          have hsn : s ≠ n := fun e => n2 (by rw [← e2, ← e]; simp)
          refine ha (p ++ [n]) s r (by rw [← e2]; simp) t hts ?_
          simp only [List.mem_append, List.mem_singleton]
          rintro (x | x)
          · exact ht x
          · omega
        | cons s' a =>
          simp at e2
          obtain ⟨rfl, rfl⟩ := e2
          exact ha p' s (a ++ n :: q) (by rw [e1]; simp) t hts ht
    have hnd : (p ++ q).Nodup := by
      rw [List.nodup_append]
      exact ⟨n1, n3, fun a hp b hb => n4 a hp b (by simp [hb])⟩
    have hmem : ∀ i, i ∈ p ++ q ↔ i < n := fun i => by
      have hi := h i
      simp only [List.mem_append, List.mem_cons] at hi ⊢
      constructor
      · intro hh
        have h1 : i < n + 1 := hi.1 (by rcases hh with x | x; exact .inl x; exact .inr (.inr x))
        have : i ≠ n := by rintro rfl; rcases hh with x | x; exact hnp x; exact n2 x
        omega
      · intro hh
        rcases hi.2 (by omega) with x | x | x
        · exact .inl x
        · omega
        · exact .inr x
    obtain ⟨i1, i2⟩ := adm_ser hA (v := v) hpq hnd hmem
    rw [List.range_succ]
    constructor
    · rw [evO_app, m1, ← evO_app, ← List.append_assoc, evO_app, i1, ← evO_app]
    · intro i b
      have e2 := m2 i b
      have e3 := i2 i b
      rw [trO_app, List.mem_append] at e2 e3
      rw [trO_app, trO_app, List.mem_append, List.mem_append, e2, ← e3, ← i1, evO_app]
      rw [or_assoc]
end Go.Proofs.YtijcckhkofkenaaGreat
