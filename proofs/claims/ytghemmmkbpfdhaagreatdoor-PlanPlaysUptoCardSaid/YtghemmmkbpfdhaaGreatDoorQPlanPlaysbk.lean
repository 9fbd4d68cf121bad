/- Contracts and lemmas for the proof of PlanPlays; each theorem states its own conditions. -/
import Derived.Test.YtghemmmkbpfdhaaGreatDoorQPlanPlaysbg
import Derived.Test.YtghemmmkbpfdhaaGreatDoorQPlanPlaysac
import Derived.Test.YtghemmmkbpfdhaaGreatDoorQPlanPlaysbh
import Derived.Test.YtghemmmkbpfdhaaGreatDoorQPlanPlaysar
import Derived.Test.YtghemmmkbpfdhaaGreatDoorQPlanPlaysbf
import Derived.Test.YtghemmmkbpfdhaaGreatDoorQPlanPlaysbi
import Derived.Test.YtghemmmkbpfdhaaGreatDoorQPlanPlaysbj
set_option linter.unusedVariables false
set_option linter.unusedSimpArgs false
/- Contracts and lemmas for the proofs of this seat; each theorem states its own conditions. -/
namespace Go.Proofs.YtghemmmkbpfdhaaGreatDoor
open Go.RowKit
/-! deed.meet, deed.Clash -/
theorem conS_mem (L : List ByteArray) (x : ByteArray) : conS L x = memB L x := rfl
theorem meets_any (a b : List ByteArray) : a.any (fun k => conS b k) = meets a b := by
  rfl
theorem clash_sort (a b : Ops) : (meets (sortU (wrs a)) (sortU (wrs b)) || meets (sortU (wrs a)) (sortU (rds b)) || meets (sortU (rds a)) (sortU (wrs b))) = clashB a b := by
  unfold clashB
  rw [meets_congr (sortU_mem (wrs a)) (sortU_mem (wrs b)), meets_congr (sortU_mem (wrs a)) (sortU_mem (rds b)), meets_congr (sortU_mem (rds a)) (sortU_mem (wrs b))]
end Go.Proofs.YtghemmmkbpfdhaaGreatDoor

/- Contracts and lemmas for the proofs of this seat; each theorem states its own conditions. -/
namespace Go.Proofs.YtghemmmkbpfdhaaGreatDoor
open Go.RowKit
/-! deeds in a row, opened; parts of them -/
theorem SegDs.form {w : World} {v : Value} {D : List Ops} (h : SegDs w v D) : ∃ a c, v = .slice a D.length c ∧ D.length ≤ c ∧ c ≤ maxLen ∧
    (0 < D.length → ∃ b off, a = some ⟨b, off, none⟩ ∧ ∀ (j : Nat) (d : Ops), D[j]? = some d → ∃ au cu, w.cell? ⟨b, off + j, none⟩ = some (.slice au d.length cu) ∧ Seg w (.slice au d.length cu) 4 d.length (cO d)) := by
  obtain ⟨vs, h1, ⟨_, a, c, rfl, h2, h3, h4⟩, h5⟩ := h
  refine ⟨a, c, by rw [h1], by omega, h3, fun h0 => ?_⟩
  obtain ⟨b, off, rfl, h6⟩ := h4 (by omega)
  refine ⟨b, off, rfl, fun j d hd => ?_⟩
  have hj := (List.getElem?_eq_some_iff.1 hd).1
  have hs := h5 j (vs[j]'(by omega)) d (List.getElem?_eq_getElem _) hd
  obtain ⟨au, cu, e⟩ := seg_form hs
  have hc := h6 j (vs[j]'(by omega)) (List.getElem?_eq_getElem _)
  rw [e] at hs hc
  exact ⟨au, cu, hc, hs⟩
theorem SegDs.mk' {w : World} {b off c : Nat} {D : List Ops} (hc : D.length ≤ c) (hm : c ≤ maxLen) (h : ∀ (j : Nat) (d : Ops), D[j]? = some d → ∃ au cu, w.cell? ⟨b, off + j, none⟩ = some (.slice au d.length cu) ∧ Seg w (.slice au d.length cu) 4 d.length (cO d)) : SegDs w (.slice (some ⟨b, off, none⟩) D.length c) D := by
  have each : ∀ j, j < D.length → ∃ u : Value, w.cell? ⟨b, off + j, none⟩ = some u ∧ Seg w u 4 (D.getD j []).length (cO (D.getD j [])) := fun j hj => by
    obtain ⟨au, cu, h1, h2⟩ := h j D[j] (List.getElem?_eq_getElem hj)
    refine ⟨_, h1, ?_⟩
    simp [hj]; exact h2
  have : ∃ f : Nat → Value, ∀ j, j < D.length → w.cell? ⟨b, off + j, none⟩ = some (f j) ∧ Seg w (f j) 4 (D.getD j []).length (cO (D.getD j [])) := by
    refine ⟨fun j => if hj : j < D.length then Classical.choose (each j hj) else .bool false, fun j hj => ?_⟩
    simp only [hj, dif_pos]
    exact Classical.choose_spec (each j hj)
  obtain ⟨f, hf⟩ := this
  refine ⟨(List.range D.length).map f, by simp, ⟨by simp, some ⟨b, off, none⟩, c, by simp, by simpa using hc, hm, fun _ => ⟨b, off, rfl, fun j u hu => ?_⟩⟩, fun i u d hu hd => ?_⟩
  · obtain ⟨hj, e⟩ := List.getElem?_eq_some_iff.1 hu
    simp at hj e
    subst e
    exact (hf j hj).1
  · obtain ⟨hj, e⟩ := List.getElem?_eq_some_iff.1 hu
    obtain ⟨hj', e'⟩ := List.getElem?_eq_some_iff.1 hd
    simp at hj e
    subst e; subst e'
    have := (hf i hj).2
    simpa [hj'] using this
theorem SegDs.take {w : World} {b off c k : Nat} {D : List Ops} (h : SegDs w (.slice (some ⟨b, off, none⟩) D.length c) D) (hk : k ≤ D.length) : SegDs w (.slice (some ⟨b, off, none⟩) k c) (D.take k) := by
  obtain ⟨a', c', e, h1, h2, h3⟩ := h.form
  injection e with e1 e2 e3
  subst e1; subst e3
  have hl : (D.take k).length = k := by rw [List.length_take]; omega
  have := SegDs.mk' (w := w) (b := b) (off := off) (c := c) (D := D.take k) (by omega) h2 (fun j d hd => by
    have hj := (List.getElem?_eq_some_iff.1 hd).1
    rw [List.getElem?_take, if_pos (by omega)] at hd
    obtain ⟨b', off', e, h4⟩ := h3 (by omega)
    injection e with e; injection e with e1 e2
    subst e1; subst e2
    exact h4 j d hd)
  rwa [hl] at this
theorem SegDs.drop {w : World} {b off c k : Nat} {D : List Ops} (h : SegDs w (.slice (some ⟨b, off, none⟩) D.length c) D) (hk : k ≤ D.length) : SegDs w (.slice (some ⟨b, off + k, none⟩) (D.length - k) (c - k)) (D.drop k) := by
  obtain ⟨a', c', e, h1, h2, h3⟩ := h.form
  injection e with e1 e2 e3
  subst e1; subst e3
  have hl : (D.drop k).length = D.length - k := by rw [List.length_drop]
  have := SegDs.mk' (w := w) (b := b) (off := off + k) (c := c - k) (D := D.drop k) (by omega) (by omega) (fun j d hd => by
    have hj := (List.getElem?_eq_some_iff.1 hd).1
    rw [List.getElem?_drop] at hd
    obtain ⟨b', off', e, h4⟩ := h3 (by omega)
    injection e with e; injection e with e1 e2
    subst e1; subst e2
    rw [Nat.add_assoc]
    exact h4 (k + j) d hd)
  rwa [hl] at this
theorem SegDs.nil (w : World) (a : Option Addr) (c : Nat) (hc : c ≤ maxLen) : SegDs w (.slice a 0 c) [] := ⟨[], rfl, ⟨rfl, a, c, rfl, Nat.zero_le _, hc, fun h => absurd h (by simp)⟩, fun i u d h => by simp at h⟩
theorem one_slice (a a' : Option Addr) (n c n' c' : Nat) : ∀ u ∈ [Value.slice a n c, .slice a' n' c'], u.oneCell' = true := by
  intro u hu; simp at hu; rcases hu with rfl | rfl <;> rfl
theorem seg_2 {w : World} {b : Nat} {u v : Value} {t : TypeId} (h : w.heap[b]? = some (.cells #[u, v] t (0, 0))) : Seg w (.slice (some ⟨b, 0, none⟩) 2 2) 1 2 [u, v] :=
  seg_blk (xs := [u, v]) h rfl (Nat.le_refl _) (by simp [maxLen])
end Go.Proofs.YtghemmmkbpfdhaaGreatDoor

/- Contracts and lemmas for the proofs of this seat; each theorem states its own conditions. -/
namespace Go.Proofs.YtghemmmkbpfdhaaGreatDoor
open Go.RowKit Go.Maps
/-! rokeep.lockBegun -/
theorem lnew_ok (w : World) : Calls Tryz.prog 65 #[] w fun e w' => ∃ bt bk bd, e = .returned (.pointer (some ⟨bt, 0, none⟩)) ∧ LockSt w' w.heap.size bt bk bd [] (fun _ => false) (fun _ => none) (fun _ => none) ∧ Ext w w' := by
  refine (lnew_any w).mono ?_
  rintro e w' ⟨rfl, h, E⟩
  exact ⟨_, _, _, rfl, h, E⟩
def setA : Ops := [⟨1, ⟨#[97]⟩, ⟨#[]⟩, 0⟩]
theorem setA_ok : deedE setA = 0 := by decide +kernel
theorem ready_one (d : Ops) : readyL [d] (fun _ => false) 1 = [0] := by
  have h := ready_succ [d] (fun _ => false) 0
  have m : mayB [d] (fun _ => false) 0 = true := by simp [mayB]
  rw [m] at h
  have z : readyL [d] (fun _ => false) 0 = [] := by simp [readyL]
  rw [z] at h
  simpa using h
theorem cN_cI (l : List Nat) : cN l = cI (l.map fun (n : Nat) => (n : Int)) := by simp [cN, cI]
end Go.Proofs.YtghemmmkbpfdhaaGreatDoor

/- Contracts and lemmas for the proofs of this seat; each theorem states its own conditions. -/
namespace Go.Proofs.YtghemmmkbpfdhaaGreatDoor
/-! orders of deeds, in plain lists -/
def evO (A : List Ops) (v : Vls) : List Nat → Vls
  | [] => v
  | i :: q => evO A (stepV v (A.getD i [])) q
def trO (A : List Ops) (v : Vls) : List Nat → List (Nat × Bool)
  | [] => []
  | i :: q => (i, okV v (A.getD i [])) :: trO A (stepV v (A.getD i [])) q
theorem evO_app (A : List Ops) (v : Vls) (p q : List Nat) : evO A v (p ++ q) = evO A (evO A v p) q := by
  induction p generalizing v with
  | nil => rfl
  | cons i p ih => exact ih _
theorem trO_app (A : List Ops) (v : Vls) (p q : List Nat) : trO A v (p ++ q) = trO A v p ++ trO A (evO A v p) q := by
  induction p generalizing v with
  | nil => rfl
  | cons i p ih => simp only [List.cons_append, trO, evO, ih]
theorem trO_fst (A : List Ops) (v : Vls) (q : List Nat) : (trO A v q).map (·.1) = q := by
  induction q generalizing v with
  | nil => rfl
  | cons i q ih => simp [trO, ih]
/-- every order in which what clashes stands as it did -/
def AdmO (A : List Ops) (ord : List Nat) : Prop := ∀ p s q, ord = p ++ s :: q → ∀ t, t < s → t ∉ p → clashB (A.getD t []) (A.getD s []) = false
/-- one goes behind those that it does not clash with -/
theorem move_end {A : List Ops} (hA : ∀ i, ∀ o ∈ A.getD i [], OpOk o) {m : Nat} : ∀ {q : List Nat} {v : Vls}, (∀ t ∈ q, clashB (A.getD t []) (A.getD m []) = false) →
    evO A v (m :: q) = evO A v (q ++ [m]) ∧ ∀ i b, (i, b) ∈ trO A v (m :: q) ↔ (i, b) ∈ trO A v (q ++ [m])
  | [], v, _ => ⟨rfl, fun _ _ => Iff.rfl⟩
  | t :: q, v, h => by
    have hc := h t (by simp)
    obtain ⟨b1, b2, b3⟩ := bernstein (hA t) (hA m) hc v
    obtain ⟨i1, i2⟩ := move_end hA (q := q) (v := stepV v (A.getD t [])) (fun u hu => h u (by simp [hu]))
    constructor
    · have : evO A v (m :: t :: q) = evO A (stepV v (A.getD t [])) (m :: q) := by
        simp only [evO]; rw [b1]
      rw [this, i1]; rfl
    · intro i b
      have e2 := i2 i b
      simp only [List.cons_append, trO, List.mem_cons] at e2 ⊢
      rw [b1] at e2
      rw [b2] at e2
      rw [b3, ← e2]
      constructor
      · rintro (a | a | a)
        · exact .inr (.inl a)
        · exact .inl a
        · exact .inr (.inr a)
      · rintro (a | a | a)
        · exact .inr (.inl a)
        · exact .inl a
        · exact .inr (.inr a)
theorem adm_ser {A : List Ops} (hA : ∀ i, ∀ o ∈ A.getD i [], OpOk o) : ∀ {n : Nat} {ord : List Nat} {v : Vls}, AdmO A ord → ord.Nodup → (∀ i, i ∈ ord ↔ i < n) →
    evO A v ord = evO A v (List.range n) ∧ ∀ i b, (i, b) ∈ trO A v ord ↔ (i, b) ∈ trO A v (List.range n)
  | 0, ord, v, _, _, h => by
    have : ord = [] := by
      cases ord with
      | nil => rfl
      | cons i q => have := (h i).1 (by simp); omega
    subst this
    exact ⟨rfl, fun _ _ => Iff.rfl⟩
  | n + 1, ord, v, ha, hn, h => by
    obtain ⟨p, q, rfl⟩ := List.append_of_mem ((h n).2 (by omega))
    have hn' := hn
    rw [List.nodup_append, List.nodup_cons] at hn
    obtain ⟨n1, ⟨n2, n3⟩, n4⟩ := hn
    have hnp : n ∉ p := fun hp => n4 n hp n (by simp) rfl
    have hq : ∀ t ∈ q, clashB (A.getD t []) (A.getD n []) = false := fun t ht => by
      have h1 := (h t).1 (by simp [ht])
      have hne : t ≠ n := fun e => n2 (e ▸ ht)
      exact ha p n q rfl t (by omega) (fun hp => n4 t hp t (by simp [ht]) rfl)
    obtain ⟨m1, m2⟩ := move_end hA (v := evO A v p) hq
    have hpq : AdmO A (p ++ q) := by
      intro p' s r e t hts ht
      rcases List.append_eq_append_iff.1 e with ⟨a, e1, e2⟩ | ⟨a, e1, e2⟩
      · -- p' = p ++ a, q = a ++ s :: r
        subst e1
        have hs := (h s).1 (by rw [e2]; simp)
        have hsn : s ≠ n := fun e => n2 (by rw [e2, ← e]; simp)
        refine ha (p ++ n :: a) s r (by rw [e2]; simp) t hts ?_
        simp only [List.mem_append, List.mem_cons] at ht ⊢
        rintro (x | x | x)
        · exact ht (.inl x)
        · omega
        · exact ht (.inr x)
      · -- p = p' ++ a, s :: r = a ++ q
        cases a with
        | nil =>
          simp at e1 e2
          subst e1
          have hs := (h s).1 (by rw [← e2]; simp)
          have hsn : s ≠ n := fun e => n2 (by rw [← e2, ← e]; simp)
          refine ha (p ++ [n]) s r (by rw [← e2]; simp) t hts ?_
          simp only [List.mem_append, List.mem_singleton]
          rintro (x | x)
          · exact ht x
          · omega
        | cons s' a =>
          simp at e2
          obtain ⟨rfl, rfl⟩ := e2
          exact ha p' s (a ++ n :: q) (by rw [e1]; simp) t hts ht
    have hnd : (p ++ q).Nodup := by
      rw [List.nodup_append]
      exact ⟨n1, n3, fun a hp b hb => n4 a hp b (by simp [hb])⟩
    have hmem : ∀ i, i ∈ p ++ q ↔ i < n := fun i => by
      have hi := h i
      simp only [List.mem_append, List.mem_cons] at hi ⊢
      constructor
      · intro hh
        have h1 : i < n + 1 := hi.1 (by rcases hh with x | x; exact .inl x; exact .inr (.inr x))
        have : i ≠ n := by rintro rfl; rcases hh with x | x; exact hnp x; exact n2 x
        omega
      · intro hh
        rcases hi.2 (by omega) with x | x | x
        · exact .inl x
        · omega
        · exact .inr x
    obtain ⟨i1, i2⟩ := adm_ser hA (v := v) hpq hnd hmem
    rw [List.range_succ]
    constructor
    · rw [evO_app, m1, ← evO_app, ← List.append_assoc, evO_app, i1, ← evO_app]
    · intro i b
      have e2 := m2 i b
      have e3 := i2 i b
      rw [trO_app, List.mem_append] at e2 e3
      rw [trO_app, trO_app, List.mem_append, List.mem_append, e2, ← e3, ← i1, evO_app]
      rw [or_assoc]
end Go.Proofs.YtghemmmkbpfdhaaGreatDoor
