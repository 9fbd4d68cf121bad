/- Contracts and lemmas for the proof of TextLog; each theorem states its own conditions. -/
import Derived.Test.YtnepdfpooobmcaaDoorQTextLogbo
import Derived.Test.YtnepdfpooobmcaaDoorQTextLogbq
import Derived.Test.YtnepdfpooobmcaaDoorQTextLogao
set_option linter.unusedVariables false
set_option linter.unusedSimpArgs false
/- Contracts and lemmas for the proofs of this seat; each theorem states its own conditions. -/
namespace Go.Proofs.YtnepdfpooobmcaaDoor
open Go.RowKit
/-! a log told as text -/
/-- an entry that is told as text -/
structure EntL (x : Ent) : Prop where
  sz : EntSz x
  ok : entE x = 0
  n : ∀ o ∈ x.ops, -9223372036854775808 ≤ o.n ∧ o.n ≤ 9223372036854775807
theorem entsTo_l {D : List Ops} (hD : ∀ d ∈ D, DeedG d) (ms : List (List Int)) : ∀ {k : Nat}, k ≤ D.length → ∀ x ∈ entsTo D ms k, EntL x
  | 0, _, x, hx => by simp [entsTo] at hx
  | k + 1, hk, x, hx => by
    rw [entsTo] at hx
    rcases List.mem_append.1 hx with a | a
    · exact entsTo_l hD ms (by omega) x a
    · rcases List.mem_cons.1 a with rfl | a
      · rw [getD_lt (show k < D.length by omega)]
        have g := hD _ (List.getElem_mem (show k < D.length by omega))
        refine ⟨⟨opsSm_ok g.ok g.sm, by simp⟩, ?_, fun o ho => ?_⟩
        · unfold entE; rw [if_neg (by simp)]; exact deedE_ok g.ok
        · have := (g.ops o ho).n0; have := (g.ops o ho).n8; omega
      · split at a
        · simp at a; subst a
          have m := mk_ok (ms.getD k [])
          refine ⟨⟨fun o ho => by simp at ho, mk_small _⟩, ?_, fun o ho => by simp at ho⟩
          unfold entE; rw [if_pos rfl]; exact mapErr_ok m
        · simp at a
theorem entT_size {x : Ent} (h : EntL x) : (entT x).length ≤ 427 := by
  have hb : (bodyT x).length ≤ 404 := by
    by_cases hi : x.im = true
    · rw [bodyT_map hi]
      have h0 := h.ok
      rw [entE, if_pos hi] at h0
      have := mapT_len (ok_of_mapErr h0)
      simp [mapW]; omega
    · rw [bodyT_deed hi]
      have h0 := h.ok
      rw [entE, if_neg hi] at h0
      have := dT_len (deed_ok h0) h.n
      omega
  have := itoa_len21 (n := (sbL (bodyT x) : Int)) (by omega) (by have := sbL_lt (bodyT x); omega)
  simp [entT, lineT]; omega
/-- the text of the first i -/
def logS (X : List Ent) (i : Nat) : ByteArray := bA (logT (X.take i))
theorem logS_zero (X : List Ent) : logS X 0 = ⟨#[]⟩ := rfl
theorem logS_all (X : List Ent) : logS X X.length = bA (logT X) := by unfold logS; rw [List.take_length]
theorem logS_succ {X : List Ent} {i : Nat} (h : i < X.length) (he : entE X[i] = 0) : logS X (i + 1) = logS X i ++ entS X[i] := by
  unfold logS
  rw [← List.take_append_getElem h, logT_snoc, bA_append, entS, if_pos he]
theorem logT_le {X : List Ent} (h : ∀ x ∈ X, EntL x) : (logT X).length ≤ 427 * X.length := by
  induction X with
  | nil => simp [logT]
  | cons x X ih =>
    have h1 := ih (fun y hy => h y (by simp [hy]))
    have h2 := entT_size (h x (by simp))
    simp [logT] at h1 ⊢
    omega
theorem logS_size {X : List Ent} (h : ∀ x ∈ X, EntL x) {i : Nat} (hi : i ≤ X.length) : (logS X i).size ≤ 427 * i := by
  have := logT_le (X := X.take i) (fun x hx => h x (List.mem_of_mem_take hx))
  rw [List.length_take] at this
  rw [logS, bA_size]
  have e : min i X.length = i := by omega
  rw [e] at this
  exact this
theorem entS_size {x : Ent} (h : EntL x) : (entS x).size ≤ 427 := by
  rw [entS, if_pos h.ok, bA_size]; exact entT_size h
/-- the whole log read -/
theorem lgAll_log {X : List Ent} (h : ∀ x ∈ X, EntL x) (hl : (logT X).length ≤ 20000) : lgAll (logT X) = (0, X.map bareE, (logT X).length) := by
  unfold lgAll
  rw [if_neg (by omega)]
  have := lgRd_rt (r := []) (by simp) X ((logT X).length + 1) (by have := logT_len X; omega) (fun x hx => (h x hx).ok)
  rw [List.append_nil] at this
  exact this
/-- a part of it read -/
theorem lgAll_cut {X : List Ent} (h : ∀ x ∈ X, EntL x) {c : Nat} (hc : c ≤ (logT X).length) (hl : (logT X).length ≤ 20000) :
    ∃ m r, m ≤ X.length ∧ (logT X).take c = logT (X.take m) ++ r ∧ (10 : UInt8) ∉ r ∧ ((logT X).take c).count 10 = m ∧ lgAll ((logT X).take c) = (0, (X.take m).map bareE, (logT (X.take m)).length) := by
  obtain ⟨m, r, h1, h2, h3, h4⟩ := log_cut X c (fun x hx => (h x hx).ok) hc
  refine ⟨m, r, h1, h2, h3, h4, ?_⟩
  have hl2 : ((logT X).take c).length = c := by rw [List.length_take]; omega
  unfold lgAll
  rw [if_neg (by omega), h2]
  have hlen : (logT (X.take m) ++ r).length = c := by rw [← h2]; exact hl2
  rw [hlen]
  refine lgRd_rt h3 (X.take m) (c + 1) ?_ (fun x hx => (h x (List.mem_of_mem_take hx)).ok)
  have := logT_len (X.take m)
  rw [List.length_append] at hlen
  omega
end Go.Proofs.YtnepdfpooobmcaaDoor
