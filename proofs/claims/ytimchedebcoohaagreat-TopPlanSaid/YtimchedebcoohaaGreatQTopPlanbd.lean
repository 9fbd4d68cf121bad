/- Contracts and lemmas for the proof of TopPlan; each theorem states its own conditions. -/
import Derived.Test.YtimchedebcoohaaGreatQTopPlanbc
import Derived.Test.YtimchedebcoohaaGreatQTopPlanar
import Derived.Test.YtimchedebcoohaaGreatQTopPlanap
import Derived.Test.YtimchedebcoohaaGreatQTopPlanak
import Derived.Test.YtimchedebcoohaaGreatQTopPlanaq
import Derived.Shelf.Abstract
set_option linter.unusedVariables false
set_option linter.unusedSimpArgs false
/- Contracts and lemmas for the proofs of this seat; each theorem states its own conditions. -/
namespace Go.Proofs.YtimchedebcoohaaGreat
open Go.RowKit
/-! MergeGrows: what is used besides -/
/-- one entry of some -/
theorem EntsO.one {w : World} {S : Nat → Prop} {b off c i : Nat} {X : List Ent} (h : EntsO w S (.slice (some ⟨b, off, none⟩) X.length c) X) (hi : i < X.length) : EntsO w S (.slice (some ⟨b, off + i * 4, none⟩) 1 (c - i)) [X[i]] := by
  obtain ⟨es, h1, h2, h3⟩ := h
  have hie : i < es.length := by have := h1.1; omega
  obtain ⟨b', off', he, _, p1, p2, hc⟩ := seg_cells h2 (by omega)
  injection he with he; injection he with e1 e2
  subst e1; subst e2
  obtain ⟨x0, x1, x2, x3⟩ := cEn_at es hie
  replace x0 := hc _ _ x0
  replace x1 := hc _ _ x1
  replace x2 := hc _ _ x2
  replace x3 := hc _ _ x3
  refine ⟨[es[i]], ⟨rfl, fun j e x a b => ?_⟩, ⟨rfl, _, _, rfl, (show 1 ≤ c - i by omega), by omega, fun _ => ⟨b, _, rfl, fun j u hu => ?_⟩⟩, fun b' off' n' c' e _ => ?_⟩
  · have hj : j = 0 := by have := (List.getElem?_eq_some_iff.1 a).1; simp at this; omega
    subst hj; simp at a b; subst a; subst b
    exact h1.2 i _ _ (List.getElem?_eq_getElem hie) (List.getElem?_eq_getElem hi)
  · have hcell : ∀ m, off + i * 4 + m = off + (i * 4 + m) := fun m => by omega
    rw [hcell]
    have hu' : (evC es[i])[j]? = some u := by simpa [cEn] using hu
    rcases j with _ | _ | _ | _ | j
    · simp [evC] at hu'; subst hu'; exact x0
    · simp [evC] at hu'; subst hu'; exact x1
    · simp [evC] at hu'; subst hu'; exact x2
    · simp [evC] at hu'; subst hu'; exact x3
    · simp [evC] at hu'
  · injection e with e _ _; injection e with e; injection e with e1 e2
    subst e1
    exact h3 b off _ _ rfl (by omega)
theorem EntsO.nil (w : World) (S : Nat → Prop) : EntsO w S (.slice none 0 0) [] := ⟨[], EntsSt.nil w, Seg.nil _ _, fun b off n c h => by cases h⟩
/-- one list of some -/
theorem SegLL.one {w : World} {b off c i : Nat} {ls : List (List Int)} (h : SegLL w (.slice (some ⟨b, off, none⟩) ls.length c) ls) (hi : i < ls.length) : SegLL w (.slice (some ⟨b, off + i, none⟩) 1 (c - i)) [ls[i]] := by
  obtain ⟨us, h1, h2, h3⟩ := h
  have hiu : i < us.length := by omega
  obtain ⟨b', off', he, _, p1, p2, hc⟩ := seg_cells h2 (by omega)
  injection he with he; injection he with e1 e2
  subst e1; subst e2
  have x0 := hc i us[i] (List.getElem?_eq_getElem hiu)
  refine ⟨[us[i]], rfl, ⟨rfl, _, _, rfl, ?_, by omega, fun _ => ⟨b, _, rfl, fun j u hu => ?_⟩⟩, fun j u m a b => ?_⟩
  · show 1 ≤ c - i; omega
  · have hj : j = 0 := by have := (List.getElem?_eq_some_iff.1 hu).1; simp at this; omega
    subst hj; simp at hu; subst hu
    exact x0
  · have hj : j = 0 := by have := (List.getElem?_eq_some_iff.1 a).1; simp at this; omega
    subst hj; simp at a b; subst a; subst b
    exact h3 i _ _ (List.getElem?_eq_getElem hiu) (List.getElem?_eq_getElem hi)
/-- the first of some entries -/
theorem EntsSeg.take {w : World} {a : Option Addr} {c m : Nat} {X : List Ent} (h : EntsSeg w (.slice a X.length c) X) (hm : m ≤ X.length) : EntsSeg w (.slice a m c) (X.take m) := by
  obtain ⟨es, h1, ⟨g0, a', c', e, g1, g2, g3⟩, h3⟩ := h
  injection e with e1 _ e2
  subst e1; subst e2
  have hl : (X.take m).length = m := by rw [List.length_take]; omega
  refine ⟨es.take m, by rw [List.length_take, hl]; omega, ⟨by rw [cEn_len, List.length_take, hl]; omega, a, c, by rw [hl], by omega, g2, fun hn => ?_⟩, fun j e x p q => ?_⟩
  · rw [hl] at hn
    obtain ⟨b, off, rfl, hc⟩ := g3 (by omega)
    refine ⟨b, off, rfl, fun j u hu => hc j u ?_⟩
    rw [← cEn_take] at hu
    have hj := (List.getElem?_eq_some_iff.1 hu).1
    rw [List.length_take] at hj
    rw [List.getElem?_take_of_lt (by omega)] at hu
    exact hu
  · have hj := (List.getElem?_eq_some_iff.1 q).1
    rw [hl] at hj
    rw [List.getElem?_take_of_lt hj] at p q
    exact h3 j e x p q
/-- a log lies beside what was there -/
theorem LogR.off {w : World} {S : Nat → Prop} {T : List Nat} {X : List Ent} {v : Value} {a : World} (h : LogR w X v a) (ty : TyS w S T) : EntsO a S v X := by
  obtain ⟨es, h1, h2, h3⟩ := h
  refine ⟨es, h1.low (Nat.zero_le _), own_seg h2, fun b off n c e hn hb => ?_⟩
  have := ty.lt hb
  have := own_ge h2 b (by
    rcases h2.2 with ⟨e', _⟩ | ⟨g, cap, cur, e', _⟩
    · rw [e'] at e; cases e
    · rw [e'] at e ⊢
      injection e with e _ _; injection e with e; injection e with e1 e2
      subst e1; rfl)
  omega
end Go.Proofs.YtimchedebcoohaaGreat

/- Contracts and lemmas for the proofs of this seat; each theorem states its own conditions. -/
namespace Go.Proofs.YtimchedebcoohaaGreat
/-! orders of deeds, in plain lists -/
def evO (A : List Ops) (v : Vls) : List Nat → Vls
  | [] => v
  | i :: q => evO A (stepV v (A.getD i [])) q
def trO (A : List Ops) (v : Vls) : List Nat → List (Nat × Bool)
  | [] => []
  | i :: q => (i, okV v (A.getD i [])) :: trO A (stepV v (A.getD i [])) q
theorem evO_app (A : List Ops) (v : Vls) (p q : List Nat) : evO A v (p ++ q) = evO A (evO A v p) q := by
  induction p generalizing v with
  | nil => rfl
  | cons i p ih => exact ih _
theorem trO_app (A : List Ops) (v : Vls) (p q : List Nat) : trO A v (p ++ q) = trO A v p ++ trO A (evO A v p) q := by
  induction p generalizing v with
  | nil => rfl
  | cons i p ih => simp only [List.cons_append, trO, evO, ih]
/-- every order in which what clashes stands as it did -/
def AdmO (A : List Ops) (ord : List Nat) : Prop := ∀ p s q, ord = p ++ s :: q → ∀ t, t < s → t ∉ p → clashB (A.getD t []) (A.getD s []) = false
/-- one goes behind those that it does not clash with -/
theorem move_end {A : List Ops} (hA : ∀ i, ∀ o ∈ A.getD i [], OpOk o) {m : Nat} : ∀ {q : List Nat} {v : Vls}, (∀ t ∈ q, clashB (A.getD t []) (A.getD m []) = false) →
    evO A v (m :: q) = evO A v (q ++ [m]) ∧ ∀ i b, (i, b) ∈ trO A v (m :: q) ↔ (i, b) ∈ trO A v (q ++ [m])
  | [], v, _ => ⟨rfl, fun _ _ => Iff.rfl⟩
  | t :: q, v, h => by
    have hc := h t (by simp)
    obtain ⟨b1, b2, b3⟩ := bernstein (hA t) (hA m) hc v
    obtain ⟨i1, i2⟩ := move_end hA (q := q) (v := stepV v (A.getD t [])) (fun u hu => h u (by simp [hu]))
    constructor
    · have : evO A v (m :: t :: q) = evO A (stepV v (A.getD t [])) (m :: q) := by
        simp only [evO]; rw [b1]
      rw [this, i1]; rfl
    · intro i b
      have e2 := i2 i b
      simp only [List.cons_append, trO, List.mem_cons] at e2 ⊢
      rw [b1] at e2
      rw [b2] at e2
      rw [b3, ← e2]
      constructor
      · rintro (a | a | a)
        · exact .inr (.inl a)
        · exact .inl a
        · exact .inr (.inr a)
      · rintro (a | a | a)
        · exact .inr (.inl a)
        · exact .inl a
        · exact .inr (.inr a)
theorem adm_ser {A : List Ops} (hA : ∀ i, ∀ o ∈ A.getD i [], OpOk o) : ∀ {n : Nat} {ord : List Nat} {v : Vls}, AdmO A ord → ord.Nodup → (∀ i, i ∈ ord ↔ i < n) →
    evO A v ord = evO A v (List.range n) ∧ ∀ i b, (i, b) ∈ trO A v ord ↔ (i, b) ∈ trO A v (List.range n)
  | 0, ord, v, _, _, h => by
    have : ord = [] := by
      cases ord with
      | nil => rfl
      | cons i q => have := (h i).1 (by simp); omega
    subst this
    exact ⟨rfl, fun _ _ => Iff.rfl⟩
  | n + 1, ord, v, ha, hn, h => by
    obtain ⟨p, q, rfl⟩ := List.append_of_mem ((h n).2 (by omega))
    have hn' := hn
    rw [List.nodup_append, List.nodup_cons] at hn
    obtain ⟨n1, ⟨n2, n3⟩, n4⟩ := hn
    have hnp : n ∉ p := fun hp => n4 n hp n (by simp) rfl
    have hq : ∀ t ∈ q, clashB (A.getD t []) (A.getD n []) = false := fun t ht => by
      have h1 := (h t).1 (by simp [ht])
      have hne : t ≠ n := fun e => n2 (e ▸ ht)
      exact ha p n q rfl t (by omega) (fun hp => n4 t hp t (by simp [ht]) rfl)
    obtain ⟨m1, m2⟩ := move_end hA (v := evO A v p) hq
    have hpq : AdmO A (p ++ q) := by
      intro p' s r e t hts ht
      rcases List.append_eq_append_iff.1 e with ⟨a, e1, e2⟩ | ⟨a, e1, e2⟩
      · -- p' = p ++ a, q = a ++ s :: r
        subst e1
        have hs := (h s).1 (by rw [e2]; simp)
        have hsn : s ≠ n := fun e => n2 (by rw [e2, ← e]; simp)
        refine ha (p ++ n :: a) s r (by rw [e2]; simp) t hts ?_
        simp only [List.mem_append, List.mem_cons] at ht ⊢
        rintro (x | x | x)
        · exact ht (.inl x)
        · omega
        · exact ht (.inr x)
      · -- p = p' ++ a, s :: r = a ++ q
        cases a with
        | nil =>
          simp at e1 e2
          subst e1
          have hs := (h s).1 (by rw [← e2]; simp)
          have hsn : s ≠ n := fun e => n2 (by rw [← e2, ← e]; simp)
          refine ha (p ++ [n]) s r (by rw [← e2]; simp) t hts ?_
          simp only [List.mem_append, List.mem_singleton]
          rintro (x | x)
          · exact ht x
          · omega
        | cons s' a =>
          simp at e2
          obtain ⟨rfl, rfl⟩ := e2
          exact ha p' s (a ++ n :: q) (by rw [e1]; simp) t hts ht
    have hnd : (p ++ q).Nodup := by
      rw [List.nodup_append]
      exact ⟨n1, n3, fun a hp b hb => n4 a hp b (by simp [hb])⟩
    have hmem : ∀ i, i ∈ p ++ q ↔ i < n := fun i => by
      have hi := h i
      simp only [List.mem_append, List.mem_cons] at hi ⊢
      constructor
      · intro hh
        have h1 : i < n + 1 := hi.1 (by rcases hh with x | x; exact .inl x; exact .inr (.inr x))
        have : i ≠ n := by rintro rfl; rcases hh with x | x; exact hnp x; exact n2 x
        omega
      · intro hh
        rcases hi.2 (by omega) with x | x | x
        · exact .inl x
        · omega
        · exact .inr x
    obtain ⟨i1, i2⟩ := adm_ser hA (v := v) hpq hnd hmem
    rw [List.range_succ]
    constructor
    · rw [evO_app, m1, ← evO_app, ← List.append_assoc, evO_app, i1, ← evO_app]
    · intro i b
      have e2 := m2 i b
      have e3 := i2 i b
      rw [trO_app, List.mem_append] at e2 e3
      rw [trO_app, trO_app, List.mem_append, List.mem_append, e2, ← e3, ← i1, evO_app]
      rw [or_assoc]
end Go.Proofs.YtimchedebcoohaaGreat

/- Contracts and lemmas for the proofs of this seat; each theorem states its own conditions. -/
namespace Go.Proofs.YtimchedebcoohaaGreat
/-! orders of deeds, on stores; where each stands; rounds -/
theorem nd_inj {l : List Nat} (h : l.Nodup) {i j : Nat} {hi : i < l.length} {hj : j < l.length} (e : l[i] = l[j]) : i = j := by
  rcases Nat.lt_trichotomy i j with k | k | k
  · exact absurd e (List.pairwise_iff_getElem.1 h i j hi hj k)
  · exact k
  · exact absurd e.symm (List.pairwise_iff_getElem.1 h j i hj hi k)
theorem getD_ok {A : List Ops} (h : ∀ d ∈ A, DeedOk d) (i : Nat) : ∀ o ∈ A.getD i [], OpOk o := by
  by_cases hi : i < A.length
  · have e : A.getD i [] = A[i] := by simp [hi]
    rw [e]; exact (h _ (List.getElem_mem hi)).ops
  · have e : A.getD i [] = [] := by simp [List.getD, List.getElem?_eq_none (Nat.le_of_not_lt hi)]
    rw [e]; intro o ho; cases ho
theorem ser_val {A : List Ops} (hA : ∀ d ∈ A, DeedOk d) : ∀ (ord : List Nat) {l : Prs}, StoreOk l → StoreOk (serS l (ord.map fun i => A.getD i [])) ∧ valP (serS l (ord.map fun i => A.getD i [])) = evO A (valP l) ord ∧ trO A (valP l) ord = ord.zip (serB l (ord.map fun i => A.getD i []))
  | [], l, h => ⟨h, rfl, rfl⟩
  | i :: ord, l, h => by
    obtain ⟨r1, r2, r3⟩ := run_val h (getD_ok hA i)
    obtain ⟨q1, q2, q3⟩ := ser_val hA ord r1
    refine ⟨q1, ?_, ?_⟩
    · show valP (serS (runS l (A.getD i [])) (ord.map fun i => A.getD i [])) = evO A (stepV (valP l) (A.getD i [])) ord
      rw [q2, r2]
    · show (i, okV (valP l) (A.getD i [])) :: trO A (stepV (valP l) (A.getD i [])) ord = _
      rw [← r2, q3, ← r3]; rfl
theorem map_range (A : List Ops) : (List.range A.length).map (fun i => A.getD i []) = A := by
  apply List.ext_getElem
  · simp
  · intro i h1 h2
    simp at h1
    simp [h1]
/-- any order that may be makes the same store, and tells each the same -/
theorem adm_same {A : List Ops} (hA : ∀ d ∈ A, DeedOk d) {l : Prs} (hl : StoreOk l) {ord : List Nat} (ha : AdmO A ord) (hn : ord.Nodup) (hm : ∀ i, i ∈ ord ↔ i < A.length) :
    serS l (ord.map fun i => A.getD i []) = serS l A ∧ ∀ j (h : j < ord.length), (serB l (ord.map fun i => A.getD i []))[j]? = (serB l A)[ord[j]]? := by
  obtain ⟨s1, s2, s3⟩ := ser_val hA ord hl
  obtain ⟨t1, t2, t3⟩ := ser_val hA (List.range A.length) hl
  rw [map_range] at t1 t2 t3
  obtain ⟨u1, u2⟩ := adm_ser (getD_ok hA) (v := valP l) ha hn hm
  refine ⟨store_ext s1 t1 fun x => by rw [s2, t2, u1], fun j hj => ?_⟩
  have hlen : j < (serB l (ord.map fun i => A.getD i [])).length := by rw [serB_len]; simpa using hj
  have hz : (ord[j], (serB l (ord.map fun i => A.getD i []))[j]) ∈ ord.zip (serB l (ord.map fun i => A.getD i [])) := by
    rw [List.mem_iff_getElem?]
    exact ⟨j, by rw [List.getElem?_zip_eq_some]; exact ⟨List.getElem?_eq_getElem hj, List.getElem?_eq_getElem hlen⟩⟩
  rw [← s3, u2, t3] at hz
  obtain ⟨m, hm'⟩ := List.mem_iff_getElem?.1 hz
  rw [List.getElem?_zip_eq_some] at hm'
  obtain ⟨m1, m2⟩ := hm'
  have hmr := (List.getElem?_eq_some_iff.1 m1)
  obtain ⟨h1, h2⟩ := hmr
  rw [List.getElem_range] at h2
  replace h2 : m = ord[j] := h2
  rw [List.getElem?_eq_getElem hlen, ← h2]; exact m2.symm
/-- where each stands, after j -/
def atL (n : Nat) (ord : List Nat) : Nat → List Int
  | 0 => List.replicate n (-1)
  | j + 1 => (atL n ord j).set (ord.getD j 0) j
theorem atL_len (n : Nat) (ord : List Nat) : ∀ j, (atL n ord j).length = n
  | 0 => by simp [atL]
  | j + 1 => by rw [atL, List.length_set, atL_len n ord j]
theorem atL_at {n : Nat} {ord : List Nat} (hn : ord.Nodup) : ∀ j, j ≤ ord.length → ∀ k, k < n → (k ∉ ord.take j → (atL n ord j)[k]? = some (-1)) ∧ ∀ i (h : i < ord.length), i < j → ord[i] = k → (atL n ord j)[k]? = some (i : Int)
  | 0, _, k, hk => ⟨fun _ => by simp [atL, hk], fun i h h0 => by omega⟩
  | j + 1, hj, k, hk => by
    obtain ⟨h1, h2⟩ := atL_at hn j (by omega) k hk
    have hjl : j < ord.length := by omega
    have e : ord.getD j 0 = ord[j] := by simp [hjl]
    rw [atL, e]
    refine ⟨fun hno => ?_, fun i hi hij hik => ?_⟩
    · rw [List.take_succ_eq_append_getElem hjl] at hno
      simp only [List.mem_append, List.mem_singleton, not_or] at hno
      rw [List.getElem?_set_ne (fun e => hno.2 e.symm)]
      exact h1 hno.1
    · by_cases e' : i = j
      · subst e'
        rw [hik, List.getElem?_set_self (by rw [atL_len]; exact hk)]
      · have hne : ord[j] ≠ k := fun e2 => e' (nd_inj hn (hik.trans e2.symm))
        rw [List.getElem?_set_ne hne]
        exact h2 i hi (by omega) hik
/-- does each that clashes stand as it did? -/
def ordB (A : List Ops) (at_ : List Int) (n : Nat) : Bool := (List.range n).all fun i => (List.range i).all fun k => !(clashB (A.getD k []) (A.getD i []) && decide (at_.getD i 0 < at_.getD k 0))
theorem ordB_iff {A : List Ops} {at_ : List Int} {n : Nat} : ordB A at_ n = true ↔ ∀ i < n, ∀ k < i, clashB (A.getD k []) (A.getD i []) = true → at_.getD k 0 ≤ at_.getD i 0 := by
  simp only [ordB, List.all_eq_true, List.mem_range, Bool.not_eq_true', Bool.and_eq_false_iff, decide_eq_false_iff_not, Int.not_lt]
  constructor
  · intro h i hi k hk hc
    rcases h i hi k hk with e | e
    · rw [hc] at e; cases e
    · exact e
  · intro h i hi k hk
    cases hc : clashB (A.getD k []) (A.getD i []) with
    | false => exact .inl rfl
    | true => exact .inr (h i hi k hk hc)
theorem at_pos {n : Nat} {ord : List Nat} (hn : ord.Nodup) {j : Nat} (hj : j < ord.length) (hl : ord[j] < n) : (atL n ord ord.length).getD ord[j] 0 = (j : Int) := by
  have := (atL_at hn ord.length (Nat.le_refl _) ord[j] hl).2 j hj hj rfl
  simp [List.getD, this]
theorem adm_ord {A : List Ops} {ord : List Nat} (hn : ord.Nodup) (hm : ∀ i, i ∈ ord ↔ i < A.length) : ordB A (atL A.length ord ord.length) A.length = true ↔ AdmO A ord := by
  rw [ordB_iff]
  constructor
  · intro h p s q e t hts htp
    subst e
    cases hc : clashB (A.getD t []) (A.getD s []) with
    | false => rfl
    | true =>
      exfalso
      have hs : s < A.length := (hm s).1 (by simp)
      have ht : t ∈ p ++ s :: q := (hm t).2 (by omega)
      have hle := h s hs t hts hc
      have hps : p.length < (p ++ s :: q).length := by simp
      have a1 := at_pos (n := A.length) hn hps (by simpa using hs)
      simp only [List.getElem_append_right (Nat.le_refl _), Nat.sub_self, List.getElem_cons_zero] at a1
      obtain ⟨i, hi, hit⟩ := List.mem_iff_getElem.1 ht
      have a2 := at_pos (n := A.length) hn hi (by rw [hit]; omega)
      rw [hit] at a2
      rw [a1, a2] at hle
      have hip : i ≤ p.length := by omega
      rcases Nat.lt_or_ge i p.length with h' | h'
      · rw [List.getElem_append_left h'] at hit
        exact htp (by rw [← hit]; exact List.getElem_mem h')
      · obtain rfl : i = p.length := by omega
        simp at hit
        omega
  · intro h i hi k hk hc
    obtain ⟨x, hx, hxi⟩ := List.mem_iff_getElem.1 ((hm i).2 hi)
    obtain ⟨y, hy, hyk⟩ := List.mem_iff_getElem.1 ((hm k).2 (by omega))
    have a1 := at_pos (n := A.length) hn hx (by omega)
    have a2 := at_pos (n := A.length) hn hy (by omega)
    rw [hxi] at a1; rw [hyk] at a2
    rw [a1, a2]
    have e : ord = ord.take x ++ i :: ord.drop (x + 1) := by
      rw [← hxi, ← List.drop_eq_getElem_cons hx, List.take_append_drop]
    by_cases hin : k ∈ ord.take x
    · obtain ⟨z, hz, hzk⟩ := List.mem_iff_getElem.1 hin
      rw [List.length_take] at hz
      rw [List.getElem_take] at hzk
      have : z = y := nd_inj hn (hzk.trans hyk.symm)
      omega
    · have := h _ _ _ e k hk hin
      rw [hc] at this; cases this
/-- the round of each, up to k -/
def rnd1 (A : List Ops) (R : List Nat) (i : Nat) : Nat → Nat
  | 0 => 0
  | k + 1 => if clashB (A.getD k []) (A.getD i []) = true then max (rnd1 A R i k) (R.getD k 0 + 1) else rnd1 A R i k
def rndTo (A : List Ops) : Nat → List Nat
  | 0 => []
  | n + 1 => rndTo A n ++ [rnd1 A (rndTo A n) n n]
end Go.Proofs.YtimchedebcoohaaGreat

/- Contracts and lemmas for the proofs of this seat; each theorem states its own conditions. -/
namespace Go.Proofs.YtimchedebcoohaaGreat
open Go.RowKit
/-! slices.IndexFunc, ContainsFunc, DeleteFunc at pairs -/

set_option maxRecDepth 10000 in
set_option maxHeartbeats 1000000 in
theorem indexF_P (fn : Nat) (cs : Array Value) (hen : ∀ args w, (callFunc fn args).run Tryz.prog w = .ok (.enter fn args) w) (p : ByteArray × Int → Bool) (v : Value) (L : List (ByteArray × Int)) (w : World) (hv : Seg w v 2 L.length (cP L))
    (hc : ∀ x ∈ L, ∀ w', Ext w w' → Calls Tryz.prog fn (#[.agg #[.string x.1, .int .i64 x.2]] ++ cs) w' fun e w'' => e = .returned (.bool (p x)) ∧ Ext w' w'') :
    Calls Tryz.prog 108 #[v, .func (.func fn) #[] cs] w fun e w' => e = .returned (.int .i64 (firstI p L 0)) ∧ Ext w w' := by
  obtain ⟨h0, a, cap, rfl, h1, h2, h3⟩ := hv
  unfold maxLen at h2
  have H3 := hid h3
  have HC := hid hc
  clear h3 hc h0
  go_enter Tryz.func108, Tryz.ntmps108
  go_wp2
  go_loopw [5, 8] (fun _ i wr => ∃ k : Nat, k ≤ L.length ∧ i = .int .i64 k ∧ (∀ j (h : j < L.length), j < k → p L[j] = false) ∧ Ext w wr) (fun _ i _ => L.length - (intOf i).toNat)
  case atStart => exact ⟨0, Nat.zero_le _, rfl, fun j _ h => by omega, Ext.refl _⟩
  case round =>
    obtain ⟨k, hk, rfl, hn, E⟩ := hrel
    have HN := hid hn
    clear hn
    by_cases hlt : k < L.length
    · obtain ⟨b, off, rfl, hcell⟩ := H3.out (by omega)
      have x0 := E.cell (hcell (k * 2) _ (cP_at L k hlt).1)
      have x1 := E.cell (hcell (k * 2 + 1) _ (cP_at L k hlt).2)
      rw [← Nat.add_assoc] at x1
      have C := HC.out L[k] (List.getElem_mem hlt) wr E
      clear hcell
      cases hp : p L[k] with
      | true =>
        rw [hp] at C
        have C := hid C
        have hi : firstI p L 0 = (k : Int) := by
          have := firstI_hit (i := 0) hlt (fun j h' => HN.out j (by omega) h') hp
          simpa using this
        have HI := hid hi
        clear hi hp
        generalize L[k] = x at x0 x1 C
        go_wp2_with (first | (go_at_fn fn; refine (C.out).mono ?_; rintro e wa ⟨rfl, Ea⟩))
        go_ret
        exact ⟨rI HI.out.symm, E.trans Ea⟩
      | false =>
        rw [hp] at C
        have C := hid C
        have HP := hid hp
        have HS := hid (show ∀ j (h : j < L.length), j < k + 1 → p L[j] = false from fun j hj h => by
          rcases Nat.lt_or_ge j k with h' | h'
          · exact HN.out j hj h'
          · have : j = k := by omega
            subst this; exact HP.out)
        clear hp
        generalize L[k] = x at x0 x1 C
        go_wp2_with (first | (go_at_fn fn; refine (C.out).mono ?_; rintro e wa ⟨rfl, Ea⟩))
        go_roundw
        case rel => exact ⟨k + 1, by omega, by go_num, HS.out, E.trans Ea⟩
        case measure => simp [intOf]; omega
    · obtain rfl : k = L.length := by omega
      have hi : firstI p L 0 = -1 := firstI_miss fun x hx => by
        obtain ⟨j, hj, rfl⟩ := List.mem_iff_getElem.1 hx
        exact HN.out j hj hj
      have HI := hid hi
      clear hi
      go_wp2
      go_ret
      exact ⟨rI HI.out.symm, E⟩
theorem delset_P (x : ByteArray × Int) : ∀ (l : List (ByteArray × Int)) (k : Nat), k < l.length → ((cP l).set (k * 2) (.string x.1)).set (k * 2 + 1) (.int .i64 x.2) = cP (l.set k x)
  | [], k, h => by simp at h
  | c :: l, 0, h => by simp [cP]
  | c :: l, k + 1, h => by
    have := delset_P x l k (by simpa using h)
    have e : ∀ (y : ByteArray × Int) (m : List (ByteArray × Int)), cP (y :: m) = [.string y.1, .int .i64 y.2] ++ cP m := fun y m => by simp [cP]
    rw [show (k + 1) * 2 = k * 2 + 1 + 1 by omega, List.set_cons_succ, e, e, ← this]
    rfl
theorem zeroDelP (w : World) : (zeroValue 33).run Tryz.prog w = .ok (.agg #[.string ⟨#[]⟩, .int .i64 0]) w := Tryz.zeroValue33 w
theorem zeroDelCP (n : Nat) : ∀ v ∈ (Builtin.zeroCells (Value.agg #[.string ⟨#[]⟩, .int .i64 0]).cells n).toList, v.oneCell' = true := by
  intro v hv
  have hc : (Value.agg #[.string ⟨#[]⟩, .int .i64 0]).cells = #[.string ⟨#[]⟩, .int .i64 0] := by kernel_rfl
  rw [hc] at hv
  simp only [Builtin.zeroCells, Array.toList_map, List.mem_map] at hv
  obtain ⟨i, _, rfl⟩ := hv
  have h2 : i % 2 = 0 ∨ i % 2 = 1 := by omega
  rcases h2 with h2 | h2 <;> simp [h2, Value.oneCell']
set_option maxRecDepth 10000 in
set_option maxHeartbeats 2000000 in
theorem delF_P (B fn : Nat) (cs : Array Value) (hen : ∀ args w, (callFunc fn args).run Tryz.prog w = .ok (.enter fn args) w) (p : ByteArray × Int → Bool) (v : Value) (L : List (ByteArray × Int)) (w : World) (ho : w.ownsRow B 33 2 v L.length (cP L)) (hn : L.length ≤ 1000000)
    (hc : ∀ x ∈ L, ∀ w', w.grownBy w' v.ownBlock → Calls Tryz.prog fn (#[.agg #[.string x.1, .int .i64 x.2]] ++ cs) w' fun e w'' => e = .returned (.bool (p x)) ∧ Ext w' w'') :
    Calls Tryz.prog 76 #[v, .func (.func fn) #[] cs] w fun e w' => ∃ v', e = .returned v' ∧ w'.ownsRow B 33 2 v' (L.filter fun x => !p x).length (cP (L.filter fun x => !p x)) ∧ w.grownBy w' v.ownBlock ∧ v'.ownBlock = v.ownBlock := by
  have hI := indexF_P fn cs hen p v L w (own_seg ho) (fun x hx w' E => hc x hx w' (grown_of_ext E))
  obtain ⟨a, c, rfl⟩ := own_form ho
  by_cases hany : ∀ x ∈ L, p x = false
  · rw [firstI_miss hany] at hI
    have hI := hid hI
    have hf := hid (show (L.filter fun x => !p x) = L from List.filter_eq_self.2 fun x hx => by simp [hany x hx])
    clear hany hc
    go_enter Tryz.func76, Tryz.ntmps76
    go_wp2_with fail
    refine (hI.out).mono ?_
    rintro e w1 ⟨rfl, E1⟩
    go_wp2
    go_ret
    exact ⟨_, rfl, by rw [hf.out]; exact own_ext ho E1, grown_of_ext E1, rfl⟩
  · obtain ⟨i0, hi0, hlo, hp0⟩ := first_of hany
    rw [firstI_hit hi0 (fun j h => hlo j h) hp0, Nat.zero_add] at hI
    have hI := hid hI
    obtain ⟨g, rfl, hg1, hg2, hg3, hg4⟩ := own_pos ho (by omega)
    unfold maxLen at hg4
    have HC := hid hc
    have qi : ((i0 : Int) == -1) = false := by simp
    have F0 := hid (first_fil hi0 hlo hp0)
    clear hany hc hlo hp0
    go_enter Tryz.func76, Tryz.ntmps76
    go_wp2_with fail
    refine (hI.out).mono ?_
    clear hI
    rintro e w1 ⟨rfl, E1⟩
    go_wp2_with fail
    go_loopw [5, 6, 7] (fun i6 j6 _ wr => ∃ (i j : Nat) (mid : List (ByteArray × Int)), i6 = .int .i64 i ∧ j6 = .int .i64 j ∧ j ≤ L.length ∧ ((L.take j).filter fun x => !p x).length = i ∧ i + mid.length = j ∧ i < j ∧ wr.ownsRow B 33 2 (.slice (some ⟨g, 0, none⟩) L.length c) L.length (cP (((L.take j).filter fun x => !p x) ++ mid ++ L.drop j)) ∧ w.grownBy wr (some g)) (fun _ j6 _ _ => L.length - (intOf j6).toNat)
    case atStart => exact ⟨i0, i0 + 1, [L[i0]], rfl, by go_num, by omega, F0.out.1, rfl, by omega, by rw [F0.out.2]; exact own_ext ho E1, grown_of_ext E1⟩
    case round =>
      obtain ⟨i, j, mid, rfl, rfl, hj, hfi, hmid, hij, ho2, hg⟩ := hrel
      by_cases hjl : j < L.length
      · have hlen : ((((L.take j).filter fun x => !p x) ++ mid ++ L.drop j)).length = L.length := by simp only [List.length_append, List.length_drop]; omega
        have hget : (((L.take j).filter fun x => !p x) ++ mid ++ L.drop j)[j]? = some L[j] := by
          rw [List.getElem?_append_right (by simp only [List.length_append]; omega)]
          simp only [List.length_append, hfi, hmid, Nat.sub_self]
          simp [hjl]
        have hstep := del_step (p := p) hjl hfi hmid hij
        obtain ⟨_, _, he, _, _, _, hcell⟩ := seg_cells (own_seg ho2) (by omega)
        injection he with he; injection he with he1 he2
        subst he1; subst he2
        generalize hM : ((L.take j).filter fun x => !p x) ++ mid ++ L.drop j = M at ho2 hlen hget hcell hstep
        have hMj : M[j]'(by omega) = L[j] := by rw [List.getElem?_eq_getElem (by omega)] at hget; injection hget
        have x0 := hcell (j * 2) _ (cP_at M j (by omega)).1
        have x1 := hcell (j * 2 + 1) _ (cP_at M j (by omega)).2
        rw [hMj, Nat.zero_add] at x0 x1
        have hmem := List.getElem_mem hjl
        clear hcell hget hMj hM
        have HST := hid hstep
        clear hstep
        generalize L[j] = x at x0 x1 hmem HST
        have bx := heap_alloc_new wr (.cells #[.string x.1, .int .i64 x.2] 33)
        have EA := (Ext.refl wr).alloc (.cells #[.string x.1, .int .i64 x.2] 33)
        have gA := hg.trans (grown_of_ext EA)
        have C := HC.out x hmem (wr.alloc (.cells #[.string x.1, .int .i64 x.2] 33)) gA
        cases hp : p x with
        | true =>
          rw [hp] at C
          have C := hid C
          have S1 := hid (HST.out.1 hp)
          clear hp
          have xb := blk2 bx
          go_wp2_with (first | (go_at_fn fn; refine (C.out).mono ?_; rintro e wa ⟨rfl, Ea⟩))
          go_roundw
          case rel =>
            obtain ⟨mid', s1, s2, s3⟩ := S1.out
            exact ⟨i, j + 1, mid', rfl, by go_num, by omega, s1, s2, by omega, by rw [s3]; exact own_ext (own_ext ho2 EA) Ea, gA.trans (grown_of_ext Ea)⟩
          case measure => simp [intOf]; omega
        | false =>
          rw [hp] at C
          have C := hid C
          have S1 := hid (HST.out.2 hp)
          clear hp
          have hil : i < M.length := by omega
          go_wp2_with (first | (go_at_fn fn; refine (C.out).mono ?_; rintro e wa ⟨rfl, Ea⟩; have xb := blk2 (Ea.heap bx); obtain ⟨⟨y0, w0⟩, w1, ⟨y2, w2⟩, w3⟩ := own_two (own_ext (own_ext ho2 EA) Ea) (i := i * 2) (by rw [cP_len]; omega) (.string x.1)))
          go_roundw
          case rel =>
            obtain ⟨mid', s1, s2, s3⟩ := S1.out
            have o3 := own_ext (own_ext ho2 EA) Ea
            have o4 := own_cell_set o3 (i := i * 2) (by rw [cP_len]; omega) (.string x.1)
            have o5 := own_cell_set o4 (i := i * 2 + 1) (by rw [List.length_set, cP_len]; omega) (.int .i64 x.2)
            rw [delset_P x M i hil] at o5
            exact ⟨i + 1, j + 1, mid', by go_num, by go_num, by omega, s1, s2, by omega, by rw [s3]; exact o5, ((gA.trans (grown_of_ext Ea)).trans (set_grown _ _ _)).trans (set_grown _ _ _)⟩
          case measure => simp [intOf]; omega
      · have hjL : j = L.length := by omega
        subst hjL
        rw [List.take_of_length_le (Nat.le_refl _)] at hfi ho2
        rw [List.drop_of_length_le (Nat.le_refl _), List.append_nil] at ho2
        obtain ⟨g', cur, he, hb, hlt, hrow, hnc, hcm, hcl, htk⟩ := own_row ho2 (by omega)
        injection he with he; injection he with he
        subst he
        have hz2 : (Builtin.zeroCells (Value.agg #[.string ⟨#[]⟩, .int .i64 0]).cells (L.length - i)).size = (L.length - i) * 2 := by
          rw [size_zeroCells]; rfl
        have hz3 : (Builtin.zeroCells (Value.agg #[.string ⟨#[]⟩, .int .i64 0]).cells (L.length - i)).toList.length = (L.length - i) * 2 := hz2
        have hclr := fun ty => run_clear_row (P := Tryz.prog) wr 22 33 ty _ Tryz.underlying22 zeroDelP g (i * 2) (L.length - i) (c - i) cur (by omega) hrow (by rw [hz2, hcl]; omega) (zeroDelCP _)
        have hl3 := spl_len (cur := cur) (o := i * 2) (vs := (Builtin.zeroCells (Value.agg #[.string ⟨#[]⟩, .int .i64 0]).cells (L.length - i)).toList) (by rw [hz3, hcl]; omega)
        have ht3 := spl_take_lo (cur := cur) (o := i * 2) (m := i * 2) (vs := (Builtin.zeroCells (Value.agg #[.string ⟨#[]⟩, .int .i64 0]).cells (L.length - i)).toList) (by rw [hcl]; omega) (Nat.le_refl _)
        have hrow3 := hrow.set (spl cur (i * 2) (Builtin.zeroCells (Value.agg #[.string ⟨#[]⟩, .int .i64 0]).cells (L.length - i)).toList)
        have hB3 := row_grown wr g (spl cur (i * 2) (Builtin.zeroCells (Value.agg #[.string ⟨#[]⟩, .int .i64 0]).cells (L.length - i)).toList).toArray
        generalize spl cur (i * 2) (Builtin.zeroCells (Value.agg #[.string ⟨#[]⟩, .int .i64 0]).cells (L.length - i)).toList = cur3 at hclr hl3 ht3 hrow3 hB3
        have hcut : cur.take (i * 2) = cP (L.filter fun x => !p x) := by
          have h1 : cur.take (i * 2) = (cP ((L.filter fun x => !p x) ++ mid)).take (i * 2) := by rw [← htk, List.take_take, Nat.min_eq_left (by omega)]
          rw [h1, cP_app, List.take_left' (by rw [cP_len, hfi])]
        have HD := hid (And.intro (hl3.trans hcl) (ht3.trans hcut))
        have HCL := hid hclr
        have HF := hid hfi
        have hci : ¬ c = i := by omega
        have hi1 : (i : Int) ≤ (L.length : Int) := by omega
        have hi2 : (i : Int) ≤ (c : Int) := by omega
        clear hl3 ht3 hz2 hz3 hclr hcut htk hcl hfi ho2
        go_wp2_with (first | (refine wpList_clear_run wr rfl _ _ rfl _ (by rfl) (HCL.out _) ?_))
        go_ret
        refine ⟨_, rfl, ?_, hg.trans hB3, rfl⟩
        rw [HF.out]
        exact own_of_row hrow3 hb (by omega) hcm HD.out.1 (by rw [cP_len, HF.out]) HD.out.2
end Go.Proofs.YtimchedebcoohaaGreat
