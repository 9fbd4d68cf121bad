/- Contracts and lemmas for the proof of PlanPlays; each theorem states its own conditions. -/
import Derived.Test.YtghemmmkbpfdhaaGreatDoorQPlanPlaysbl
import Derived.Test.YtghemmmkbpfdhaaGreatDoorQPlanPlaysbk
import Derived.Test.YtghemmmkbpfdhaaGreatDoorQPlanPlaysay
import Derived.Test.YtghemmmkbpfdhaaGreatDoorQPlanPlaysba
import Derived.Test.YtghemmmkbpfdhaaGreatDoorQPlanPlaysbd
set_option linter.unusedVariables false
set_option linter.unusedSimpArgs false
/- Contracts and lemmas for the proofs of this seat; each theorem states its own conditions. -/
namespace Go.Proofs.YtghemmmkbpfdhaaGreatDoor
/-! plain laws of plan's rows -/
def iN (l : List Nat) : List Int := l.map fun (n : Nat) => (n : Int)
theorem iN_len (l : List Nat) : (iN l).length = l.length := by simp [iN]
theorem iN_app (a b : List Nat) : iN (a ++ b) = iN a ++ iN b := by simp [iN]
theorem iN_at (l : List Nat) {k : Nat} (h : k < l.length) : (iN l).getD k 0 = ((l.getD k 0 : Nat) : Int) := by simp [iN, h]
/-- the rounds of the first i, the next one's so far, and noughts -/
def rL (A : List Ops) (n i x : Nat) : List Int := iN (rndTo A i) ++ (x : Int) :: List.replicate (n - (i + 1)) 0
def oL (A : List Ops) (n i : Nat) : List Int := iN (rndTo A i) ++ List.replicate (n - i) 0
theorem rL_len {A : List Ops} {n i x : Nat} (h : i < n) : (rL A n i x).length = n := by simp [rL, iN_len, rndTo_len]; omega
theorem oL_len {A : List Ops} {n i : Nat} (h : i ≤ n) : (oL A n i).length = n := by simp [oL, iN_len, rndTo_len]; omega
theorem rL_start {A : List Ops} {n i : Nat} (h : i < n) : rL A n i 0 = oL A n i := by
  unfold rL oL
  have : n - i = (n - (i + 1)) + 1 := by omega
  rw [this, List.replicate_succ]; rfl
theorem rL_end {A : List Ops} {n i : Nat} : rL A n i (rnd1 A (rndTo A i) i i) = oL A n (i + 1) := by
  unfold rL oL
  rw [rndTo, iN_app]
  simp [iN]
theorem rL_at {A : List Ops} {n i x k : Nat} (h : k < i) : (rL A n i x).getD k 0 = ((rndTo A i).getD k 0 : Nat) := by
  rw [← iN_at _ (by rw [rndTo_len]; exact h)]
  unfold rL
  rw [getD_app (by rw [iN_len, rndTo_len]; exact h)]
theorem rL_self {A : List Ops} {n i x : Nat} : (rL A n i x).getD i 0 = (x : Int) := by
  unfold rL
  simp [List.getD, List.getElem?_append_right, iN_len, rndTo_len]
theorem rL_set {A : List Ops} {n i x : Nat} (y : Nat) : (rL A n i x).set i (y : Int) = rL A n i y := by
  unfold rL
  rw [List.set_append, if_neg (by rw [iN_len, rndTo_len]; omega), iN_len, rndTo_len, Nat.sub_self]
  rfl
theorem oL_zero (A : List Ops) (n : Nat) : oL A n 0 = List.replicate n 0 := by simp [oL, rndTo, iN]
theorem oL_all (A : List Ops) (n : Nat) : oL A n n = iN (rndTo A n) := by simp [oL]
theorem iN_rnd (A : List Ops) {n i : Nat} (h : i < n) : (iN (rndTo A n)).getD i 0 = (rnd A i : Int) := by
  rw [iN_at _ (by rw [rndTo_len]; exact h), rndTo_at A n i h]
/-- the places, filled with -1 up to i -/
def mL (n i : Nat) : List Int := List.replicate i (-1) ++ List.replicate (n - i) 0
theorem mL_len {n i : Nat} (h : i ≤ n) : (mL n i).length = n := by simp [mL]; omega
theorem mL_set {n i : Nat} (h : i < n) : (mL n i).set i (-1) = mL n (i + 1) := by
  unfold mL
  rw [List.set_append, if_neg (by simp)]
  have e : n - i = (n - (i + 1)) + 1 := by omega
  rw [e, List.replicate_succ, List.length_replicate, Nat.sub_self, List.set_cons_zero]
  rw [List.replicate_succ' (n := i), List.append_assoc]; rfl
theorem mL_zero (n : Nat) : mL n 0 = List.replicate n 0 := by simp [mL]
theorem mL_all (n : Nat) : mL n n = List.replicate n (-1) := by simp [mL]
end Go.Proofs.YtghemmmkbpfdhaaGreatDoor

/- Contracts and lemmas for the proofs of this seat; each theorem states its own conditions. -/
namespace Go.Proofs.YtghemmmkbpfdhaaGreatDoor
/-! plan.Play, in plain lists -/
structure PlayI (A : List Ops) (l : Prs) (ord : List Nat) (g : Nat → Bool) (X : Prs) (T : List Bool) : Prop where
  nodup : ord.Nodup
  lt : ∀ i ∈ ord, i < A.length
  gone : ∀ i, g i = true ↔ i ∈ ord
  adm : AdmO A ord
  sto : X = serS l (ord.map fun i => A.getD i [])
  len : T.length = A.length
  told : ∀ j (h : j < ord.length), T.getD ord[j] false = (serB l (ord.map fun i => A.getD i [])).getD j false
theorem getD_set1 {T : List Bool} {s : Nat} {b : Bool} (h : s < T.length) : (T.set s b).getD s false = b := by simp [h]
theorem getD_last {x : List Bool} {n : Nat} {b : Bool} (h : x.length = n) : (x ++ [b]).getD n false = b := by subst h; simp
theorem play_start (A : List Ops) (l : Prs) : PlayI A l [] (fun _ => false) l (List.replicate A.length false) :=
  ⟨List.nodup_nil, by simp, by simp, fun p s q e => by simp at e, rfl, by simp, fun j h => by simp at h⟩
theorem play_step {A : List Ops} {l : Prs} {ord : List Nat} {g : Nat → Bool} {X : Prs} {T : List Bool} (h : PlayI A l ord g X T) {s : Nat} (hs : s < A.length) (hg : g s = false) (hm : mayB A g s = true) :
    PlayI A l (ord ++ [s]) (goneW g s) (runS X (A.getD s [])) (T.set s (runB X (A.getD s []))) := by
  have hno : s ∉ ord := fun e => by rw [(h.gone s).2 e] at hg; cases hg
  refine ⟨?_, ?_, ?_, ?_, ?_, by simpa using h.len, ?_⟩
  · rw [List.nodup_append]
    exact ⟨h.nodup, by simp, fun a ha b hb e => by simp at hb; subst hb; subst e; exact hno ha⟩
  · intro i hi
    rcases List.mem_append.1 hi with e | e
    · exact h.lt i e
    · simp at e; subst e; exact hs
  · intro i
    unfold goneW
    by_cases e : i = s
    · subst e; simp
    · rw [if_neg e, h.gone i]; simp [e]
  · intro p t q e u hu hup
    rcases List.append_eq_append_iff.1 e with ⟨a, e1, e2⟩ | ⟨a, e1, e2⟩
    · cases a with
      | nil =>
        simp at e1 e2
        obtain ⟨rfl, _⟩ := e2
        subst e1
        refine mayB_iff.1 hm u hu ?_
        cases hgu : g u with
        | false => rfl
        | true => exact absurd ((h.gone u).1 hgu) hup
      | cons a0 a => simp at e2
    · cases a with
      | nil =>
        simp at e1 e2
        obtain ⟨rfl, _⟩ := e2
        subst e1
        refine mayB_iff.1 hm u hu ?_
        cases hgu : g u with
        | false => rfl
        | true => exact absurd ((h.gone u).1 hgu) hup
      | cons a0 a =>
        simp at e2
        obtain ⟨rfl, _⟩ := e2
        exact h.adm p t a e1 u hu hup
  · rw [List.map_append, (ser_app _ _ _).1, ← h.sto]; rfl
  · intro j hj
    rw [List.map_append, (ser_app _ _ _).2, ← h.sto]
    have hl : (serB l (ord.map fun i => A.getD i [])).length = ord.length := by rw [serB_len]; simp
    by_cases e : j < ord.length
    · have e1 : (ord ++ [s])[j] = ord[j] := List.getElem_append_left e
      have hne : s ≠ ord[j] := fun q => hno (by rw [q]; exact List.getElem_mem e)
      rw [e1, getD_app (by rw [hl]; exact e), ← h.told j e]
      simp only [List.getD, List.getElem?_set_ne hne]
    · have hj' : j = ord.length := by simp at hj; omega
      subst hj'
      have e1 : (ord ++ [s])[ord.length] = s := by simp
      rw [e1]
      have hsT : s < T.length := by rw [h.len]; exact hs
      exact (getD_set1 hsT).trans (getD_last hl).symm
theorem play_end {A : List Ops} (hA : ∀ d ∈ A, DeedOk d) {l : Prs} (hl : StoreOk l) {ord : List Nat} {g : Nat → Bool} {X : Prs} {T : List Bool} (h : PlayI A l ord g X T) (hg : ∀ t, t < A.length → g t = true) :
    (∀ i, i ∈ ord ↔ i < A.length) ∧ X = serS l A ∧ T = serB l A := by
  have hm : ∀ i, i ∈ ord ↔ i < A.length := fun i => ⟨h.lt i, fun hi => (h.gone i).1 (hg i hi)⟩
  obtain ⟨q1, q2⟩ := adm_same hA hl h.adm h.nodup hm
  refine ⟨hm, by rw [h.sto, q1], ?_⟩
  apply List.ext_getElem
  · rw [h.len, serB_len]
  · intro i h1 h2
    rw [h.len] at h1
    obtain ⟨j, hj, hji⟩ := List.mem_iff_getElem.1 ((hm i).2 h1)
    have t := h.told j hj
    have u := q2 j hj
    rw [hji] at t u
    have t2 : T.getD i false = (serB l A).getD i false := t.trans (by rw [List.getD_eq_getElem?_getD, List.getD_eq_getElem?_getD, u])
    have e1 : T.getD i false = T[i] := by rw [List.getD_eq_getElem?_getD, List.getElem?_eq_getElem (by omega)]; rfl
    have e2 : (serB l A).getD i false = (serB l A)[i] := by rw [List.getD_eq_getElem?_getD, List.getElem?_eq_getElem (by omega)]; rfl
    rw [e1, e2] at t2; exact t2
theorem play_len {A : List Ops} {l : Prs} {ord : List Nat} {g : Nat → Bool} {X : Prs} {T : List Bool} (h : PlayI A l ord g X T) : ord.length ≤ A.length := by
  have := List.Nodup.length_le_of_subset h.nodup (l₂ := List.range A.length) fun i hi => List.mem_range.2 (h.lt i hi)
  simpa using this
end Go.Proofs.YtghemmmkbpfdhaaGreatDoor

/- Contracts and lemmas for the proofs of this seat; each theorem states its own conditions. -/
namespace Go.Proofs.YtghemmmkbpfdhaaGreatDoor
open Go.RowKit
/-! plan.laid -/
set_option maxRecDepth 100000 in
set_option maxHeartbeats 2000000 in
theorem laid_ok (vd : Value) (D : List Ops) (w : World) (hvd : SegDs w vd D) (dok : ∀ d ∈ D, DeedOk d) (dsm : ∀ d ∈ D, ∀ o ∈ d, o.from_.size ≤ 9223372036854775807) (hdl : D.length ≤ 60) :
    Calls Tryz.prog 35 #[vd] w fun e w' => ∃ bt bk bd F G, e = .returned (.tuple #[.pointer (some ⟨bt, 0, none⟩), .int .i64 0]) ∧ LockSt w' w.heap.size bt bk bd D (fun _ => false) F G ∧ Ext w w' := by
  obtain ⟨aD, cD, rfl, hc1, hc2, hcell⟩ := hvd.form
  have HC := hid hcell
  clear hcell hvd
  unfold maxLen at hc2
  go_enter Tryz.func35, Tryz.ntmps35
  go_wp2_with fail
  refine (lnew_ok _).mono ?_
  rintro e w3 ⟨bt, bk, bd, rfl, L0, E3⟩
  go_wp2_with fail
  go_loopw [6, 7, 8, 15] (fun _ _ _ i wr => ∃ (k : Nat) (F : ByteArray → Option SV) (G : Int → Option SV), k ≤ D.length ∧ i = .int .i64 k ∧ LockSt wr w.heap.size bt bk bd (D.take k) (fun _ => false) F G ∧ TFr w.heap.size bt bk bd w3 wr) (fun _ _ _ i _ => D.length - (intOf i).toNat)
  case atStart => exact ⟨0, _, _, Nat.zero_le _, rfl, L0, TFr.refl _⟩
  case round =>
    obtain ⟨wo, rfl⟩ : ∃ wo : World, wo = wr := ⟨_, rfl⟩
    obtain ⟨k, F, G, hk, rfl, hL, hT⟩ := hrel
    have Er := hT.low E3 (Nat.le_refl _)
    by_cases hlt : k < D.length
    · obtain ⟨b, off, rfl, hcc⟩ := HC.out (by omega)
      obtain ⟨x1, y1, c1, s1⟩ := hcc k D[k] (List.getElem?_eq_getElem hlt)
      replace c1 := Er.cell c1
      replace s1 := s1.ext Er
      have d1 := dok _ (List.getElem_mem hlt)
      have f1 := dsm _ (List.getElem_mem hlt)
      have hdt : D.take k ++ [D[k]] = D.take (k + 1) := (List.take_succ_eq_append_getElem hlt).symm
      have hlk : (D.take k).length = k := by rw [List.length_take]; omega
      clear hcc
      generalize D[k] = p at c1 s1 d1 f1 hdt
      have EA := (Ext.refl wo).alloc (.cells #[.slice x1 p.length y1] 33)
      have z1 := cell_of_one (heap_alloc_new wo (.cells #[.slice x1 p.length y1] 33))
      have AD := add_ok (hL.ext EA) (.slice x1 p.length y1) p (s1.ext EA) d1 f1 (by omega)
      rw [hdt, hlk] at AD
      have AD := hid AD
      have HT := hid ((hT.trans (TFr.of_ext EA)))
      clear hdt hlk hL hT
      go_wp2_with fail
      refine (AD.out).mono ?_
      rintro e w5 ⟨rfl, ⟨F', G', L5⟩, T5⟩
      go_wp2
      go_roundw
      case rel => exact ⟨k + 1, F', G', by omega, by go_num, L5, (HT.out).trans T5⟩
      case measure => simp [intOf] <;> omega
    · obtain rfl : k = D.length := by omega
      rw [List.take_of_length_le (Nat.le_refl _)] at hL
      have HL := hid hL
      clear hL hT L0
      go_wp2
      go_ret2
      exact ⟨bt, bk, bd, F, G, rT2 rfl rfl, HL.out, Er⟩
end Go.Proofs.YtghemmmkbpfdhaaGreatDoor

/- Contracts and lemmas for the proofs of this seat; each theorem states its own conditions. -/
namespace Go.Proofs.YtghemmmkbpfdhaaGreatDoor
open Go.RowKit Go.Maps
/-! writing beside a lock table -/
/-- a row of one's own of another element may be written -/
theorem LockSt.beside {w w' : World} {B bt bk bd : Nat} {A : List Ops} {g : Nat → Bool} {F : ByteArray → Option SV} {G : Int → Option SV} (h : LockSt w B bt bk bd A g F G) {e b : Nat} {cs : Array Value} {fr : Nat × Nat} (hb : w.heap[b]? = some (.cells cs e fr)) (h1 : e ≠ 130) (h2 : e ≠ 123) (h3 : e ≠ 9)
    (hg : w.grownBy w' (some b)) : LockSt w' B bt bk bd A g F G where
  hBt := h.hBt
  hBk := h.hBk
  hBd := h.hBd
  ne := h.ne
  box := by
    have hx := h.box
    rw [hg.block bt (Array.getElem?_eq_some_iff.1 hx).1 (fun e' => by
      injection e' with e'; subst e'; rw [hx] at hb; injection hb with hb; injection hb with _ hb; exact h2 hb.symm)]
    exact hx
  km := by
    obtain ⟨n, D, a, q⟩ := h.km
    refine ⟨n, D, a.kept hg (fun e' => ?_), q⟩
    obtain ⟨es, clock, hm, _⟩ := a
    injection e' with e'; subst e'; rw [hm] at hb; cases hb
  dm := by
    obtain ⟨n, D, a, q⟩ := h.dm
    refine ⟨n, D, a.kept hg (fun e' => ?_), q⟩
    obtain ⟨es, clock, hm, _⟩ := a
    injection e' with e'; subst e'; rw [hm] at hb; cases hb
  keys := fun k => kept_ne hg (h.keys k) (own_ne (h.keys k) hb (fun q => h1 q.symm))
  apart := h.apart
  rows := fun n a b => by obtain ⟨s, e, o⟩ := h.rows n a b; exact ⟨s, e, kept_ne hg o (own_ne o hb (fun q => h3 q.symm))⟩
  nones := h.nones
  later := h.later
  few := h.few
  dok := h.dok
theorem LockSt.beside' {w w' : World} {B bt bk bd : Nat} {A : List Ops} {g : Nat → Bool} {F : ByteArray → Option SV} {G : Int → Option SV} (h : LockSt w B bt bk bd A g F G) {B' e sz n : Nat} {v : Value} {xs : List Value} (ho : w.ownsRow B' e sz v n xs) (h1 : e ≠ 130) (h2 : e ≠ 123) (h3 : e ≠ 9)
    (hg : w.grownBy w' v.ownBlock) : LockSt w' B bt bk bd A g F G := by
  rcases ho.2 with ⟨rfl, _⟩ | ⟨b, cap, cur, rfl, _, hb, _⟩
  · exact h.ext (ext_of_grown' hg)
  · exact h.beside hb h1 h2 h3 hg
end Go.Proofs.YtghemmmkbpfdhaaGreatDoor

/- Contracts and lemmas for the proofs of this seat; each theorem states its own conditions. -/
namespace Go.Proofs.YtghemmmkbpfdhaaGreatDoor
open Go.RowKit
/-- what the row tells of a slice of slices of numbers, as mine -/
theorem segll_of_rows {w : World} {base : Nat} {x : Addr} {len cap : Nat} {A : Nat → Option Addr} {L C : Nat → Nat} {Z : Nat → List Int} (hl : len ≤ cap) (hm : cap ≤ maxLen)
    (h : ∀ r, r < cap → w.cell? (x.add r) = some (.slice (A r) (L r) (C r)) ∧ L r ≤ C r ∧ C r ≤ maxLen ∧ (Z r).length = C r ∧ (∀ n ∈ Z r, (Lit.int .i64 n).wf = true) ∧ (A r = none → C r = 0) ∧
        ∀ a', A r = some a' → base ≤ a'.block ∧ ∀ c, c < C r → w.cell? (a'.add c) = some (.int .i64 ((Z r).getD c 0))) :
    ∃ ls : List (List Int), SegLL w (.slice (some x) len cap) ls ∧ ls.length = len ∧ ∀ l ∈ ls, ∀ z ∈ l, -9223372036854775808 ≤ z ∧ z ≤ 9223372036854775807 := by
  have row : ∀ r, r < cap → Seg w (.slice (A r) (L r) (C r)) 1 ((Z r).take (L r)).length (cI ((Z r).take (L r))) ∧ ∀ z ∈ (Z r).take (L r), -9223372036854775808 ≤ z ∧ z ≤ 9223372036854775807 := fun r hr => by
    obtain ⟨h1, h2, h3, h4, h5, h6, h7⟩ := h r hr
    have hrow := seg_of_row (w := w) (a := A r) (len := L r) (cap := C r) (zs := Z r) (by
      cases ha : A r with
      | none =>
        have := h6 ha
        left
        exact ⟨rfl, by omega, this, List.eq_nil_of_length_eq_zero (by omega)⟩
      | some a' =>
        right
        exact ⟨a', rfl, h2, h3, h4, fun i hi => (h7 a' ha).2 i (by omega), h5⟩)
    exact ⟨hrow.1, hrow.2.1⟩
  refine ⟨(List.range len).map fun r => (Z r).take (L r), ⟨(List.range len).map fun r => .slice (A r) (L r) (C r), by simp, ⟨by simp, some x, cap, by simp, by simpa using hl, hm, fun hn => ?_⟩, fun i u m hu hm' => ?_⟩, by simp, fun l hl' z hz => ?_⟩
  · simp at hn
    have hs := cell_spot (h 0 (by omega)).1
    obtain ⟨b, off, sp⟩ := x
    have : sp = none := by simpa [Addr.add] using hs
    subst this
    refine ⟨b, off, rfl, fun j u hu => ?_⟩
    rw [← addr_add]
    obtain ⟨hj, e⟩ := List.getElem?_eq_some_iff.1 hu
    simp at hj e
    subst e
    exact (h j (by omega)).1
  · obtain ⟨hj, e⟩ := List.getElem?_eq_some_iff.1 hu
    obtain ⟨_, e'⟩ := List.getElem?_eq_some_iff.1 hm'
    simp at hj e e'
    subst e; subst e'
    exact (row i (by omega)).1
  · simp at hl'
    obtain ⟨r, hr, rfl⟩ := hl'
    exact (row r (by omega)).2 z hz
theorem segll_nil (w : World) : SegLL w (.slice none 0 0) [] := ⟨[], rfl, Seg.nil _ _, fun i u m h => by simp at h⟩
theorem seg_rows {w : World} {a : Option Addr} {len cap : Nat} {zs : List Int} (h : (a = none ∧ len = 0 ∧ cap = 0 ∧ zs = []) ∨
    ∃ x, a = some x ∧ len ≤ cap ∧ cap ≤ maxLen ∧ zs.length = cap ∧ (∀ i, i < zs.length → w.cell? (x.add i) = some (.int .i64 (zs.getD i 0))) ∧ ∀ n ∈ zs, (Lit.int .i64 n).wf = true) :
    ∃ l : List Int, Seg w (.slice a len cap) 1 l.length (cI l) ∧ ∀ z ∈ l, -9223372036854775808 ≤ z ∧ z ≤ 9223372036854775807 := ⟨_, (seg_of_row h).1, (seg_of_row h).2.1⟩
end Go.Proofs.YtghemmmkbpfdhaaGreatDoor

/- Contracts and lemmas for the proofs of this seat; each theorem states its own conditions. -/
namespace Go.Proofs.YtghemmmkbpfdhaaGreatDoor
open Go.RowKit
theorem own_nat {w : World} {B n c g : Nat} {l : List Nat} (h : w.ownsRow B 3 1 (.slice (some ⟨g, 0, none⟩) n c) n (cN l)) {i : Nat} (hi : i < l.length) : w.cell? ⟨g, i, none⟩ = some (.int .i64 ((l[i] : Nat) : Int)) := by
  have hl : l.length = n := by have := h.1; simpa [cN] using this
  obtain ⟨_, _, he, _, _, _, hc⟩ := seg_cells (own_seg h) (by omega)
  injection he with he; injection he with he1 he2
  subst he1; subst he2
  have := hc i (.int .i64 ((l[i] : Nat) : Int)) (by simp [cN, hi])
  rw [Nat.zero_add] at this
  exact this
theorem ready_nodup (A : List Ops) (g : Nat → Bool) (n : Nat) : (readyL A g n).Nodup := List.Pairwise.filter _ List.nodup_range
theorem ready_inj {A : List Ops} {g : Nat → Bool} {n i j : Nat} {hi : i < (readyL A g n).length} {hj : j < (readyL A g n).length} (hne : i ≠ j) : (readyL A g n)[i] ≠ (readyL A g n)[j] := by
  rcases Nat.lt_or_ge i j with k | k
  · exact List.pairwise_iff_getElem.1 (ready_nodup A g n) i j hi hj k
  · exact Ne.symm (List.pairwise_iff_getElem.1 (ready_nodup A g n) j i hj hi (by omega))
theorem ready_none {A : List Ops} {g : Nat → Bool} {n : Nat} (h : liveN g n = 0) : readyL A g n = [] := by
  cases e : readyL A g n with
  | nil => rfl
  | cons a l =>
    have ha : a ∈ readyL A g n := by rw [e]; simp
    obtain ⟨a1, a2, _⟩ := ready_mem.1 ha
    rw [live_none h a a1] at a2; cases a2
theorem getD_at {D : List Ops} {i : Nat} (h : i < D.length) : D.getD i [] = D[i] := by simp [h]
end Go.Proofs.YtghemmmkbpfdhaaGreatDoor
