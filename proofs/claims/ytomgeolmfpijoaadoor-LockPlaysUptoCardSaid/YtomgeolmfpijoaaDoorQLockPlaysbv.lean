/- Contracts and lemmas for the proof of LockPlays; each theorem states its own conditions. -/
import Derived.Test.YtomgeolmfpijoaaDoorQLockPlaysbu
import Derived.Test.YtomgeolmfpijoaaDoorQLockPlaysbt
set_option linter.unusedVariables false
set_option linter.unusedSimpArgs false
/- Contracts and lemmas for the proofs of this seat; each theorem states its own conditions. -/
namespace Go.Proofs.YtomgeolmfpijoaaDoor
/-! plain laws of plan's rows -/
def iN (l : List Nat) : List Int := l.map fun (n : Nat) => (n : Int)
theorem iN_len (l : List Nat) : (iN l).length = l.length := by simp [iN]
theorem iN_app (a b : List Nat) : iN (a ++ b) = iN a ++ iN b := by simp [iN]
theorem iN_at (l : List Nat) {k : Nat} (h : k < l.length) : (iN l).getD k 0 = ((l.getD k 0 : Nat) : Int) := by simp [iN, h]
/-- the rounds of the first i, the next one's so far, and noughts -/
def rL (A : List Ops) (n i x : Nat) : List Int := iN (rndTo A i) ++ (x : Int) :: List.replicate (n - (i + 1)) 0
def oL (A : List Ops) (n i : Nat) : List Int := iN (rndTo A i) ++ List.replicate (n - i) 0
theorem rL_len {A : List Ops} {n i x : Nat} (h : i < n) : (rL A n i x).length = n := by simp [rL, iN_len, rndTo_len]; omega
theorem oL_len {A : List Ops} {n i : Nat} (h : i ≤ n) : (oL A n i).length = n := by simp [oL, iN_len, rndTo_len]; omega
theorem rL_start {A : List Ops} {n i : Nat} (h : i < n) : rL A n i 0 = oL A n i := by
  unfold rL oL
  have : n - i = (n - (i + 1)) + 1 := by omega
  rw [this, List.replicate_succ]; rfl
theorem rL_end {A : List Ops} {n i : Nat} : rL A n i (rnd1 A (rndTo A i) i i) = oL A n (i + 1) := by
  unfold rL oL
  rw [rndTo, iN_app]
  simp [iN]
theorem rL_at {A : List Ops} {n i x k : Nat} (h : k < i) : (rL A n i x).getD k 0 = ((rndTo A i).getD k 0 : Nat) := by
  rw [← iN_at _ (by rw [rndTo_len]; exact h)]
  unfold rL
  rw [getD_app (by rw [iN_len, rndTo_len]; exact h)]
theorem rL_self {A : List Ops} {n i x : Nat} : (rL A n i x).getD i 0 = (x : Int) := by
  unfold rL
  simp [List.getD, List.getElem?_append_right, iN_len, rndTo_len]
theorem rL_set {A : List Ops} {n i x : Nat} (y : Nat) : (rL A n i x).set i (y : Int) = rL A n i y := by
  unfold rL
  rw [List.set_append, if_neg (by rw [iN_len, rndTo_len]; omega), iN_len, rndTo_len, Nat.sub_self]
  rfl
theorem oL_zero (A : List Ops) (n : Nat) : oL A n 0 = List.replicate n 0 := by simp [oL, rndTo, iN]
theorem oL_all (A : List Ops) (n : Nat) : oL A n n = iN (rndTo A n) := by simp [oL]
theorem iN_rnd (A : List Ops) {n i : Nat} (h : i < n) : (iN (rndTo A n)).getD i 0 = (rnd A i : Int) := by
  rw [iN_at _ (by rw [rndTo_len]; exact h), rndTo_at A n i h]
/-- the places, filled with -1 up to i -/
def mL (n i : Nat) : List Int := List.replicate i (-1) ++ List.replicate (n - i) 0
theorem mL_len {n i : Nat} (h : i ≤ n) : (mL n i).length = n := by simp [mL]; omega
theorem mL_set {n i : Nat} (h : i < n) : (mL n i).set i (-1) = mL n (i + 1) := by
  unfold mL
  rw [List.set_append, if_neg (by simp)]
  have e : n - i = (n - (i + 1)) + 1 := by omega
  rw [e, List.replicate_succ, List.length_replicate, Nat.sub_self, List.set_cons_zero]
  rw [List.replicate_succ' (n := i), List.append_assoc]; rfl
theorem mL_zero (n : Nat) : mL n 0 = List.replicate n 0 := by simp [mL]
theorem mL_all (n : Nat) : mL n n = List.replicate n (-1) := by simp [mL]
end Go.Proofs.YtomgeolmfpijoaaDoor

/- Contracts and lemmas for the proofs of this seat; each theorem states its own conditions. -/
namespace Go.Proofs.YtomgeolmfpijoaaDoor
/-! plan.Play, in plain lists -/
structure PlayI (A : List Ops) (l : Prs) (ord : List Nat) (g : Nat → Bool) (X : Prs) (T : List Bool) : Prop where
  nodup : ord.Nodup
  lt : ∀ i ∈ ord, i < A.length
  gone : ∀ i, g i = true ↔ i ∈ ord
  adm : AdmO A ord
  sto : X = serS l (ord.map fun i => A.getD i [])
  len : T.length = A.length
  told : ∀ j (h : j < ord.length), T.getD ord[j] false = (serB l (ord.map fun i => A.getD i [])).getD j false
theorem getD_set1 {T : List Bool} {s : Nat} {b : Bool} (h : s < T.length) : (T.set s b).getD s false = b := by simp [h]
theorem getD_last {x : List Bool} {n : Nat} {b : Bool} (h : x.length = n) : (x ++ [b]).getD n false = b := by subst h; simp
theorem play_start (A : List Ops) (l : Prs) : PlayI A l [] (fun _ => false) l (List.replicate A.length false) :=
  ⟨List.nodup_nil, by simp, by simp, fun p s q e => by simp at e, rfl, by simp, fun j h => by simp at h⟩
theorem play_step {A : List Ops} {l : Prs} {ord : List Nat} {g : Nat → Bool} {X : Prs} {T : List Bool} (h : PlayI A l ord g X T) {s : Nat} (hs : s < A.length) (hg : g s = false) (hm : mayB A g s = true) :
    PlayI A l (ord ++ [s]) (goneW g s) (runS X (A.getD s [])) (T.set s (runB X (A.getD s []))) := by
  have hno : s ∉ ord := fun e => by rw [(h.gone s).2 e] at hg; cases hg
  refine ⟨?_, ?_, ?_, ?_, ?_, by simpa using h.len, ?_⟩
  · rw [List.nodup_append]
    exact ⟨h.nodup, by simp, fun a ha b hb e => by simp at hb; subst hb; subst e; exact hno ha⟩
  · intro i hi
    rcases List.mem_append.1 hi with e | e
    · exact h.lt i e
    · simp at e; subst e; exact hs
  · intro i
    unfold goneW
    by_cases e : i = s
    · subst e; simp
    · rw [if_neg e, h.gone i]; simp [e]
  · intro p t q e u hu hup
    rcases List.append_eq_append_iff.1 e with ⟨a, e1, e2⟩ | ⟨a, e1, e2⟩
    · cases a with
      | nil =>
        simp at e1 e2
        obtain ⟨rfl, _⟩ := e2
        subst e1
        refine mayB_iff.1 hm u hu ?_
        cases hgu : g u with
        | false => rfl
        | true => exact absurd ((h.gone u).1 hgu) hup
      | cons a0 a => simp at e2
    · cases a with
      | nil =>
        simp at e1 e2
        obtain ⟨rfl, _⟩ := e2
        subst e1
        refine mayB_iff.1 hm u hu ?_
        cases hgu : g u with
        | false => rfl
        | true => exact absurd ((h.gone u).1 hgu) hup
      | cons a0 a =>
        simp at e2
        obtain ⟨rfl, _⟩ := e2
        exact h.adm p t a e1 u hu hup
  · rw [List.map_append, (ser_app _ _ _).1, ← h.sto]; rfl
  · intro j hj
    rw [List.map_append, (ser_app _ _ _).2, ← h.sto]
    have hl : (serB l (ord.map fun i => A.getD i [])).length = ord.length := by rw [serB_len]; simp
    by_cases e : j < ord.length
    · have e1 : (ord ++ [s])[j] = ord[j] := List.getElem_append_left e
      have hne : s ≠ ord[j] := fun q => hno (by rw [q]; exact List.getElem_mem e)
      rw [e1, getD_app (by rw [hl]; exact e), ← h.told j e]
      simp only [List.getD, List.getElem?_set_ne hne]
    · have hj' : j = ord.length := by simp at hj; omega
      subst hj'
      have e1 : (ord ++ [s])[ord.length] = s := by simp
      rw [e1]
      have hsT : s < T.length := by rw [h.len]; exact hs
      exact (getD_set1 hsT).trans (getD_last hl).symm
theorem play_end {A : List Ops} (hA : ∀ d ∈ A, DeedOk d) {l : Prs} (hl : StoreOk l) {ord : List Nat} {g : Nat → Bool} {X : Prs} {T : List Bool} (h : PlayI A l ord g X T) (hg : ∀ t, t < A.length → g t = true) :
    (∀ i, i ∈ ord ↔ i < A.length) ∧ X = serS l A ∧ T = serB l A := by
  have hm : ∀ i, i ∈ ord ↔ i < A.length := fun i => ⟨h.lt i, fun hi => (h.gone i).1 (hg i hi)⟩
  obtain ⟨q1, q2⟩ := adm_same hA hl h.adm h.nodup hm
  refine ⟨hm, by rw [h.sto, q1], ?_⟩
  apply List.ext_getElem
  · rw [h.len, serB_len]
  · intro i h1 h2
    rw [h.len] at h1
    obtain ⟨j, hj, hji⟩ := List.mem_iff_getElem.1 ((hm i).2 h1)
    have t := h.told j hj
    have u := q2 j hj
    rw [hji] at t u
    have t2 : T.getD i false = (serB l A).getD i false := t.trans (by rw [List.getD_eq_getElem?_getD, List.getD_eq_getElem?_getD, u])
    have e1 : T.getD i false = T[i] := by rw [List.getD_eq_getElem?_getD, List.getElem?_eq_getElem (by omega)]; rfl
    have e2 : (serB l A).getD i false = (serB l A)[i] := by rw [List.getD_eq_getElem?_getD, List.getElem?_eq_getElem (by omega)]; rfl
    rw [e1, e2] at t2; exact t2
theorem play_len {A : List Ops} {l : Prs} {ord : List Nat} {g : Nat → Bool} {X : Prs} {T : List Bool} (h : PlayI A l ord g X T) : ord.length ≤ A.length := by
  have := List.Nodup.length_le_of_subset h.nodup (l₂ := List.range A.length) fun i hi => List.mem_range.2 (h.lt i hi)
  simpa using this
end Go.Proofs.YtomgeolmfpijoaaDoor

/- Contracts and lemmas for the proofs of this seat; each theorem states its own conditions. -/
namespace Go.Proofs.YtomgeolmfpijoaaDoor
open Go.RowKit
/-! plan.laid -/
set_option maxRecDepth 100000 in
set_option maxHeartbeats 2000000 in
theorem laid_ok (vd : Value) (D : List Ops) (w : World) (hvd : SegDs w vd D) (dok : ∀ d ∈ D, DeedOk d) (dsm : ∀ d ∈ D, ∀ o ∈ d, o.from_.size ≤ 9223372036854775807) (hdl : D.length ≤ 60) :
    Calls Tryd.prog 110 #[vd] w fun e w' => ∃ bt bk bd F G, e = .returned (.tuple #[.pointer (some ⟨bt, 0, none⟩), .int .i64 0]) ∧ LockSt w' w.heap.size bt bk bd D (fun _ => false) F G ∧ Ext w w' := by
  obtain ⟨aD, cD, rfl, hc1, hc2, hcell⟩ := hvd.form
  have HC := hid hcell
  clear hcell hvd
  unfold maxLen at hc2
  go_enter Tryd.func110, Tryd.ntmps110
  go_wp2_with fail
  refine (lnew_ok _).mono ?_
  rintro e w3 ⟨bt, bk, bd, rfl, L0, E3⟩
  go_wp2_with fail
  go_loopw [6, 7, 8, 15] (fun _ _ _ i wr => ∃ (k : Nat) (F : ByteArray → Option SV) (G : Int → Option SV), k ≤ D.length ∧ i = .int .i64 k ∧ LockSt wr w.heap.size bt bk bd (D.take k) (fun _ => false) F G ∧ TFr w.heap.size bt bk bd w3 wr) (fun _ _ _ i _ => D.length - (intOf i).toNat)
  case atStart => exact ⟨0, _, _, Nat.zero_le _, rfl, L0, TFr.refl _⟩
  case round =>
    obtain ⟨wo, rfl⟩ : ∃ wo : World, wo = wr := ⟨_, rfl⟩
    obtain ⟨k, F, G, hk, rfl, hL, hT⟩ := hrel
    have Er := hT.low E3 (Nat.le_refl _)
    by_cases hlt : k < D.length
    · obtain ⟨b, off, rfl, hcc⟩ := HC.out (by omega)
      obtain ⟨x1, y1, c1, s1⟩ := hcc k D[k] (List.getElem?_eq_getElem hlt)
      replace c1 := Er.cell c1
      replace s1 := s1.ext Er
      have d1 := dok _ (List.getElem_mem hlt)
      have f1 := dsm _ (List.getElem_mem hlt)
      have hdt : D.take k ++ [D[k]] = D.take (k + 1) := (List.take_succ_eq_append_getElem hlt).symm
      have hlk : (D.take k).length = k := by rw [List.length_take]; omega
      clear hcc
      generalize D[k] = p at c1 s1 d1 f1 hdt
      have EA := (Ext.refl wo).alloc (.cells #[.slice x1 p.length y1] 46)
      have z1 := cell_of_one (heap_alloc_new wo (.cells #[.slice x1 p.length y1] 46))
      have AD := add_ok (hL.ext EA) (.slice x1 p.length y1) p (s1.ext EA) d1 f1 (by omega)
      rw [hdt, hlk] at AD
      have AD := hid AD
      have HT := hid ((hT.trans (TFr.of_ext EA)))
      clear hdt hlk hL hT
      go_wp2_with fail
      refine (AD.out).mono ?_
      rintro e w5 ⟨rfl, ⟨F', G', L5⟩, T5⟩
      go_wp2
      go_roundw
      case rel => exact ⟨k + 1, F', G', by omega, by go_num, L5, (HT.out).trans T5⟩
      case measure => simp [intOf] <;> omega
    · obtain rfl : k = D.length := by omega
      rw [List.take_of_length_le (Nat.le_refl _)] at hL
      have HL := hid hL
      clear hL hT L0
      go_wp2
      go_ret2
      exact ⟨bt, bk, bd, F, G, rT2 rfl rfl, HL.out, Er⟩
end Go.Proofs.YtomgeolmfpijoaaDoor
