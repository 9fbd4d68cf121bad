/- Contracts and lemmas for the proof of TopPlan; each theorem states its own conditions. -/
import Derived.Test.YtimchedebcoohaaGreatQTopPlanbp
import Derived.Test.YtimchedebcoohaaGreatQTopPlanbq
import Derived.Test.YtimchedebcoohaaGreatQTopPlanba
import Derived.Test.YtimchedebcoohaaGreatQTopPlanbi
import Derived.Test.YtimchedebcoohaaGreatQTopPlanbd
import Derived.BigQuiet
set_option linter.unusedVariables false
set_option linter.unusedSimpArgs false
/- Contracts and lemmas for the proofs of this seat; each theorem states its own conditions. -/
namespace Go.Proofs.YtimchedebcoohaaGreat
open Go.RowKit Go.Maps
/-! rokeep.lockBegun -/
theorem lnew_ok (w : World) : Calls Tryz.prog 103 #[] w fun e w' => ∃ bt bk bd, e = .returned (.pointer (some ⟨bt, 0, none⟩)) ∧ LockSt w' w.heap.size bt bk bd [] (fun _ => false) (fun _ => none) (fun _ => none) ∧ Ext w w' := by
  refine (lnew_any w).mono ?_
  rintro e w' ⟨rfl, h, E⟩
  exact ⟨_, _, _, rfl, h, E⟩
end Go.Proofs.YtimchedebcoohaaGreat

/- Contracts and lemmas for the proofs of this seat; each theorem states its own conditions. -/
namespace Go.Proofs.YtimchedebcoohaaGreat
/-! plain laws of plan's rows -/
def iN (l : List Nat) : List Int := l.map fun (n : Nat) => (n : Int)
def oL (A : List Ops) (n i : Nat) : List Int := iN (rndTo A i) ++ List.replicate (n - i) 0
/-- the places, filled with -1 up to i -/
def mL (n i : Nat) : List Int := List.replicate i (-1) ++ List.replicate (n - i) 0
theorem mL_len {n i : Nat} (h : i ≤ n) : (mL n i).length = n := by simp [mL]; omega
theorem mL_set {n i : Nat} (h : i < n) : (mL n i).set i (-1) = mL n (i + 1) := by
  unfold mL
  rw [List.set_append, if_neg (by simp)]
  have e : n - i = (n - (i + 1)) + 1 := by omega
  rw [e, List.replicate_succ, List.length_replicate, Nat.sub_self, List.set_cons_zero]
  rw [List.replicate_succ' (n := i), List.append_assoc]; rfl
theorem mL_zero (n : Nat) : mL n 0 = List.replicate n 0 := by simp [mL]
theorem mL_all (n : Nat) : mL n n = List.replicate n (-1) := by simp [mL]
end Go.Proofs.YtimchedebcoohaaGreat

/- Contracts and lemmas for the proofs of this seat; each theorem states its own conditions. -/
namespace Go.Proofs.YtimchedebcoohaaGreat
/-! plan.Play, in plain lists -/
structure PlayI (A : List Ops) (l : Prs) (ord : List Nat) (g : Nat → Bool) (X : Prs) (T : List Bool) : Prop where
  nodup : ord.Nodup
  lt : ∀ i ∈ ord, i < A.length
  gone : ∀ i, g i = true ↔ i ∈ ord
  adm : AdmO A ord
  sto : X = serS l (ord.map fun i => A.getD i [])
  len : T.length = A.length
  told : ∀ j (h : j < ord.length), T.getD ord[j] false = (serB l (ord.map fun i => A.getD i [])).getD j false
theorem getD_set1 {T : List Bool} {s : Nat} {b : Bool} (h : s < T.length) : (T.set s b).getD s false = b := by simp [h]
theorem getD_last {x : List Bool} {n : Nat} {b : Bool} (h : x.length = n) : (x ++ [b]).getD n false = b := by subst h; simp
theorem play_start (A : List Ops) (l : Prs) : PlayI A l [] (fun _ => false) l (List.replicate A.length false) :=
  ⟨List.nodup_nil, by simp, by simp, fun p s q e => by simp at e, rfl, by simp, fun j h => by simp at h⟩
theorem play_step {A : List Ops} {l : Prs} {ord : List Nat} {g : Nat → Bool} {X : Prs} {T : List Bool} (h : PlayI A l ord g X T) {s : Nat} (hs : s < A.length) (hg : g s = false) (hm : mayB A g s = true) :
    PlayI A l (ord ++ [s]) (goneW g s) (runS X (A.getD s [])) (T.set s (runB X (A.getD s []))) := by
  have hno : s ∉ ord := fun e => by rw [(h.gone s).2 e] at hg; cases hg
  refine ⟨?_, ?_, ?_, ?_, ?_, by simpa using h.len, ?_⟩
  · rw [List.nodup_append]
    exact ⟨h.nodup, by simp, fun a ha b hb e => by simp at hb; subst hb; subst e; exact hno ha⟩
  · intro i hi
    rcases List.mem_append.1 hi with e | e
    · exact h.lt i e
    · simp at e; subst e; exact hs
  · intro i
    unfold goneW
    by_cases e : i = s
    · subst e; simp
    · rw [if_neg e, h.gone i]; simp [e]
  · intro p t q e u hu hup
    rcases List.append_eq_append_iff.1 e with ⟨a, e1, e2⟩ | ⟨a, e1, e2⟩
    · cases a with
      | nil =>
        simp at e1 e2
        obtain ⟨rfl, _⟩ := e2
        subst e1
        refine mayB_iff.1 hm u hu ?_
        cases hgu : g u with
        | false => rfl
        | true => exact absurd ((h.gone u).1 hgu) hup
      | cons a0 a => simp at e2
    · cases a with
      | nil =>
        simp at e1 e2
        obtain ⟨rfl, _⟩ := e2
        subst e1
        refine mayB_iff.1 hm u hu ?_
        cases hgu : g u with
        | false => rfl
        | true => exact absurd ((h.gone u).1 hgu) hup
      | cons a0 a =>
        simp at e2
        obtain ⟨rfl, _⟩ := e2
        exact h.adm p t a e1 u hu hup
  · rw [List.map_append, (ser_app _ _ _).1, ← h.sto]; rfl
  · intro j hj
    rw [List.map_append, (ser_app _ _ _).2, ← h.sto]
    have hl : (serB l (ord.map fun i => A.getD i [])).length = ord.length := by rw [serB_len]; simp
    by_cases e : j < ord.length
    · have e1 : (ord ++ [s])[j] = ord[j] := List.getElem_append_left e
      have hne : s ≠ ord[j] := fun q => hno (by rw [q]; exact List.getElem_mem e)
      rw [e1, getD_app (by rw [hl]; exact e), ← h.told j e]
      simp only [List.getD, List.getElem?_set_ne hne]
    · have hj' : j = ord.length := by simp at hj; omega
      subst hj'
      have e1 : (ord ++ [s])[ord.length] = s := by simp
      rw [e1]
      have hsT : s < T.length := by rw [h.len]; exact hs
      exact (getD_set1 hsT).trans (getD_last hl).symm
theorem play_end {A : List Ops} (hA : ∀ d ∈ A, DeedOk d) {l : Prs} (hl : StoreOk l) {ord : List Nat} {g : Nat → Bool} {X : Prs} {T : List Bool} (h : PlayI A l ord g X T) (hg : ∀ t, t < A.length → g t = true) :
    (∀ i, i ∈ ord ↔ i < A.length) ∧ X = serS l A ∧ T = serB l A := by
  have hm : ∀ i, i ∈ ord ↔ i < A.length := fun i => ⟨h.lt i, fun hi => (h.gone i).1 (hg i hi)⟩
  obtain ⟨q1, q2⟩ := adm_same hA hl h.adm h.nodup hm
  refine ⟨hm, by rw [h.sto, q1], ?_⟩
  apply List.ext_getElem
  · rw [h.len, serB_len]
  · intro i h1 h2
    rw [h.len] at h1
    obtain ⟨j, hj, hji⟩ := List.mem_iff_getElem.1 ((hm i).2 h1)
    have t := h.told j hj
    have u := q2 j hj
    rw [hji] at t u
    have t2 : T.getD i false = (serB l A).getD i false := t.trans (by rw [List.getD_eq_getElem?_getD, List.getD_eq_getElem?_getD, u])
    have e1 : T.getD i false = T[i] := by rw [List.getD_eq_getElem?_getD, List.getElem?_eq_getElem (by omega)]; rfl
    have e2 : (serB l A).getD i false = (serB l A)[i] := by rw [List.getD_eq_getElem?_getD, List.getElem?_eq_getElem (by omega)]; rfl
    rw [e1, e2] at t2; exact t2
end Go.Proofs.YtimchedebcoohaaGreat

/- Contracts and lemmas for the proofs of this seat; each theorem states its own conditions. -/
namespace Go.Proofs.YtimchedebcoohaaGreat
open Go.RowKit
/-! plan.laid -/
set_option maxRecDepth 100000 in
set_option maxHeartbeats 2000000 in
theorem laid_ok (vd : Value) (D : List Ops) (w : World) (hvd : SegDs w vd D) (dok : ∀ d ∈ D, DeedOk d) (dsm : ∀ d ∈ D, ∀ o ∈ d, o.from_.size ≤ 9223372036854775807) (hdl : D.length ≤ 60) :
    Calls Tryz.prog 71 #[vd] w fun e w' => ∃ bt bk bd F G, e = .returned (.tuple #[.pointer (some ⟨bt, 0, none⟩), .int .i64 0]) ∧ LockSt w' w.heap.size bt bk bd D (fun _ => false) F G ∧ Ext w w' := by
  obtain ⟨aD, cD, rfl, hc1, hc2, hcell⟩ := hvd.form
  have HC := hid hcell
  clear hcell hvd
  unfold maxLen at hc2
  go_enter Tryz.func71, Tryz.ntmps71
  go_wp2_with fail
  refine (lnew_ok _).mono ?_
  rintro e w3 ⟨bt, bk, bd, rfl, L0, E3⟩
  go_wp2_with fail
  go_loopw [6, 7, 8, 15] (fun _ _ _ i wr => ∃ (k : Nat) (F : ByteArray → Option SV) (G : Int → Option SV), k ≤ D.length ∧ i = .int .i64 k ∧ LockSt wr w.heap.size bt bk bd (D.take k) (fun _ => false) F G ∧ TFr w.heap.size bt bk bd w3 wr) (fun _ _ _ i _ => D.length - (intOf i).toNat)
  case atStart => exact ⟨0, _, _, Nat.zero_le _, rfl, L0, TFr.refl _⟩
  case round =>
    obtain ⟨wo, rfl⟩ : ∃ wo : World, wo = wr := ⟨_, rfl⟩
    obtain ⟨k, F, G, hk, rfl, hL, hT⟩ := hrel
    have Er := hT.low E3 (Nat.le_refl _)
    by_cases hlt : k < D.length
    · obtain ⟨b, off, rfl, hcc⟩ := HC.out (by omega)
      obtain ⟨x1, y1, c1, s1⟩ := hcc k D[k] (List.getElem?_eq_getElem hlt)
      replace c1 := Er.cell c1
      replace s1 := s1.ext Er
      have d1 := dok _ (List.getElem_mem hlt)
      have f1 := dsm _ (List.getElem_mem hlt)
      have hdt : D.take k ++ [D[k]] = D.take (k + 1) := (List.take_succ_eq_append_getElem hlt).symm
      have hlk : (D.take k).length = k := by rw [List.length_take]; omega
      clear hcc
      generalize D[k] = p at c1 s1 d1 f1 hdt
      have EA := (Ext.refl wo).alloc (.cells #[.slice x1 p.length y1] 29)
      have z1 := cell_of_one (heap_alloc_new wo (.cells #[.slice x1 p.length y1] 29))
      have AD := add_ok (hL.ext EA) (.slice x1 p.length y1) p (s1.ext EA) d1 f1 (by omega)
      rw [hdt, hlk] at AD
      have AD := hid AD
      have HT := hid ((hT.trans (TFr.of_ext EA)))
      clear hdt hlk hL hT
      go_wp2_with fail
      refine (AD.out).mono ?_
      rintro e w5 ⟨rfl, ⟨F', G', L5⟩, T5⟩
      go_wp2
      go_roundw
      case rel => exact ⟨k + 1, F', G', by omega, by go_num, L5, (HT.out).trans T5⟩
      case measure => simp [intOf] <;> omega
    · obtain rfl : k = D.length := by omega
      rw [List.take_of_length_le (Nat.le_refl _)] at hL
      have HL := hid hL
      clear hL hT L0
      go_wp2
      go_ret2
      exact ⟨bt, bk, bd, F, G, rT2 rfl rfl, HL.out, Er⟩
end Go.Proofs.YtimchedebcoohaaGreat

/- Contracts and lemmas for the proofs of this seat; each theorem states its own conditions. -/
namespace Go.Proofs.YtimchedebcoohaaGreat
open Go.RowKit
/-! plan.Order -/
theorem cN_at (l : List Nat) {j : Nat} (h : j < l.length) : (cN l)[j]? = some (.int .i64 ((l[j] : Nat) : Int)) := by simp [cN, h]
theorem atL_new {n : Nat} {ord : List Nat} (hn : ord.Nodup) {j : Nat} (hj : j < ord.length) (hk : ord[j] < n) : (atL n ord j).getD ord[j] 0 = -1 := by
  have hno : ord[j] ∉ ord.take j := fun hm => by
    obtain ⟨i, hi, he⟩ := List.mem_iff_getElem.1 hm
    rw [List.length_take] at hi
    rw [List.getElem_take] at he
    have := nd_inj hn he
    omega
  have := (atL_at hn j (Nat.le_of_lt hj) ord[j] hk).1 hno
  simp [List.getD, this]
theorem ordB_no {A : List Ops} {at_ : List Int} {n i k : Nat} (hi : i < n) (hk : k < i) (hc : clashB (A.getD k []) (A.getD i []) = true) (h : at_.getD i 0 < at_.getD k 0) : ordB A at_ n = false := by
  cases e : ordB A at_ n with
  | false => rfl
  | true => have := ordB_iff.1 e i hi k hk hc; omega
theorem getD_atO {D : List Ops} {i : Nat} (h : i < D.length) : D.getD i [] = D[i] := by simp [h]
set_option maxRecDepth 100000 in
set_option maxHeartbeats 2000000 in
theorem order_ok (vd vo : Value) (D : List Ops) (ord : List Nat) (w : World) (hvd : SegDs w vd D) (dok : ∀ d ∈ D, DeedOk d) (dsm : ∀ d ∈ D, ∀ o ∈ d, o.from_.size ≤ 9223372036854775807) (hdl : D.length ≤ 60)
    (hvo : Seg w vo 1 ord.length (cN ord)) (hlo : ord.length = D.length) (hnd : ord.Nodup) (hlt0 : ∀ i ∈ ord, i < D.length) :
    Calls Tryz.prog 62 #[vd, vo] w fun e w' => e = .returned (.tuple #[.bool (ordB D (atL D.length ord D.length) D.length), .int .i64 0]) ∧ Ext w w' := by
  obtain ⟨AT, hAT⟩ : ∃ AT, atL D.length ord D.length = AT := ⟨_, rfl⟩
  rw [hAT]
  obtain ⟨OB, hOB⟩ : ∃ OB, ordB D AT D.length = OB := ⟨_, rfl⟩
  rw [hOB]
  have HAT := hid hAT
  have HOB := hid hOB
  clear hAT hOB
  have LD := hid (laid_ok vd D w hvd dok dsm hdl)
  obtain ⟨aD, cD, rfl, hc1, hc2, hcell⟩ := hvd.form
  have HC := hid hcell
  clear hcell hvd
  unfold maxLen at hc2
  obtain ⟨_, ao, co, rfl, ho1, ho2, ho3⟩ := hvo
  rw [hlo] at ho1 ho3 ⊢
  unfold maxLen at ho2
  have HO := hid ho3
  have HLO := hid hlo
  clear ho3 hlo
  go_enter Tryz.func62, Tryz.ntmps62
  go_wp2_with fail
  refine (LD.out).mono ?_
  rintro e w1 ⟨bt, bk, bd, F, G, rfl, _, E1⟩
  clear LD
  have qn : ((D.length : Int) != (D.length : Int)) = false := by simp
  go_wp2_with (first | (at_make; refine wpList_make_int _ rfl _ _ rfl D.length rfl rfl (by omega) ?_; intro v' w2 ho hf hE; obtain ⟨cA, rfl⟩ := hf))
  obtain ⟨gA, hgA⟩ : ∃ gA, w1.heap.size = gA := ⟨_, rfl⟩
  rw [hgA] at ho
  simp only [hgA]
  have hgl : w.heap.size ≤ gA := by have := E1.size'; omega
  replace E1 := E1.trans hE
  clear hgA hE
  go_loopw [9, 34] (fun _ iv wr => ∃ i : Nat, i ≤ D.length ∧ iv = .int .i64 i ∧ wr.ownsRow gA 3 1 (.slice (some ⟨gA, 0, none⟩) D.length cA) D.length (cI (mL D.length i)) ∧ Ext w wr) (fun _ iv _ => D.length - (intOf iv).toNat)
  case atStart => exact ⟨0, Nat.zero_le _, rfl, by rw [mL_zero]; exact ho, E1⟩
  case round =>
    clear ho E1
    obtain ⟨i, hi, rfl, ho, E1⟩ := hrel
    by_cases hlt : i < D.length
    · have hil : i < (mL D.length i).length := by rw [mL_len hi]; exact hlt
      obtain ⟨c1, f1⟩ := own_int ho hil
      have hs := own_int_set ho hil (-1)
      rw [mL_set hlt] at hs
      go_wp2
      go_roundw
      case rel => exact ⟨i + 1, by omega, by go_num, hs, E1.setCell hgl _⟩
      case measure => simp [intOf] <;> omega
    · obtain rfl : i = D.length := by omega
      rw [mL_all] at ho
      go_wp2_with fail
      go_loopw [10, 11, 43] (fun _ _ iv wr => ∃ j : Nat, j ≤ D.length ∧ iv = .int .i64 j ∧ wr.ownsRow gA 3 1 (.slice (some ⟨gA, 0, none⟩) D.length cA) D.length (cI (atL D.length ord j)) ∧ Ext w wr) (fun _ _ iv _ => D.length - (intOf iv).toNat)
      case atStart => exact ⟨0, Nat.zero_le _, rfl, ho, E1⟩
      case round =>
        clear ho E1
        obtain ⟨j, hj, rfl, ho, E1⟩ := hrel
        by_cases hlt : j < D.length
        · obtain ⟨bo, oo, rfl, hco⟩ := HO.out (by omega)
          have hjo : j < ord.length := by rw [HLO.out]; exact hlt
          have co1 := E1.cell (hco j _ (cN_at ord hjo))
          have hkn := hlt0 _ (List.getElem_mem hjo)
          have hkl : ord[j] < (atL D.length ord j).length := by rw [atL_len]; exact hkn
          obtain ⟨c1, f1⟩ := own_int ho hkl
          rw [atL_new hnd hjo hkn] at c1
          have hs := own_int_set ho hkl (j : Int)
          have hst : (atL D.length ord j).set ord[j] (j : Int) = atL D.length ord (j + 1) := by
            rw [atL, show ord.getD j 0 = ord[j] by simp [hjo]]
          rw [hst] at hs
          have HS := hid hs
          clear hco hs hst hkl
          generalize ord[j] = k at co1 hkn c1 f1 HS
          have qa : ¬ ((k : Int) < 0) := by omega
          have qb : ¬ ((k : Int) ≥ (D.length : Int)) := by omega
          go_wp2
          go_roundw
          case rel => exact ⟨j + 1, by omega, by go_num, HS.out, E1.setCell hgl _⟩
          case measure => simp [intOf] <;> omega
        · obtain rfl : j = D.length := by omega
          have hATl : AT.length = D.length := by rw [← HAT.out, atL_len]
          rw [HAT.out] at ho
          have HATL := hid hATl
          clear hATl
          obtain ⟨wA, rfl⟩ : ∃ wA : World, wA = wr := ⟨_, rfl⟩
          have hAi := hid (fun (i : Nat) (hi : i < D.length) (w' : World) (E : Ext wA w') => (own_int (own_ext ho E) (i := i) (by rw [HATL.out]; exact hi)).1)
          go_wp2_with fail
          go_loopw [12, 13, 14, 15, 68, 72] (fun _ _ _ _ iv _ wr => ∃ i : Nat, i ≤ D.length ∧ iv = .int .i64 i ∧ Hid (∀ i', i' < i → ∀ k, k < i' → clashB (D.getD k []) (D.getD i' []) = true → AT.getD k 0 ≤ AT.getD i' 0) ∧ Ext wA wr) (fun _ _ _ _ iv _ _ => D.length - (intOf iv).toNat)
          case atStart => exact ⟨0, Nat.zero_le _, rfl, hid (fun i' h => by omega), Ext.refl _⟩
          case round =>
            obtain ⟨wq, rfl⟩ : ∃ wq : World, wq = wr := ⟨_, rfl⟩
            obtain ⟨i, hi, rfl, hok, Ei⟩ := hrel
            by_cases hil : i < D.length
            · obtain ⟨bD, oD, rfl, hcc⟩ := HC.out (by omega)
              obtain ⟨x2, y2, c2, s2⟩ := hcc i D[i] (List.getElem?_eq_getElem hil)
              replace c2 := Ei.cell (E1.cell c2)
              replace s2 := (s2.ext E1).ext Ei
              have d2 := dok _ (List.getElem_mem hil)
              have f2 := dsm _ (List.getElem_mem hil)
              have hq := hid (getD_atO hil)
              generalize D[i] = q at c2 s2 d2 f2 hq
              clear hcc
              go_wp2_with fail
              go_loopw [13, 14, 15, 72] (fun _ _ _ iv wr => ∃ k : Nat, k ≤ i ∧ iv = .int .i64 k ∧ Hid (∀ k', k' < k → clashB (D.getD k' []) q = true → AT.getD k' 0 ≤ AT.getD i 0) ∧ Ext wq wr) (fun _ _ _ iv _ => i - (intOf iv).toNat)
              case atStart => exact ⟨0, Nat.zero_le _, rfl, hid (fun k' h => by omega), Ext.refl _⟩
              case round =>
                obtain ⟨wz, rfl⟩ : ∃ wz : World, wz = wr := ⟨_, rfl⟩
                obtain ⟨k, hk, rfl, hok2, Ek⟩ := hrel
                by_cases hki : k < i
                · have hkl : k < D.length := by omega
                  obtain ⟨_, _, he, hcc⟩ := HC.out (by omega)
                  injection he with he; injection he with he1 he2
                  subst he1; subst he2
                  obtain ⟨x1, y1, c1, s1⟩ := hcc k D[k] (List.getElem?_eq_getElem hkl)
                  replace c1 := Ek.cell (Ei.cell (E1.cell c1))
                  replace s1 := ((s1.ext E1).ext Ei).ext Ek
                  have c2' := Ek.cell c2
                  have d1 := dok _ (List.getElem_mem hkl)
                  have f1 := dsm _ (List.getElem_mem hkl)
                  have hp := hid (getD_atO hkl)
                  generalize D[k] = p at c1 s1 d1 f1 hp
                  have CL := fun w' (E : Ext wz w') => clash_ok (.slice x1 p.length y1) (.slice x2 q.length y2) p q w' (s1.ext E) ((s2.ext Ek).ext E) d1 d2 f1 f2
                  obtain ⟨cl, hcl⟩ : ∃ cl, clashB p q = cl := ⟨_, rfl⟩
                  have HCL := hid hcl
                  rw [hcl] at CL
                  have CL := hid CL
                  have ck := hAi.out k hkl wz (Ei.trans Ek)
                  have ci := hAi.out i hil wz (Ei.trans Ek)
                  clear hcc hcl
                  obtain ⟨tk, htk⟩ : ∃ tk, AT.getD k 0 = tk := ⟨_, rfl⟩
                  obtain ⟨ti, hti⟩ : ∃ ti, AT.getD i 0 = ti := ⟨_, rfl⟩
                  rw [htk] at ck
                  rw [hti] at ci
                  have HTK := hid htk
                  have HTI := hid hti
                  clear htk hti
                  go_wp2_with fail
                  refine wp_region_ph [.k (.slice (some ⟨bD, oD, none⟩) D.length cD), .k (.int .i64 k), .k (.pointer (some ⟨bD, oD + k, none⟩)), .k (.agg #[.slice x1 p.length y1]), .k (.slice (some ⟨bD, oD, none⟩) D.length cD), .k (.int .i64 i), .k (.pointer (some ⟨bD, oD + i, none⟩)), .k (.agg #[.slice x2 q.length y2]), .k (.tuple #[.bool cl, .int .i64 0]), .k (.tuple #[.bool cl, .int .i64 0]), .k (.bool cl), .k (.int .i64 0), .k (.bool cl), .k (.int .i64 0)] [] (by kernel_rfl) (by kernel_rfl) (by kernel_rfl) rfl rfl ?hs ?hC ?he
                  case hC =>
                    intro i hi
                    simp at hi
                  case hs =>
                    refine ⟨?_, ?_, ?_, ?_, ?_, ?_, ?_, ?_, ?_, ?_, ?_, ?_, ?_, ?_, trivial⟩
                    all_goals (
                      intro x w' hE hd
                      try simp [PhDeps, at_k, at_p, at_t, at_any, Region.binds] at hd
                      try ((with_reducible refine Exists.elim hd ?_); clear hd; intro y hd; obtain ⟨hd, hG⟩ := hd)
                      have e1 := hE.cell c1
                      have e2 := hE.cell c2'
                      first | simp only [frL, List.length_cons, List.length_nil, List.take_succ_cons, List.take_zero, Nat.reduceAdd, Nat.zero_add, List.setIfInBounds_toArray, List.set_cons_zero, List.set_cons_succ, hd] | simp only [frL, List.length_cons, List.length_nil, List.take_succ_cons, List.take_zero, Nat.reduceAdd, Nat.zero_add, List.setIfInBounds_toArray, List.set_cons_zero, List.set_cons_succ]
                      go_wp2_with (first | (go_at_call 80; refine (CL.out w' hE).mono ?_; rintro e wa ⟨rfl, hea⟩))
                      all_goals first
                        | ((with_reducible refine phK ?_ ?_); (focus rfl); (repeat (first | (with_reducible assumption) | (with_reducible exact Ext.refl _) | (with_reducible refine Ext.drew ?_) | (with_reducible refine Ext.drewN ?_ _) | (with_reducible refine Ext.alloc ?_ _) | (with_reducible refine Ext.trans ?_ (by with_reducible assumption)))))
                        | ((with_reducible refine phT rfl hG ?_); (repeat (first | (with_reducible assumption) | (with_reducible exact Ext.refl _) | (with_reducible refine Ext.drew ?_) | (with_reducible refine Ext.drewN ?_ _) | (with_reducible refine Ext.alloc ?_ _) | (with_reducible refine Ext.trans ?_ (by with_reducible assumption)))))
                        | ((with_reducible refine phU hG ?_); (repeat (first | (with_reducible assumption) | (with_reducible exact Ext.refl _) | (with_reducible refine Ext.drew ?_) | (with_reducible refine Ext.drewN ?_ _) | (with_reducible refine Ext.alloc ?_ _) | (with_reducible refine Ext.trans ?_ (by with_reducible assumption)))))
                        | (with_reducible exact phBox hE)
                        | (with_reducible exact phRow hE))
                  case he =>
                    intro x w6 E6 hd
                    simp [PhEnd, at_k, at_p, at_t, at_any] at hd
                    simp only [frL, List.length_cons, List.length_nil, List.take_succ_cons, List.take_zero, Nat.reduceAdd, Nat.zero_add, List.setIfInBounds_toArray, List.set_cons_zero, List.set_cons_succ, hd, List.length_cons, List.length_nil, List.drop_succ_cons, List.drop_zero]
                    clear hd
                    replace ck := E6.cell ck
                    replace ci := E6.cell ci
                    clear CL
                    cases cl with
                    | false =>
                      have HN := hid (fun (k' : Nat) (h : k' < k + 1) (hc : clashB (D.getD k' []) q = true) => (by
                        by_cases e : k' = k
                        · subst e; rw [hp.out, HCL.out] at hc; cases hc
                        · exact hok2.out k' (by omega) hc : AT.getD k' 0 ≤ AT.getD i 0))
                      go_wp2_with fail
                      go_quiet (fail)
                      go_wp2
                      go_roundw
                      case rel => exact ⟨k + 1, by omega, by go_num, HN, (Ek.trans E6).drewN _⟩
                      case measure => simp [intOf] <;> omega
                    | true =>
                      by_cases hgt : ti < tk
                      · have hd : decide (ti < tk) = true := by simp [hgt]
                        have HF := hid (ordB_no (A := D) (at_ := AT) hil hki (by rw [hp.out, hq.out]; exact HCL.out) (by rw [HTK.out, HTI.out]; exact hgt))
                        go_wp2_with fail
                        go_quiet (fail)
                        go_wp2
                        go_ret2
                        exact ⟨rT2 (vB (by rw [← HOB.out, HF.out])) rfl, (((E1.trans Ei).trans Ek).trans E6).drewN _⟩
                      · have hd : decide (ti < tk) = false := by simp [hgt]
                        have HN := hid (fun (k' : Nat) (h : k' < k + 1) (hc : clashB (D.getD k' []) q = true) => (by
                          by_cases e : k' = k
                          · subst e; rw [HTK.out, HTI.out]; omega
                          · exact hok2.out k' (by omega) hc : AT.getD k' 0 ≤ AT.getD i 0))
                        go_wp2_with fail
                        go_quiet (fail)
                        go_wp2
                        go_roundw
                        case rel => exact ⟨k + 1, by omega, by go_num, HN, (Ek.trans E6).drewN _⟩
                        case measure => simp [intOf] <;> omega
                · obtain rfl : k = i := by omega
                  have HN := hid (fun (i' : Nat) (h : i' < k + 1) (k' : Nat) (hk' : k' < i') (hc : clashB (D.getD k' []) (D.getD i' []) = true) => (by
                    by_cases e : i' = k
                    · subst e; rw [hq.out] at hc; exact hok2.out k' hk' hc
                    · exact hok.out i' (by omega) k' hk' hc : AT.getD k' 0 ≤ AT.getD i' 0))
                  go_wp2
                  go_roundw
                  case rel => exact ⟨k + 1, by omega, by go_num, HN, Ei.trans Ek⟩
                  case measure => simp [intOf] <;> omega
            · obtain rfl : i = D.length := by omega
              have HT := hid (ordB_iff.2 hok.out)
              go_wp2
              go_ret2
              exact ⟨rT2 (vB (by rw [← HOB.out, HT.out])) rfl, E1.trans Ei⟩
end Go.Proofs.YtimchedebcoohaaGreat
