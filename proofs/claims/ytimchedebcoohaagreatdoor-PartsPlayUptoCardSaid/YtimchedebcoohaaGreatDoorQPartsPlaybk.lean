/- Contracts and lemmas for the proof of PartsPlay; each theorem states its own conditions. -/
import Derived.Test.YtimchedebcoohaaGreatDoorQPartsPlayba
import Derived.Test.YtimchedebcoohaaGreatDoorQPartsPlaybh
import Derived.Test.YtimchedebcoohaaGreatDoorQPartsPlayav
import Derived.Test.YtimchedebcoohaaGreatDoorQPartsPlaybc
import Derived.Test.YtimchedebcoohaaGreatDoorQPartsPlaybf
import Derived.Test.YtimchedebcoohaaGreatDoorQPartsPlaybj
import Derived.Test.YtimchedebcoohaaGreatDoorQPartsPlayak
import Derived.Test.YtimchedebcoohaaGreatDoorQPartsPlayau
import Derived.Test.YtimchedebcoohaaGreatDoorQPartsPlayaw
import Derived.BigQuiet
import Derived.Test.YtimchedebcoohaaGreatDoorQPartsPlayas
set_option linter.unusedVariables false
set_option linter.unusedSimpArgs false
/- Contracts and lemmas for the proofs of this seat; each theorem states its own conditions. -/
namespace Go.Proofs.YtimchedebcoohaaGreatDoor
open Go.RowKit Go.Shelf Go.Lib Go.Sort
/-! slices.Sort, slices.Compact at rows of texts of one's own; slices.Contains -/
/-- what slices.Sort makes of texts -/
def srtB (L : List ByteArray) : List (List UInt8) := (L.map fun k => k.data.toList).mergeSort fun x y => decide (x ≤ y)
theorem srtB_len (L : List ByteArray) : (srtB L).length = L.length := by simp [srtB, List.length_mergeSort]
theorem sortU_srtB (L : List ByteArray) : (compact (srtB L)).map ofL = sortU L := rfl
theorem sort_own (B : Nat) (v : Value) (L : List ByteArray) (w : World) (ho : w.ownsRow B 9 1 v L.length (cS L)) (hn : L.length ≤ 1000000) :
    Calls Tryz.prog 73 #[v] w fun e w' => e = .returned (.tuple #[]) ∧ w'.ownsRow B 9 1 v (srtB L).length ((srtB L).map encStr) ∧ w.grownBy w' v.ownBlock := by
  by_cases h0 : L.length = 0
  · have hL : L = [] := List.eq_nil_of_length_eq_zero h0
    subst hL
    obtain ⟨a, c, rfl⟩ := own_form ho
    refine (Any.slices_Sort_string_none lays190 a c w).mono ?_
    rintro e w1 ⟨rfl, rfl⟩
    have : srtB [] = [] := by simp [srtB]
    rw [this]
    exact ⟨rfl, ho, World.grownBy.refl _ _⟩
  · obtain ⟨a, c, rfl⟩ := own_form ho
    obtain ⟨g, rfl, hg1, hg2, hg3, hg4⟩ := own_pos ho (by omega)
    rw [cS_enc] at ho
    have hl : (L.map fun k => k.data.toList).length = L.length := by simp
    have S1 := Any.slices_Sort_string lays190 g 0 c (L.map fun k => k.data.toList) w (holds_own ho) hg2 (by omega)
    have hls : (srtB L).length = L.length := srtB_len L
    have hH := holds_own ho
    rw [hl] at S1
    have PS := fun q => putRow_eq_setCells encStr w g 0 (L.map fun k => k.data.toList).toArray (srtB L) q hH (by rw [hls]; simp)
    refine S1.mono ?_
    rintro e w1 ⟨rfl, q, os, rfl⟩
    have := PS q
    unfold srtB at this
    rw [this]
    obtain ⟨ho1, hg'⟩ := own_puts ho (ys := (srtB L).map encStr) (by simpa using hls) q os
    rw [hls]
    exact ⟨rfl, ho1, hg'⟩
theorem compact_own (B : Nat) (v : Value) (M : List (List UInt8)) (w : World) (ho : w.ownsRow B 9 1 v M.length (M.map encStr)) (hn : M.length ≤ 1000000) :
    Calls Tryz.prog 83 #[v] w fun e w' => ∃ v', e = .returned v' ∧ w'.ownsRow B 9 1 v' (compact M).length ((compact M).map encStr) ∧ w.grownBy w' v.ownBlock ∧ v'.ownBlock = v.ownBlock := by
  by_cases h0 : M.length = 0
  · have hL : M = [] := List.eq_nil_of_length_eq_zero h0
    subst hL
    obtain ⟨a, c, rfl⟩ := own_form ho
    refine (Any.slices_Compact_string_empty lays194 a c w).mono ?_
    rintro e w1 ⟨rfl, rfl⟩
    have : compact ([] : List (List UInt8)) = [] := by simp [compact, compactUpTo]
    rw [this]
    exact ⟨_, rfl, ho, World.grownBy.refl _ _, rfl⟩
  · obtain ⟨a, c, rfl⟩ := own_form ho
    obtain ⟨g, rfl, hg1, hg2, hg3, hg4⟩ := own_pos ho (by omega)
    have hle := compact_length_le M
    have C1 := Any.slices_Compact_string lays194 g 0 c M w (holds_own ho) (by omega) (by omega)
    have hH := holds_own ho
    have PS := fun q => putRow_eq_setCells encStr w g 0 M.toArray (compact M ++ List.replicate (M.length - (compact M).length) []) q hH (by simp; omega)
    refine C1.mono ?_
    rintro e w1 ⟨rfl, q, rfl⟩
    rw [PS q]
    obtain ⟨ho2, hg2'⟩ := own_puts ho (ys := (compact M ++ List.replicate (M.length - (compact M).length) []).map encStr) (by simp; omega) q #[]
    rw [grow_empty] at ho2 hg2'
    have ho3 := own_shorter ho2 (m := (compact M).length) hle
    have et : ((compact M ++ List.replicate (M.length - (compact M).length) []).map encStr).take (compact M).length = (compact M).map encStr := by rw [List.map_append, List.take_left' (by simp)]
    rw [et] at ho3
    exact ⟨_, rfl, ho3, hg2', rfl⟩
end Go.Proofs.YtimchedebcoohaaGreatDoor

/- Contracts and lemmas for the proofs of this seat; each theorem states its own conditions. -/
namespace Go.Proofs.YtimchedebcoohaaGreatDoor
open Go.RowKit Go.Maps
/-! an append to a row of claims in a region that draws its order -/
abbrev GK (v : Value) (n : Nat) (ns : List Value) : Nat → Option (Nat × List Value) := G2 v (n * 2) ns (.slice none 0 0) 0 []
theorem gk_none {v : Value} {n k : Nat} {ns : List Value} (h : v.ownBlock ≠ some k) : GK v n ns k = none := by
  unfold GK G2
  rw [if_neg h, if_neg (by simp [Value.ownBlock])]
theorem gk_grown {v : Value} {n : Nat} {ns : List Value} {w w' : World} (h : GF (GK v n ns) w w') : w.grownBy w' v.ownBlock :=
  ⟨h.1, h.2.1, h.2.2.1, h.2.2.2.1, fun k hk hne => by
    rcases h.2.2.2.2 k hk with e | ⟨_, _, _, _, e, _⟩
    · exact e
    · rw [gk_none (fun e' => hne e'.symm)] at e; cases e⟩
theorem one_claim (z : Nat) (b : Bool) : ∀ u ∈ [Value.int .i64 (z : Int), Value.bool b], u.oneCell' = true := by
  intro u hu; simp at hu; rcases hu with rfl | rfl <;> rfl
theorem gk_ne {v u : Value} {n m B e sz : Nat} {ns xs : List Value} {w w' : World} (hF : GF (GK v n ns) w w') (h : w.ownsRow B e sz u m xs) (hne : u.ownBlock = none ∨ u.ownBlock ≠ v.ownBlock) : w'.ownsRow B e sz u m xs := grown_own (gk_grown hF) h hne
end Go.Proofs.YtimchedebcoohaaGreatDoor

/- Contracts and lemmas for the proofs of this seat; each theorem states its own conditions. -/
namespace Go.Proofs.YtimchedebcoohaaGreatDoor
open Go.RowKit Go.Maps
/-! Add -/
/-- the claims once d is in at the keys of L' -/
def clA (A : List Ops) (g : Nat → Bool) (d : Ops) (L' : List ByteArray) (k : ByteArray) : Clm := if memB L' k = true then clmTo A g k A.length ++ [(A.length, memB (wrs d) k)] else clmTo A g k A.length
theorem clA_nil (A : List Ops) (g : Nat → Bool) (d : Ops) : clA A g d [] = fun k => clmTo A g k A.length := by
  funext k; simp [clA, memB]
theorem clA_step (A : List Ops) (g : Nat → Bool) (d : Ops) {L' : List ByteArray} {key : ByteArray} (h : key ∉ L') : (fun k => if k = key then clA A g d L' key ++ [(A.length, memB (wrs d) key)] else clA A g d L' k) = clA A g d (L' ++ [key]) := by
  funext k
  by_cases e : k = key
  · subst e
    have h1 : memB (L' ++ [k]) k = true := memB_iff.2 (by simp)
    have h2 : memB L' k = false := memB_not.2 h
    simp [clA, h1, h2]
  · have : memB (L' ++ [key]) k = memB L' k := by
      rw [Bool.eq_iff_iff, memB_iff, memB_iff]; simp [e]
    simp only [if_neg e, clA, this]
theorem clA_all (A : List Ops) {g : Nat → Bool} (d : Ops) (hg : g A.length = false) (k : ByteArray) : clA A g d (tkL d) k = clmTo (A ++ [d]) g k (A ++ [d]).length := by
  have hl : (A ++ [d]).length = A.length + 1 := by simp
  rw [hl, clm_add hg]
  unfold clA
  cases h : memB (tkL d) k with
  | true =>
    rw [if_pos rfl, if_pos ((tkL_mem _ k).1 (memB_iff.1 h))]
  | false =>
    have : ¬ tchB d k = true := fun e => by rw [memB_iff.2 ((tkL_mem _ k).2 e)] at h; cases h
    rw [if_neg (by simp), if_neg this, List.append_nil]
theorem tkL_srt (d : Ops) : (tkL d).Pairwise fun a b => blt a b = true := sortU_srt _
theorem tkL_new (d : Ops) {j : Nat} (hj : j < (tkL d).length) : (tkL d)[j] ∉ (tkL d).take j := fun hm => by
  obtain ⟨i, hi, he⟩ := List.mem_iff_getElem.1 hm
  rw [List.length_take] at hi
  rw [List.getElem_take] at he
  have := List.pairwise_iff_getElem.1 (tkL_srt d) i j (by omega) hj (by omega)
  rw [he, blt_irrefl] at this; cases this
/-- where r and w lie: sortU of both is the sorted row of all -/
theorem mem_sortU_wrs (d : Ops) (k : ByteArray) : memB (sortU (wrs d)) k = memB (wrs d) k := by
  rw [Bool.eq_iff_iff, memB_iff, memB_iff, sortU_mem]
theorem tk_comp (d : Ops) : ((Go.Lib.compact (srtB (sortU (rds d) ++ sortU (wrs d)))).map Go.Proofs.encStr) = cS (tkL d) ∧ (Go.Lib.compact (srtB (sortU (rds d) ++ sortU (wrs d)))).length = (tkL d).length := by
  have h : tkL d = (Go.Lib.compact (srtB (sortU (rds d) ++ sortU (wrs d)))).map ofL := rfl
  rw [h]
  exact ⟨(cS_of _).symm, by simp⟩
theorem cK_snoc (l : Clm) (n : Nat) (b : Bool) : cK (l ++ [(n, b)]) = cK l ++ [.int .i64 (n : Int), .bool b] := by rw [cK_app]; simp [cK]
theorem clA_len (A : List Ops) (g : Nat → Bool) (d : Ops) (L' : List ByteArray) (k : ByteArray) : (clA A g d L' k).length ≤ A.length + 1 := by
  have : ∀ n, (clmTo A g k n).length ≤ n := by
    intro n; induction n with
    | zero => simp [clmTo]
    | succ n ih => rw [clmTo, List.length_append]; unfold clm1; split <;> simp <;> omega
  have h1 := this A.length
  unfold clA
  split
  · simp; omega
  · omega
end Go.Proofs.YtimchedebcoohaaGreatDoor

/- Contracts and lemmas for the proofs of this seat; each theorem states its own conditions. -/
namespace Go.Proofs.YtimchedebcoohaaGreatDoor
open Go.RowKit Go.Maps
/-! Free of one that may go on -/
end Go.Proofs.YtimchedebcoohaaGreatDoor

/- Contracts and lemmas for the proofs of this seat; each theorem states its own conditions. -/
namespace Go.Proofs.YtimchedebcoohaaGreatDoor
open Go.RowKit Go.Maps
/-! rokeep.lockBegun -/
def setA : Ops := [⟨1, ⟨#[97]⟩, ⟨#[]⟩, 0⟩]
theorem setA_ok : deedE setA = 0 := by decide +kernel
theorem ready_one (d : Ops) : readyL [d] (fun _ => false) 1 = [0] := by
  have h := ready_succ [d] (fun _ => false) 0
  have m : mayB [d] (fun _ => false) 0 = true := by simp [mayB]
  rw [m] at h
  have z : readyL [d] (fun _ => false) 0 = [] := by simp [readyL]
  rw [z] at h
  simpa using h
theorem cN_cI (l : List Nat) : cN l = cI (l.map fun (n : Nat) => (n : Int)) := by simp [cN, cI]
end Go.Proofs.YtimchedebcoohaaGreatDoor

/- Contracts and lemmas for the proofs of this seat; each theorem states its own conditions. -/
namespace Go.Proofs.YtimchedebcoohaaGreatDoor
/-! plain laws of plan's rows -/
def iN (l : List Nat) : List Int := l.map fun (n : Nat) => (n : Int)
theorem iN_len (l : List Nat) : (iN l).length = l.length := by simp [iN]
theorem iN_app (a b : List Nat) : iN (a ++ b) = iN a ++ iN b := by simp [iN]
theorem iN_at (l : List Nat) {k : Nat} (h : k < l.length) : (iN l).getD k 0 = ((l.getD k 0 : Nat) : Int) := by simp [iN, h]
/-- the rounds of the first i, the next one's so far, and noughts -/
def rL (A : List Ops) (n i x : Nat) : List Int := iN (rndTo A i) ++ (x : Int) :: List.replicate (n - (i + 1)) 0
def oL (A : List Ops) (n i : Nat) : List Int := iN (rndTo A i) ++ List.replicate (n - i) 0
theorem rL_len {A : List Ops} {n i x : Nat} (h : i < n) : (rL A n i x).length = n := by simp [rL, iN_len, rndTo_len]; omega
theorem oL_len {A : List Ops} {n i : Nat} (h : i ≤ n) : (oL A n i).length = n := by simp [oL, iN_len, rndTo_len]; omega
theorem rL_start {A : List Ops} {n i : Nat} (h : i < n) : rL A n i 0 = oL A n i := by
  unfold rL oL
  have : n - i = (n - (i + 1)) + 1 := by omega
  rw [this, List.replicate_succ]; rfl
theorem rL_end {A : List Ops} {n i : Nat} : rL A n i (rnd1 A (rndTo A i) i i) = oL A n (i + 1) := by
  unfold rL oL
  rw [rndTo, iN_app]
  simp [iN]
theorem rL_at {A : List Ops} {n i x k : Nat} (h : k < i) : (rL A n i x).getD k 0 = ((rndTo A i).getD k 0 : Nat) := by
  rw [← iN_at _ (by rw [rndTo_len]; exact h)]
  unfold rL
  rw [getD_app (by rw [iN_len, rndTo_len]; exact h)]
theorem rL_self {A : List Ops} {n i x : Nat} : (rL A n i x).getD i 0 = (x : Int) := by
  unfold rL
  simp [List.getD, List.getElem?_append_right, iN_len, rndTo_len]
theorem rL_set {A : List Ops} {n i x : Nat} (y : Nat) : (rL A n i x).set i (y : Int) = rL A n i y := by
  unfold rL
  rw [List.set_append, if_neg (by rw [iN_len, rndTo_len]; omega), iN_len, rndTo_len, Nat.sub_self]
  rfl
theorem oL_zero (A : List Ops) (n : Nat) : oL A n 0 = List.replicate n 0 := by simp [oL, rndTo, iN]
theorem oL_all (A : List Ops) (n : Nat) : oL A n n = iN (rndTo A n) := by simp [oL]
theorem iN_rnd (A : List Ops) {n i : Nat} (h : i < n) : (iN (rndTo A n)).getD i 0 = (rnd A i : Int) := by
  rw [iN_at _ (by rw [rndTo_len]; exact h), rndTo_at A n i h]
/-- the places, filled with -1 up to i -/
def mL (n i : Nat) : List Int := List.replicate i (-1) ++ List.replicate (n - i) 0
theorem mL_len {n i : Nat} (h : i ≤ n) : (mL n i).length = n := by simp [mL]; omega
theorem mL_set {n i : Nat} (h : i < n) : (mL n i).set i (-1) = mL n (i + 1) := by
  unfold mL
  rw [List.set_append, if_neg (by simp)]
  have e : n - i = (n - (i + 1)) + 1 := by omega
  rw [e, List.replicate_succ, List.length_replicate, Nat.sub_self, List.set_cons_zero]
  rw [List.replicate_succ' (n := i), List.append_assoc]; rfl
theorem mL_zero (n : Nat) : mL n 0 = List.replicate n 0 := by simp [mL]
theorem mL_all (n : Nat) : mL n n = List.replicate n (-1) := by simp [mL]
end Go.Proofs.YtimchedebcoohaaGreatDoor

/- Contracts and lemmas for the proofs of this seat; each theorem states its own conditions. -/
namespace Go.Proofs.YtimchedebcoohaaGreatDoor
/-! plan.Play, in plain lists -/
structure PlayI (A : List Ops) (l : Prs) (ord : List Nat) (g : Nat → Bool) (X : Prs) (T : List Bool) : Prop where
  nodup : ord.Nodup
  lt : ∀ i ∈ ord, i < A.length
  gone : ∀ i, g i = true ↔ i ∈ ord
  adm : AdmO A ord
  sto : X = serS l (ord.map fun i => A.getD i [])
  len : T.length = A.length
  told : ∀ j (h : j < ord.length), T.getD ord[j] false = (serB l (ord.map fun i => A.getD i [])).getD j false
theorem getD_set1 {T : List Bool} {s : Nat} {b : Bool} (h : s < T.length) : (T.set s b).getD s false = b := by simp [h]
theorem getD_last {x : List Bool} {n : Nat} {b : Bool} (h : x.length = n) : (x ++ [b]).getD n false = b := by subst h; simp
theorem play_start (A : List Ops) (l : Prs) : PlayI A l [] (fun _ => false) l (List.replicate A.length false) :=
  ⟨List.nodup_nil, by simp, by simp, fun p s q e => by simp at e, rfl, by simp, fun j h => by simp at h⟩
theorem play_step {A : List Ops} {l : Prs} {ord : List Nat} {g : Nat → Bool} {X : Prs} {T : List Bool} (h : PlayI A l ord g X T) {s : Nat} (hs : s < A.length) (hg : g s = false) (hm : mayB A g s = true) :
    PlayI A l (ord ++ [s]) (goneW g s) (runS X (A.getD s [])) (T.set s (runB X (A.getD s []))) := by
  have hno : s ∉ ord := fun e => by rw [(h.gone s).2 e] at hg; cases hg
  refine ⟨?_, ?_, ?_, ?_, ?_, by simpa using h.len, ?_⟩
  · rw [List.nodup_append]
    exact ⟨h.nodup, by simp, fun a ha b hb e => by simp at hb; subst hb; subst e; exact hno ha⟩
  · intro i hi
    rcases List.mem_append.1 hi with e | e
    · exact h.lt i e
    · simp at e; subst e; exact hs
  · intro i
    unfold goneW
    by_cases e : i = s
    · subst e; simp
    · rw [if_neg e, h.gone i]; simp [e]
  · intro p t q e u hu hup
    rcases List.append_eq_append_iff.1 e with ⟨a, e1, e2⟩ | ⟨a, e1, e2⟩
    · cases a with
      | nil =>
        simp at e1 e2
        obtain ⟨rfl, _⟩ := e2
        subst e1
        refine mayB_iff.1 hm u hu ?_
        cases hgu : g u with
        | false => rfl
        | true => exact absurd ((h.gone u).1 hgu) hup
      | cons a0 a => simp at e2
    · cases a with
      | nil =>
        simp at e1 e2
        obtain ⟨rfl, _⟩ := e2
        subst e1
        refine mayB_iff.1 hm u hu ?_
        cases hgu : g u with
        | false => rfl
        | true => exact absurd ((h.gone u).1 hgu) hup
      | cons a0 a =>
        simp at e2
        obtain ⟨rfl, _⟩ := e2
        exact h.adm p t a e1 u hu hup
  · rw [List.map_append, (ser_app _ _ _).1, ← h.sto]; rfl
  · intro j hj
    rw [List.map_append, (ser_app _ _ _).2, ← h.sto]
    have hl : (serB l (ord.map fun i => A.getD i [])).length = ord.length := by rw [serB_len]; simp
    by_cases e : j < ord.length
    · have e1 : (ord ++ [s])[j] = ord[j] := List.getElem_append_left e
      have hne : s ≠ ord[j] := fun q => hno (by rw [q]; exact List.getElem_mem e)
      rw [e1, getD_app (by rw [hl]; exact e), ← h.told j e]
      simp only [List.getD, List.getElem?_set_ne hne]
    · have hj' : j = ord.length := by simp at hj; omega
      subst hj'
      have e1 : (ord ++ [s])[ord.length] = s := by simp
      rw [e1]
      have hsT : s < T.length := by rw [h.len]; exact hs
      exact (getD_set1 hsT).trans (getD_last hl).symm
theorem play_end {A : List Ops} (hA : ∀ d ∈ A, DeedOk d) {l : Prs} (hl : StoreOk l) {ord : List Nat} {g : Nat → Bool} {X : Prs} {T : List Bool} (h : PlayI A l ord g X T) (hg : ∀ t, t < A.length → g t = true) :
    (∀ i, i ∈ ord ↔ i < A.length) ∧ X = serS l A ∧ T = serB l A := by
  have hm : ∀ i, i ∈ ord ↔ i < A.length := fun i => ⟨h.lt i, fun hi => (h.gone i).1 (hg i hi)⟩
  obtain ⟨q1, q2⟩ := adm_same hA hl h.adm h.nodup hm
  refine ⟨hm, by rw [h.sto, q1], ?_⟩
  apply List.ext_getElem
  · rw [h.len, serB_len]
  · intro i h1 h2
    rw [h.len] at h1
    obtain ⟨j, hj, hji⟩ := List.mem_iff_getElem.1 ((hm i).2 h1)
    have t := h.told j hj
    have u := q2 j hj
    rw [hji] at t u
    have t2 : T.getD i false = (serB l A).getD i false := t.trans (by rw [List.getD_eq_getElem?_getD, List.getD_eq_getElem?_getD, u])
    have e1 : T.getD i false = T[i] := by rw [List.getD_eq_getElem?_getD, List.getElem?_eq_getElem (by omega)]; rfl
    have e2 : (serB l A).getD i false = (serB l A)[i] := by rw [List.getD_eq_getElem?_getD, List.getElem?_eq_getElem (by omega)]; rfl
    rw [e1, e2] at t2; exact t2
theorem play_len {A : List Ops} {l : Prs} {ord : List Nat} {g : Nat → Bool} {X : Prs} {T : List Bool} (h : PlayI A l ord g X T) : ord.length ≤ A.length := by
  have := List.Nodup.length_le_of_subset h.nodup (l₂ := List.range A.length) fun i hi => List.mem_range.2 (h.lt i hi)
  simpa using this
end Go.Proofs.YtimchedebcoohaaGreatDoor

/- Contracts and lemmas for the proofs of this seat; each theorem states its own conditions. -/
namespace Go.Proofs.YtimchedebcoohaaGreatDoor
open Go.RowKit
/-! plan.laid -/
end Go.Proofs.YtimchedebcoohaaGreatDoor

/- Contracts and lemmas for the proofs of this seat; each theorem states its own conditions. -/
namespace Go.Proofs.YtimchedebcoohaaGreatDoor
open Go.RowKit
/-! plan.Order -/
theorem cN_at (l : List Nat) {j : Nat} (h : j < l.length) : (cN l)[j]? = some (.int .i64 ((l[j] : Nat) : Int)) := by simp [cN, h]
theorem atL_new {n : Nat} {ord : List Nat} (hn : ord.Nodup) {j : Nat} (hj : j < ord.length) (hk : ord[j] < n) : (atL n ord j).getD ord[j] 0 = -1 := by
  have hno : ord[j] ∉ ord.take j := fun hm => by
    obtain ⟨i, hi, he⟩ := List.mem_iff_getElem.1 hm
    rw [List.length_take] at hi
    rw [List.getElem_take] at he
    have := nd_inj hn he
    omega
  have := (atL_at hn j (Nat.le_of_lt hj) ord[j] hk).1 hno
  simp [List.getD, this]
theorem ordB_no {A : List Ops} {at_ : List Int} {n i k : Nat} (hi : i < n) (hk : k < i) (hc : clashB (A.getD k []) (A.getD i []) = true) (h : at_.getD i 0 < at_.getD k 0) : ordB A at_ n = false := by
  cases e : ordB A at_ n with
  | false => rfl
  | true => have := ordB_iff.1 e i hi k hk hc; omega
theorem getD_atO {D : List Ops} {i : Nat} (h : i < D.length) : D.getD i [] = D[i] := by simp [h]
end Go.Proofs.YtimchedebcoohaaGreatDoor

/- Contracts and lemmas for the proofs of this seat; each theorem states its own conditions. -/
namespace Go.Proofs.YtimchedebcoohaaGreatDoor
open Go.RowKit
/-! plan.Rounds -/
theorem rndTo_le (A : List Ops) {i k : Nat} (h : k < i) : (rndTo A i).getD k 0 ≤ k := by
  rw [rndTo_at A i k h]; exact rnd_le A k
theorem rnd1_le (A : List Ops) (i : Nat) : ∀ k, k ≤ i → rnd1 A (rndTo A i) i k ≤ k
  | 0, _ => Nat.le_refl _
  | k + 1, h => by
    have h1 := rnd1_le A i k (by omega)
    have h2 := rndTo_le A (i := i) (k := k) (by omega)
    simp only [rnd1]
    split
    · omega
    · omega
end Go.Proofs.YtimchedebcoohaaGreatDoor

/- Contracts and lemmas for the proofs of this seat; each theorem states its own conditions. -/
namespace Go.Proofs.YtimchedebcoohaaGreatDoor
open Go.RowKit
def addA : Ops := [⟨2, ⟨#[97]⟩, ⟨#[]⟩, 0⟩]
theorem addA_ok : deedE addA = 0 := by decide +kernel
theorem addA_rnd : iN (rndTo [addA, addA] 2) = [0, 1] := by decide +kernel
def aheadB (D : List Ops) (i : Nat) : Nat → Bool
  | 0 => decide (rnd D i = 0)
  | k + 1 => aheadB D i k || (clashB (D.getD k []) (D.getD i []) && decide (rnd D k + 1 = rnd D i))
theorem ahead_keep (D : List Ops) (i : Nat) : ∀ {k j : Nat}, k ≤ j → aheadB D i k = true → aheadB D i j = true
  | k, 0, h, hk => by obtain rfl : k = 0 := by omega
                      exact hk
  | k, j + 1, h, hk => by
    rcases Nat.lt_or_ge k (j + 1) with e | e
    · have := ahead_keep D i (k := k) (j := j) (by omega) hk
      simp [aheadB, this]
    · obtain rfl : k = j + 1 := by omega
      exact hk
theorem ahead_all (D : List Ops) (i : Nat) : aheadB D i i = true := by
  rcases (rnd_spec D i).1 with h | ⟨j, hj, hc, he⟩
  · exact ahead_keep D i (k := 0) (Nat.zero_le _) (by simp [aheadB, h])
  · exact ahead_keep D i (k := j + 1) hj (by rw [aheadB, hc, he]; simp)
theorem seg_ds2 {w : World} {b b1 b2 : Nat} {d1 d2 : Ops} (h : w.heap[b]? = some (.cells #[.slice (some ⟨b1, 0, none⟩) d1.length d1.length, .slice (some ⟨b2, 0, none⟩) d2.length d2.length] 43 (0, 0)))
    (h1 : Seg w (.slice (some ⟨b1, 0, none⟩) d1.length d1.length) 4 d1.length (cO d1)) (h2 : Seg w (.slice (some ⟨b2, 0, none⟩) d2.length d2.length) 4 d2.length (cO d2)) : SegDs w (.slice (some ⟨b, 0, none⟩) 2 2) [d1, d2] :=
  SegDs.mk' (D := [d1, d2]) (Nat.le_refl _) (by simp [maxLen]) fun j d hd => by
    have hb := blk2 h
    rcases j with _ | _ | j
    · simp at hd; subst hd; exact ⟨_, _, hb.1, h1⟩
    · simp at hd; subst hd; exact ⟨_, _, hb.2.1, h2⟩
    · simp at hd
end Go.Proofs.YtimchedebcoohaaGreatDoor
