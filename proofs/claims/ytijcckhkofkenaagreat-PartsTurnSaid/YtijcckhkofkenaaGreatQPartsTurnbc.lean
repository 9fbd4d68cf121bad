/- Contracts and lemmas for the proof of PartsTurn; each theorem states its own conditions. -/
import Derived.Test.YtijcckhkofkenaaGreatQPartsTurnag
import Derived.Test.YtijcckhkofkenaaGreatQPartsTurnba
import Derived.Test.YtijcckhkofkenaaGreatQPartsTurnbb
import Derived.Test.YtijcckhkofkenaaGreatQPartsTurnae
set_option linter.unusedVariables false
set_option linter.unusedSimpArgs false
/- Contracts and lemmas for the proofs of this seat; each theorem states its own conditions. -/
namespace Go.Proofs.YtijcckhkofkenaaGreat
/-! parts of a store, in plain lists -/
structure PartsOk (C : List ByteArray) (O : List Int) (V : Vls) (P : Nat → Prs) (N : Nat) : Prop where
  ok : ∀ i : Nat, i < 4 → StoreOk (P i)
  len : ∀ i : Nat, i < 4 → (P i).length ≤ N
  val : ∀ i : Nat, i < 4 → ∀ k, valP (P i) k = if whose C O k = (i : Int) then V k else 0
theorem parts_new {C : List ByteArray} {O : List Int} {S : Prs} (h : StoreOk S) : PartsOk C O (valP S) (fun i => partP C O S (i : Int)) S.length where
  ok := fun i _ => storeOk_filter h _
  len := fun i _ => List.length_filter_le _ _
  val := fun i _ k => by
    show valP (partP C O S i) k = _
    rw [partP, val_filter h.srt]
    by_cases e : whose C O k = (i : Int)
    · rw [if_pos (by simp [e]), if_pos e]
    · rw [if_neg (by simp [e]), if_neg e]
theorem PartsOk.mono {C : List ByteArray} {O : List Int} {V : Vls} {P : Nat → Prs} {N M : Nat} (h : PartsOk C O V P N) (hm : N ≤ M) : PartsOk C O V P M := ⟨h.ok, fun i hi => Nat.le_trans (h.len i hi) hm, h.val⟩
theorem PartsOk.put {C : List ByteArray} {O : List Int} {V : Vls} {P : Nat → Prs} {N : Nat} (h : PartsOk C O V P N) {i : Nat} (hi : i < 4) {k : ByteArray} {n : Int} (hw : whose C O k = (i : Int)) (hk : keyB k = true) (hn : -1000000000 ≤ n ∧ n ≤ 1000000000) :
    PartsOk C O (setV V k n) (fun j => if j = i then withP (P i) k n else P j) (N + 1) where
  ok := fun j hj => by
    try dsimp only
    split
    · exact storeOk_with (h.ok i hi) hk hn
    · exact h.ok j hj
  len := fun j hj => by
    try dsimp only
    split
    · have := with_len (P i) k n; have := h.len i hi; omega
    · have := h.len j hj; omega
  val := fun j hj x => by
    try dsimp only
    unfold setV
    by_cases e : j = i
    · subst e
      rw [if_pos rfl, val_with (h.ok j hj).srt, h.val j hj x]
      by_cases e2 : k = x
      · subst e2; rw [if_pos rfl, if_pos hw, if_pos rfl]
      · rw [if_neg e2, if_neg e2]
    · rw [if_neg e, h.val j hj x]
      by_cases e2 : k = x
      · subst e2; rw [if_pos rfl, if_neg (by rw [hw]; omega), if_neg (by rw [hw]; omega)]
      · rw [if_neg e2]
theorem PartsOk.val_at {C : List ByteArray} {O : List Int} (hm : MapOk C O) {V : Vls} {P : Nat → Prs} {N : Nat} (h : PartsOk C O V P N) (k : ByteArray) : ∃ i : Nat, i < 4 ∧ whose C O k = (i : Int) ∧ valP (P i) k = V k := by
  obtain ⟨h0, h4⟩ := whose_rng hm k
  refine ⟨(whose C O k).toNat, by omega, by omega, ?_⟩
  rw [h.val _ (by omega), if_pos (by omega)]
theorem PartsOk.bd {C : List ByteArray} {O : List Int} (hm : MapOk C O) {V : Vls} {P : Nat → Prs} {N : Nat} (h : PartsOk C O V P N) (k : ByteArray) : -1000000000 ≤ V k ∧ V k ≤ 1000000000 := by
  obtain ⟨i, hi, _, e⟩ := h.val_at hm k
  rw [← e]; exact val_bd (h.ok i hi) k
/-- each has what the store has of his -/
theorem PartsOk.eq {C : List ByteArray} {O : List Int} {P : Nat → Prs} {N : Nat} {S : Prs} (hS : StoreOk S) (h : PartsOk C O (valP S) P N) {i : Nat} (hi : i < 4) : P i = partP C O S (i : Int) := by
  refine store_ext (h.ok i hi) ((parts_new (C := C) (O := O) hS).ok i hi) fun k => ?_
  rw [h.val i hi, (parts_new (C := C) (O := O) hS).val i hi]
/-- what is told of some keys -/
def toldP (V : Vls) : List ByteArray → Prs
  | [] => []
  | k :: ks => withP (toldP V ks) k (V k)
theorem told_ok {V : Vls} (hV : ∀ k, -1000000000 ≤ V k ∧ V k ≤ 1000000000) : ∀ {ks : List ByteArray}, (∀ k ∈ ks, keyB k = true) → StoreOk (toldP V ks) ∧ (toldP V ks).length ≤ ks.length ∧ ∀ x, valP (toldP V ks) x = if memB ks x = true then V x else 0
  | [], _ => ⟨storeOk_nil, Nat.le_refl _, fun x => by simp [toldP, valP, memB]⟩
  | k :: ks, h => by
    obtain ⟨h1, h2, h3⟩ := told_ok hV (ks := ks) fun j hj => h j (by simp [hj])
    have hl := with_len (toldP V ks) k (V k)
    refine ⟨storeOk_with h1 (h k (by simp)) (hV k), by rw [toldP, List.length_cons]; omega, fun x => ?_⟩
    rw [toldP, val_with h1.srt, h3 x]
    by_cases e : k = x
    · subst e; rw [if_pos rfl, if_pos (memB_iff.2 (by simp))]
    · have : memB (k :: ks) x = memB ks x := by simp [memB, e]
      rw [if_neg e, this]
/-- the values once the first ones of w have been taken over -/
def overV (V U : Vls) (ks : List ByteArray) : Vls := fun x => if memB ks x = true then U x else V x
theorem over_step (V U : Vls) (ks : List ByteArray) (k : ByteArray) : setV (overV V U ks) k (U k) = overV V U (ks ++ [k]) := by
  funext x
  unfold setV overV
  by_cases e : k = x
  · subst e; rw [if_pos rfl, if_pos (memB_iff.2 (by simp))]
  · have : memB (ks ++ [k]) x = memB ks x := by simp [memB, e]
    rw [if_neg e, this]
theorem over_nil (V U : Vls) : overV V U [] = V := by funext x; simp [overV, memB]
/-- a deed done on what was told makes what it makes on all -/
theorem told_run {V : Vls} {T : Prs} {ks : List ByteArray} {d : Ops} (hT : StoreOk T) (hd : ∀ o ∈ d, OpOk o) (hv : ∀ x, valP T x = if memB ks x = true then V x else 0) (hr : ∀ k ∈ rds d, k ∈ ks) :
    runB T d = okV V d ∧ (runB T d = true → overV V (valP (runS T d)) (sortU (wrs d)) = stepV V d) := by
  obtain ⟨q1, q2, q3⟩ := run_val hT hd
  obtain ⟨s1, s2⟩ := step_agree hd (v := valP T) (u := V) fun k hk => by rw [hv k, if_pos (memB_iff.2 (hr k hk))]
  refine ⟨by rw [q3, s1], fun h => ?_⟩
  rw [q3] at h
  funext x
  unfold overV
  by_cases e : x ∈ wrs d
  · rw [if_pos (memB_iff.2 ((sortU_mem _ _).2 e)), q2, s2 h x e]
  · rw [if_neg fun q => e ((sortU_mem _ _).1 (memB_iff.1 q)), step_keep hd V e]
end Go.Proofs.YtijcckhkofkenaaGreat
