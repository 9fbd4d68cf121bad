/- Contracts and lemmas for the proof of PartsPlay; each theorem states its own conditions. -/
import Derived.Test.YtimchedebcoohaaGreatDoorQPartsPlayaw
import Derived.Test.YtimchedebcoohaaGreatDoorQPartsPlayaz
import Derived.Test.YtimchedebcoohaaGreatDoorQPartsPlayba
import Derived.Test.YtimchedebcoohaaGreatDoorQPartsPlayav
import Derived.Test.YtimchedebcoohaaGreatDoorQPartsPlayab
import Derived.Test.YtimchedebcoohaaGreatDoorQPartsPlayai
import Derived.Test.YtimchedebcoohaaGreatDoorQPartsPlayax
import Derived.Shelf.Abstract
import Derived.Test.YtimchedebcoohaaGreatDoorQPartsPlayaf
import Derived.Maps.OwnSet
import Derived.Test.YtimchedebcoohaaGreatDoorQPartsPlayas
import Derived.Test.YtimchedebcoohaaGreatDoorQPartsPlayak
import Derived.Test.YtimchedebcoohaaGreatDoorQPartsPlayao
set_option linter.unusedVariables false
set_option linter.unusedSimpArgs false
/- Contracts and lemmas for the proofs of this seat; each theorem states its own conditions. -/
namespace Go.Proofs.YtimchedebcoohaaGreatDoor
/-! parts of a store, in plain lists -/
structure PartsOk (C : List ByteArray) (O : List Int) (V : Vls) (P : Nat → Prs) (N : Nat) : Prop where
  ok : ∀ i : Nat, i < 4 → StoreOk (P i)
  len : ∀ i : Nat, i < 4 → (P i).length ≤ N
  val : ∀ i : Nat, i < 4 → ∀ k, valP (P i) k = if whose C O k = (i : Int) then V k else 0
theorem parts_new {C : List ByteArray} {O : List Int} {S : Prs} (h : StoreOk S) : PartsOk C O (valP S) (fun i => partP C O S (i : Int)) S.length where
  ok := fun i _ => storeOk_filter h _
  len := fun i _ => List.length_filter_le _ _
  val := fun i _ k => by
    show valP (partP C O S i) k = _
    rw [partP, val_filter h.srt]
    by_cases e : whose C O k = (i : Int)
    · rw [if_pos (by simp [e]), if_pos e]
    · rw [if_neg (by simp [e]), if_neg e]
theorem PartsOk.mono {C : List ByteArray} {O : List Int} {V : Vls} {P : Nat → Prs} {N M : Nat} (h : PartsOk C O V P N) (hm : N ≤ M) : PartsOk C O V P M := ⟨h.ok, fun i hi => Nat.le_trans (h.len i hi) hm, h.val⟩
theorem PartsOk.put {C : List ByteArray} {O : List Int} {V : Vls} {P : Nat → Prs} {N : Nat} (h : PartsOk C O V P N) {i : Nat} (hi : i < 4) {k : ByteArray} {n : Int} (hw : whose C O k = (i : Int)) (hk : keyB k = true) (hn : -1000000000 ≤ n ∧ n ≤ 1000000000) :
    PartsOk C O (setV V k n) (fun j => if j = i then withP (P i) k n else P j) (N + 1) where
  ok := fun j hj => by
    try dsimp only
    split
    · exact storeOk_with (h.ok i hi) hk hn
    · exact h.ok j hj
  len := fun j hj => by
    try dsimp only
    split
    · have := with_len (P i) k n; have := h.len i hi; omega
    · have := h.len j hj; omega
  val := fun j hj x => by
    try dsimp only
    unfold setV
    by_cases e : j = i
    · subst e
      rw [if_pos rfl, val_with (h.ok j hj).srt, h.val j hj x]
      by_cases e2 : k = x
      · subst e2; rw [if_pos rfl, if_pos hw, if_pos rfl]
      · rw [if_neg e2, if_neg e2]
    · rw [if_neg e, h.val j hj x]
      by_cases e2 : k = x
      · subst e2; rw [if_pos rfl, if_neg (by rw [hw]; omega), if_neg (by rw [hw]; omega)]
      · rw [if_neg e2]
theorem PartsOk.val_at {C : List ByteArray} {O : List Int} (hm : MapOk C O) {V : Vls} {P : Nat → Prs} {N : Nat} (h : PartsOk C O V P N) (k : ByteArray) : ∃ i : Nat, i < 4 ∧ whose C O k = (i : Int) ∧ valP (P i) k = V k := by
  obtain ⟨h0, h4⟩ := whose_rng hm k
  refine ⟨(whose C O k).toNat, by omega, by omega, ?_⟩
  rw [h.val _ (by omega), if_pos (by omega)]
theorem PartsOk.bd {C : List ByteArray} {O : List Int} (hm : MapOk C O) {V : Vls} {P : Nat → Prs} {N : Nat} (h : PartsOk C O V P N) (k : ByteArray) : -1000000000 ≤ V k ∧ V k ≤ 1000000000 := by
  obtain ⟨i, hi, _, e⟩ := h.val_at hm k
  rw [← e]; exact val_bd (h.ok i hi) k
/-- each has what the store has of his -/
theorem PartsOk.eq {C : List ByteArray} {O : List Int} {P : Nat → Prs} {N : Nat} {S : Prs} (hS : StoreOk S) (h : PartsOk C O (valP S) P N) {i : Nat} (hi : i < 4) : P i = partP C O S (i : Int) := by
  refine store_ext (h.ok i hi) ((parts_new (C := C) (O := O) hS).ok i hi) fun k => ?_
  rw [h.val i hi, (parts_new (C := C) (O := O) hS).val i hi]
/-- what is told of some keys -/
def toldP (V : Vls) : List ByteArray → Prs
  | [] => []
  | k :: ks => withP (toldP V ks) k (V k)
theorem told_ok {V : Vls} (hV : ∀ k, -1000000000 ≤ V k ∧ V k ≤ 1000000000) : ∀ {ks : List ByteArray}, (∀ k ∈ ks, keyB k = true) → StoreOk (toldP V ks) ∧ (toldP V ks).length ≤ ks.length ∧ ∀ x, valP (toldP V ks) x = if memB ks x = true then V x else 0
  | [], _ => ⟨storeOk_nil, Nat.le_refl _, fun x => by simp [toldP, valP, memB]⟩
  | k :: ks, h => by
    obtain ⟨h1, h2, h3⟩ := told_ok hV (ks := ks) fun j hj => h j (by simp [hj])
    have hl := with_len (toldP V ks) k (V k)
    refine ⟨storeOk_with h1 (h k (by simp)) (hV k), by rw [toldP, List.length_cons]; omega, fun x => ?_⟩
    rw [toldP, val_with h1.srt, h3 x]
    by_cases e : k = x
    · subst e; rw [if_pos rfl, if_pos (memB_iff.2 (by simp))]
    · have : memB (k :: ks) x = memB ks x := by simp [memB, e]
      rw [if_neg e, this]
/-- the values once the first ones of w have been taken over -/
def overV (V U : Vls) (ks : List ByteArray) : Vls := fun x => if memB ks x = true then U x else V x
theorem over_step (V U : Vls) (ks : List ByteArray) (k : ByteArray) : setV (overV V U ks) k (U k) = overV V U (ks ++ [k]) := by
  funext x
  unfold setV overV
  by_cases e : k = x
  · subst e; rw [if_pos rfl, if_pos (memB_iff.2 (by simp))]
  · have : memB (ks ++ [k]) x = memB ks x := by simp [memB, e]
    rw [if_neg e, this]
theorem over_nil (V U : Vls) : overV V U [] = V := by funext x; simp [overV, memB]
/-- a deed done on what was told makes what it makes on all -/
theorem told_run {V : Vls} {T : Prs} {ks : List ByteArray} {d : Ops} (hT : StoreOk T) (hd : ∀ o ∈ d, OpOk o) (hv : ∀ x, valP T x = if memB ks x = true then V x else 0) (hr : ∀ k ∈ rds d, k ∈ ks) :
    runB T d = okV V d ∧ (runB T d = true → overV V (valP (runS T d)) (sortU (wrs d)) = stepV V d) := by
  obtain ⟨q1, q2, q3⟩ := run_val hT hd
  obtain ⟨s1, s2⟩ := step_agree hd (v := valP T) (u := V) fun k hk => by rw [hv k, if_pos (memB_iff.2 (hr k hk))]
  refine ⟨by rw [q3, s1], fun h => ?_⟩
  rw [q3] at h
  funext x
  unfold overV
  by_cases e : x ∈ wrs d
  · rw [if_pos (memB_iff.2 ((sortU_mem _ _).2 e)), q2, s2 h x e]
  · rw [if_neg fun q => e ((sortU_mem _ _).1 (memB_iff.1 q)), step_keep hd V e]
end Go.Proofs.YtimchedebcoohaaGreatDoor

/- Contracts and lemmas for the proofs of this seat; each theorem states its own conditions. -/
namespace Go.Proofs.YtimchedebcoohaaGreatDoor
open Go.RowKit
/-! slices.IndexFunc, ContainsFunc, DeleteFunc at claims -/
/-- the cells of claims -/
def cK (l : List (Nat × Bool)) : List Value := l.flatMap fun c => [.int .i64 c.1, .bool c.2]
theorem cK_cons (c : Nat × Bool) (l : List (Nat × Bool)) : cK (c :: l) = .int .i64 c.1 :: .bool c.2 :: cK l := by simp [cK]
theorem cK_app (a b : List (Nat × Bool)) : cK (a ++ b) = cK a ++ cK b := by simp [cK]
theorem cK_len : ∀ l : List (Nat × Bool), (cK l).length = l.length * 2
  | [] => rfl
  | c :: l => by rw [cK_cons]; simp only [List.length_cons, cK_len l]; omega
theorem cK_one (l : List (Nat × Bool)) : ∀ u ∈ cK l, u.oneCell' = true := by
  intro u hu
  simp only [cK, List.mem_flatMap] at hu
  obtain ⟨c, _, hc⟩ := hu
  simp at hc
  rcases hc with rfl | rfl <;> rfl
theorem cK_at : ∀ (l : List (Nat × Bool)) (k : Nat) (hk : k < l.length), (cK l)[k * 2]? = some (.int .i64 l[k].1) ∧ (cK l)[k * 2 + 1]? = some (.bool l[k].2)
  | [], k, h => by simp at h
  | c :: l, 0, h => by simp [cK_cons]
  | c :: l, k + 1, h => by
    have := cK_at l k (by simpa using h)
    rw [show (k + 1) * 2 = k * 2 + 1 + 1 by omega, cK_cons]
    simpa using this
end Go.Proofs.YtimchedebcoohaaGreatDoor

/- Contracts and lemmas for the proofs of this seat; each theorem states its own conditions. -/
namespace Go.Proofs.YtimchedebcoohaaGreatDoor
open Go.RowKit Go.Maps
/-! maps whose elements are slices of one's own, read by the slice VALUE: a row's block, length and capacity -/
abbrev SV := Option (Nat × Nat × Nat)
def svV : SV → Value
  | none => .slice none 0 0
  | some (g, n, c) => .slice (some ⟨g, 0, none⟩) n c
def dV : SV → DU
  | none => .nil
  | some (g, n, c) => .agg [.lit (.int .i64 g), .lit (.int .i64 n), .lit (.int .i64 c)]
theorem dV_inj {a b : SV} (h : dV a = dV b) : a = b := by
  cases a with
  | none => cases b with
    | none => rfl
    | some b => obtain ⟨g, n, c⟩ := b; simp [dV] at h
  | some a => cases b with
    | none => obtain ⟨g, n, c⟩ := a; simp [dV] at h
    | some b =>
      obtain ⟨g, n, c⟩ := a
      obtain ⟨g', n', c'⟩ := b
      simp [dV] at h
      have h1 : g = g' := by omega
      have h2 : n = n' := by omega
      have h3 : c = c' := by omega
      rw [h1, h2, h3]
def svElem (v : Value) : Option (DU × List MemPlace) :=
  match v with
  | .slice none n c => if n = 0 ∧ c = 0 then some (.nil, []) else none
  | .slice (some a) n c => if a.off = 0 ∧ a.spot = none then some (.agg [.lit (.int .i64 a.block), .lit (.int .i64 n), .lit (.int .i64 c)], []) else none
  | _ => none
theorem svElem_mk (s : SV) : svElem (svV s) = some (dV s, []) := by
  cases s with
  | none => simp [svV, svElem, dV]
  | some s => obtain ⟨g, n, c⟩ := s; simp [svV, svElem, dV]
theorem svElem_inv {v : Value} {z : DU × List MemPlace} (h : svElem v = some z) : ∃ s, v = svV s ∧ z = (dV s, []) := by
  unfold svElem at h
  split at h
  · split at h
    · rename_i e; obtain ⟨rfl, rfl⟩ := e; exact ⟨none, rfl, (Option.some.inj h).symm⟩
    · cases h
  · rename_i a n c
    split at h
    · rename_i e
      obtain ⟨b, off, sp⟩ := a
      obtain ⟨rfl, rfl⟩ := e
      exact ⟨some (b, n, c), rfl, (Option.some.inj h).symm⟩
    · cases h
  · cases h
theorem sv_block (s : SV) : (svV s).ownBlock = s.map (·.1) := by
  cases s with
  | none => rfl
  | some s => rfl
/-- what an own row is as such a value -/
theorem sv_of_own {w : World} {B e sz n : Nat} {v : Value} {xs : List Value} (h : w.ownsRow B e sz v n xs) : ∃ s : SV, v = svV s ∧ ∀ p, s = some p → p.2.1 = n := by
  rcases h.2 with ⟨rfl, _⟩ | ⟨g, cap, cur, rfl, _⟩
  · exact ⟨none, rfl, fun p hp => by cases hp⟩
  · exact ⟨some (g, n, cap), rfl, fun p hp => by injection hp with hp; subst hp; rfl⟩
section
variable {P : Program} (w : World) {ops : Array Oper} {rest : List Oper} {o : Oper} {a : Act} {Q : Exit → Act → World → Prop}
/-- m[k] -/
theorem wpList_lookup_sv {κ : Type} {klit : κ → Lit} {ok : κ → Prop} (hg : o.guard = none) (m x : Operand) (t : TypeId) (hop : o.op = Op.lookup t m x false)
    (k e : TypeId) (K : Keyed P k) (ht : P.underlying t = some (.map k e)) (hz : (zeroValue e).run P w = .ok (.slice none 0 0) w) (b n : Nat) (D : DU) (f : κ → Option SV) (hF : MapF klit ok dV D f)
    (hm : a.eval m = .map (some b)) (hown : w.ownsMap P k svElem b n D) (key : Value) (kk : κ) (hkk : ok kk) (hx : a.eval x = key) (hkey : Go.keyOf P k key = some (klit kk))
    (hK : wpList P ops Q rest (a.put o.dst (svV ((f kk).getD none))) w) : wpList P ops Q (o :: rest) a w := by
  refine wpList_plain hg fun K' hK' => ?_
  obtain ⟨v, ps, hrun, hv⟩ := hown.lookup K ht hz (svElem_mk none) hkey
  obtain ⟨s, rfl, hs⟩ := svElem_inv hv
  injection hs with hs _
  have := hF.look dV_inj hkk hs
  subst this
  unfold Oper.wp
  simp [execOp, hop, hm, hx, hrun, Result.andThen]
  exact hK' _ _ hK
/-- m[k], under a guard that holds -/
theorem wpList_lookup_svg {κ : Type} {klit : κ → Lit} {ok : κ → Prop} (hg : Region.wanted o (yielded ops a.tmps) = true) (m x : Operand) (t : TypeId) (hop : o.op = Op.lookup t m x false)
    (k e : TypeId) (K : Keyed P k) (ht : P.underlying t = some (.map k e)) (hz : (zeroValue e).run P w = .ok (.slice none 0 0) w) (b n : Nat) (D : DU) (f : κ → Option SV) (hF : MapF klit ok dV D f)
    (hm : a.eval m = .map (some b)) (hown : w.ownsMap P k svElem b n D) (key : Value) (kk : κ) (hkk : ok kk) (hx : a.eval x = key) (hkey : Go.keyOf P k key = some (klit kk))
    (hK : wpList P ops Q rest (a.put o.dst (svV ((f kk).getD none))) w) : wpList P ops Q (o :: rest) a w := by
  refine wpList_step fun K' hK' => ?_
  rw [if_pos hg]
  obtain ⟨v, ps, hrun, hv⟩ := hown.lookup K ht hz (svElem_mk none) hkey
  obtain ⟨s, rfl, hs⟩ := svElem_inv hv
  injection hs with hs _
  have := hF.look dV_inj hkk hs
  subst this
  unfold Oper.wp
  simp [execOp, hop, hm, hx, hrun, Result.andThen]
  exact hK' _ _ hK
/-- v, ok := m[k] -/
theorem wpList_lookup_sv_ok {κ : Type} {klit : κ → Lit} {ok : κ → Prop} (hg : o.guard = none) (m x : Operand) (t : TypeId) (hop : o.op = Op.lookup t m x true)
    (k e : TypeId) (K : Keyed P k) (ht : P.underlying t = some (.map k e)) (hz : (zeroValue e).run P w = .ok (.slice none 0 0) w) (b n : Nat) (D : DU) (f : κ → Option SV) (hF : MapF klit ok dV D f)
    (hm : a.eval m = .map (some b)) (hown : w.ownsMap P k svElem b n D) (key : Value) (kk : κ) (hkk : ok kk) (hx : a.eval x = key) (hkey : Go.keyOf P k key = some (klit kk))
    (hK : wpList P ops Q rest (a.put o.dst (.tuple #[svV ((f kk).getD none), .bool (f kk).isSome])) w) : wpList P ops Q (o :: rest) a w :=
  wpList_lookup_own_ok w hg m x t hop k e K ht svElem hz .nil [] (svElem_mk none) b n D hm hown key _ hx hkey (fun v ps hv => by
    obtain ⟨s, rfl, hs⟩ := svElem_inv hv
    injection hs with hs _
    have := hF.look (z := none) dV_inj hkk hs
    subst this
    rw [hF.has hkk]
    exact hK)
end
end Go.Proofs.YtimchedebcoohaaGreatDoor

/- Contracts and lemmas for the proofs of this seat; each theorem states its own conditions. -/
namespace Go.Proofs.YtimchedebcoohaaGreatDoor
open Go.RowKit Go.Maps
/-! the lock table, in memory -/
/-- the keys of a deed, in order, each once -/
def tkL (d : Ops) : List ByteArray := sortU (sortU (rds d) ++ sortU (wrs d))
theorem tkL_mem (d : Ops) (k : ByteArray) : k ∈ tkL d ↔ tchB d k = true := by
  rw [tkL, sortU_mem, List.mem_append, sortU_mem, sortU_mem, tchB_iff]
theorem lawStr : Keyed Tryz.prog 9 := string_keyed Tryz.underlying9
theorem lawInt : Keyed Tryz.prog 3 := int_keyed Tryz.underlying3
end Go.Proofs.YtimchedebcoohaaGreatDoor

/- Contracts and lemmas for the proofs of this seat; each theorem states its own conditions. -/
namespace Go.Proofs.YtimchedebcoohaaGreatDoor
open Go.RowKit Go.Maps
/-! lock.New, holds, May, Ready, Left -/
theorem holds_hit {l : Clm} {s j : Nat} (hj : j < l.length) (hlo : ∀ i (h : i < j), (l[i]'(by omega)).1 ≠ s) (h : l[j].1 = s) : holdsL l s = (decide (j = 0) || (!l[j].2 && !((l.take j).any fun c => c.2))) := by
  have e : l = l.take j ++ l[j] :: l.drop (j + 1) := by rw [← List.drop_eq_getElem_cons hj, List.take_append_drop]
  unfold holdsL
  conv => lhs; rw [e]
  rw [holdsG_pre (fun c hc => by
    obtain ⟨i, hi, rfl⟩ := List.mem_iff_getElem.1 hc
    rw [List.length_take] at hi
    rw [List.getElem_take]
    exact hlo i (by omega))]
  rw [holdsG, if_pos h]
  have e2 : (l.take j).isEmpty = decide (j = 0) := by
    cases j with
    | zero => simp
    | succ j => 
      have : l ≠ [] := by rintro rfl; simp at hj
      simp [this]
  rw [e2]; simp
theorem holds_miss {l : Clm} {s : Nat} : ∀ {f m : Bool}, (∀ c ∈ l, c.1 ≠ s) → holdsG f m s l = false := by
  induction l with
  | nil => intro f m _; rfl
  | cons c l ih => intro f m h; rw [holdsG, if_neg (h c (by simp))]; exact ih fun d hd => h d (by simp [hd])
theorem seg_takeK {w : World} {b off c : Nat} {l : Clm} (hc : ∀ j u, (cK l)[j]? = some u → w.cell? ⟨b, off + j, none⟩ = some u) {j : Nat} (hj : j ≤ l.length) (h1 : l.length ≤ c) (h2 : c ≤ maxLen) : Seg w (.slice (some ⟨b, off, none⟩) j c) 2 (l.take j).length (cK (l.take j)) := by
  have hl : (l.take j).length = j := by rw [List.length_take]; omega
  refine ⟨by rw [cK_len], some ⟨b, off, none⟩, c, by rw [hl], by omega, h2, fun _ => ⟨b, off, rfl, fun i u hu => hc i u ?_⟩⟩
  have e : cK l = cK (l.take j) ++ cK (l.drop j) := by rw [← cK_app, List.take_append_drop]
  rw [e, List.getElem?_append_left (List.getElem?_eq_some_iff.1 hu).1]
  exact hu
end Go.Proofs.YtimchedebcoohaaGreatDoor

/- Contracts and lemmas for the proofs of this seat; each theorem states its own conditions. -/
namespace Go.Proofs.YtimchedebcoohaaGreatDoor
open Go.RowKit Go.Maps
/-! May, Ready, Left -/
theorem dok_at {A : List Ops} (h : ∀ d ∈ A, DeedOk d) {s : Nat} (hs : s < A.length) : DeedOk (A.getD s []) := by
  have : A.getD s [] = A[s] := by simp [hs]
  rw [this]; exact h _ (List.getElem_mem hs)
theorem infoI : (Tryz.prog.info? 3).map (fun i => (i.zero, i.size, i.bytes)) = some (some (.int .i64 0), 1, 8) := by kernel_rfl
theorem one_int (z : Int) : ∀ u ∈ [Value.int .i64 z], u.oneCell' = true := by
  intro u hu; simp at hu; subst hu; rfl
/-- numbers of deeds, as cells -/
def cN (l : List Nat) : List Value := l.map fun (n : Nat) => .int .i64 (n : Int)
theorem cN_app (a b : List Nat) : cN (a ++ b) = cN a ++ cN b := by simp [cN]
theorem cN_len (a : List Nat) : (cN a).length = a.length := by simp [cN]
theorem ready_len (A : List Ops) (g : Nat → Bool) (n : Nat) : (readyL A g n).length ≤ n := by
  have := List.length_filter_le (fun s => !g s && mayB A g s) (List.range n)
  simpa [readyL] using this
end Go.Proofs.YtimchedebcoohaaGreatDoor
