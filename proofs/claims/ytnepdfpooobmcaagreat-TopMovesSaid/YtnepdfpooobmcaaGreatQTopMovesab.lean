/- Contracts and lemmas for the proof of TopMoves; each theorem states its own conditions. -/
import Derived.Test.YtnepdfpooobmcaaGreatQTopMovesaa
import Derived.WalkLawsBesides
set_option linter.unusedVariables false
set_option linter.unusedSimpArgs false
/- Contracts and lemmas for the proofs of this seat; each theorem states its own conditions. -/
namespace Go.Proofs.YtnepdfpooobmcaaGreat
open Go.RowKit
/-! frames of things that turn: only what S names may turn; what it names later is of S, or new -/
def Kp (S : Nat → Prop) (w w' : World) (S' : Nat → Prop) : Prop :=
  (w'.os = w.os ∧ w'.tape = w.tape ∧ w'.output = w.output ∧ w.heap.size ≤ w'.heap.size) ∧
  (∀ i, i < w.heap.size → ¬ S i → w'.heap[i]? = w.heap[i]?) ∧ ∀ i, S' i → S i ∨ w.heap.size ≤ i
theorem Kp.of_ext {S : Nat → Prop} {w w' : World} (E : Ext w w') : Kp S w w' S := ⟨⟨E.os, E.tape, E.output, E.size'⟩, fun i hi _ => Below.block E i hi, fun i h => .inl h⟩
theorem Kp.refl (S : Nat → Prop) (w : World) : Kp S w w S := Kp.of_ext (Ext.refl w)
theorem Kp.size {S S' : Nat → Prop} {w w' : World} (h : Kp S w w' S') : w.heap.size ≤ w'.heap.size := h.1.2.2.2
theorem Kp.out {S S' : Nat → Prop} {w w' : World} (h : Kp S w w' S') {k : Nat} (hk : k < w.heap.size) (hS : ¬ S k) : ¬ S' k := fun q => by
  rcases h.2.2 k q with a | a
  · exact hS a
  · omega
theorem Kp.trans {S S' S'' : Nat → Prop} {a b c : World} (h : Kp S a b S') (k : Kp S' b c S'') : Kp S a c S'' := by
  have ho := fun i => h.out (k := i)
  obtain ⟨⟨h1, h2, h3, h4⟩, h5, h6⟩ := h
  obtain ⟨⟨k1, k2, k3, k4⟩, k5, k6⟩ := k
  refine ⟨⟨k1.trans h1, k2.trans h2, k3.trans h3, Nat.le_trans h4 k4⟩, fun i hi hS => ?_, fun i hi => ?_⟩
  · rw [k5 i (by omega) (ho i hi hS), h5 i hi hS]
  · rcases k6 i hi with q | q
    · exact h6 i q
    · right; omega
theorem Kp.ext {S S' : Nat → Prop} {a b c : World} (h : Kp S a b S') (E : Ext b c) : Kp S a c S' := h.trans (Kp.of_ext E)
theorem Kp.after {S S' : Nat → Prop} {a b c : World} (E : Ext a b) (h : Kp S b c S') : Kp S a c S' := (Kp.of_ext E).trans h
theorem Kp.heap {S S' : Nat → Prop} {w w' : World} (h : Kp S w w' S') {k : Nat} {o : Obj} (hk : w.heap[k]? = some o) (hS : ¬ S k) : w'.heap[k]? = some o := (h.2.1 k (Array.getElem?_eq_some_iff.1 hk).1 hS).trans hk
/-- v lies in none of S -/
def Off (S : Nat → Prop) (v : Value) : Prop := ∀ k, v.ownBlock = some k → ¬ S k
theorem Kp.own {S S' : Nat → Prop} {w w' : World} (h : Kp S w w' S') {B e sz n : Nat} {v : Value} {xs : List Value} (ho : w.ownsRow B e sz v n xs) (hS : Off S v) : w'.ownsRow B e sz v n xs := by
  refine ⟨ho.1, ?_⟩
  rcases ho.2 with hn | ⟨b, cap, cur, rfl, hb, hg, rest⟩
  · exact .inl hn
  · exact .inr ⟨b, cap, cur, rfl, hb, h.heap hg (hS b rfl), rest⟩
theorem Kp.off {S S' : Nat → Prop} {w w' : World} (h : Kp S w w' S') {B e sz n : Nat} {v : Value} {xs : List Value} (ho : w.ownsRow B e sz v n xs) (hS : Off S v) : Off S' v := fun k hk => h.out (ho.lt k hk).2 (hS k hk)
/-- below all that turns nothing turns -/
theorem Kp.low {S S' : Nat → Prop} {w0 w w' : World} (h : Kp S w w' S') (E : Ext w0 w) (hS : ∀ i, S i → w0.heap.size ≤ i) : Ext w0 w' ∧ ∀ i, S' i → w0.heap.size ≤ i := by
  obtain ⟨⟨h1, h2, h3, h4⟩, h5, h6⟩ := h
  have hs := E.size'
  refine ⟨⟨h1.trans E.os, h2.trans E.tape, h3.trans E.output, by omega, fun i hi => ?_⟩, fun i hi => ?_⟩
  · rw [h5 i (by omega) (fun q => by have := hS i q; omega)]
    exact Below.block E i hi
  · rcases h6 i hi with q | q
    · exact hS i q
    · omega
theorem Kp.wide {S S' S'' : Nat → Prop} {w w' : World} (h : Kp S w w' S') (k : ∀ i, S'' i → S' i ∨ w.heap.size ≤ i) : Kp S w w' S'' := ⟨h.1, h.2.1, fun i hi => by
  rcases k i hi with q | q
  · exact h.2.2 i q
  · exact .inr q⟩
theorem Kp.of_grown {S : Nat → Prop} {w w' : World} {row : Option Nat} (hg : w.grownBy w' row) (hr : ∀ k, row = some k → S k) : Kp S w w' S :=
  ⟨⟨hg.os, hg.tape, hg.output, hg.size⟩, fun i hi hS => hg.block i hi (fun e => hS (hr i e.symm)), fun i h => .inl h⟩
theorem grown_set (w : World) (g i : Nat) (u : Value) : w.grownBy (w.setCell ⟨g, i, none⟩ u) (some g) := ⟨rfl, rfl, rfl, by simp [World.setCell], fun j hj hne => by
    have : g ≠ j := fun e => hne (by rw [e])
    simp [World.setCell, Array.getElem?_modify, this]⟩
theorem Kp.put {S S' : Nat → Prop} {w0 w : World} (h : Kp S w0 w S') {b i : Nat} (hS : S' b) (u : Value) : Kp S w0 (w.setCell ⟨b, i, none⟩ u) S' :=
  h.trans (Kp.of_grown (grown_set w b i u) (fun k e => by injection e with e; subst e; exact hS))
/-- what S names has elements of these types -/
def TyS (w : World) (S : Nat → Prop) (T : List Nat) : Prop := ∀ k, S k → ∃ cs e, w.heap[k]? = some (.cells cs e (0, 0)) ∧ e ∈ T
theorem TyS.lt {w : World} {S : Nat → Prop} {T : List Nat} (h : TyS w S T) {k : Nat} (hk : S k) : k < w.heap.size := by
  obtain ⟨_, _, h, _⟩ := h k hk
  exact (Array.getElem?_eq_some_iff.1 h).1
theorem TyS.off {w : World} {S : Nat → Prop} {T : List Nat} (h : TyS w S T) {B e sz n : Nat} {v : Value} {xs : List Value} (ho : w.ownsRow B e sz v n xs) (he : e ∉ T) : Off S v := fun k hk hS => by
  obtain ⟨cs, e', hg, hm⟩ := h k hS
  exact own_ne ho hg (fun q => he (q ▸ hm)) hk
theorem TyS.ext {w w' : World} {S : Nat → Prop} {T : List Nat} (h : TyS w S T) (E : Ext w w') : TyS w' S T := fun k hk => by
  obtain ⟨cs, e, hg, hm⟩ := h k hk
  exact ⟨cs, e, E.heap hg, hm⟩
end Go.Proofs.YtnepdfpooobmcaaGreat

/- Contracts and lemmas for the proofs of this seat; each theorem states its own conditions. -/
namespace Go.Proofs.YtnepdfpooobmcaaGreat
open Go.RowKit
example : DecidableEq ByteArray := inferInstance
/-- strings in order -/
def blt (a b : ByteArray) : Bool := Op.bytesLess a.toList b.toList
theorem toList_data (s : ByteArray) : s.toList = s.data.toList := ByteArray.toList_eq s
theorem toList_inj {a b : ByteArray} (h : a.toList = b.toList) : a = b := by
  rw [toList_data, toList_data] at h
  cases a with | mk a => cases b with | mk b => simp at h; simp [h]
/-- a letter -/
def letB (c : UInt8) : Bool := 97 ≤ c && c ≤ 122
/-- P3 -/
def keyB (s : ByteArray) : Bool := !s.toList.isEmpty && decide (s.size ≤ 6) && s.toList.all letB
theorem key_false1 {s : ByteArray} (h : s.toList = []) : keyB s = false := by simp [keyB, h]
theorem key_false2 {s : ByteArray} (h : 6 < (s.size : Int)) : keyB s = false := by
  have : ¬ s.size ≤ 6 := by omega
  simp [keyB, this]
theorem key_false3 {s : ByteArray} (k : Nat) (hk : k < s.size) (h : (s[k].toNat : Int) < 97 ∨ 122 < (s[k].toNat : Int)) : keyB s = false := by
  have : s.toList.all letB = false := by
    rw [List.all_eq_false]
    refine ⟨s[k], ?_, ?_⟩
    · rw [toList_data]; exact Array.getElem_mem_toList (xs := s.data) (by exact hk)
    · simp [letB, UInt8.le_iff_toNat_le]; omega
  simp [keyB, this]
/-- the first k bytes are letters -/
def letTo (s : ByteArray) (k : Nat) : Prop := ∀ j, (hj : j < s.size) → j < k → 97 ≤ (s[j].toNat : Int) ∧ (s[j].toNat : Int) ≤ 122
theorem letTo_zero (s : ByteArray) : letTo s 0 := fun j _ h => absurd h (by omega)
theorem letTo_step {s : ByteArray} {k : Nat} (h : letTo s k) (hk : k < s.size) (h1 : 97 ≤ (s[k].toNat : Int)) (h2 : (s[k].toNat : Int) ≤ 122) : letTo s (k + 1) := by
  intro j hj hjk
  rcases Nat.lt_succ_iff_lt_or_eq.1 hjk with h3 | h3
  · exact h j hj h3
  · subst h3; exact ⟨h1, h2⟩
theorem key_true {s : ByteArray} (h1 : ¬ s.toList = []) (h2 : (s.size : Int) ≤ 6) (h : letTo s s.size) : keyB s = true := by
  have h3 : s.size ≤ 6 := by omega
  have : s.toList.all letB = true := by
    rw [List.all_eq_true]
    intro c hc
    rw [toList_data, List.mem_iff_getElem] at hc
    obtain ⟨k, hk, rfl⟩ := hc
    have hk' : k < s.size := by simpa using hk
    have := h k hk' hk'
    have e : s.data.toList[k] = s[k]'(by simpa using hk) := rfl
    rw [e]
    simp [letB, UInt8.le_iff_toNat_le]; omega
  simp [keyB, this, h3]
  simpa using h1

/-! lists as cells -/
def cI (l : List Int) : List Value := l.map (Value.int .i64)
def cS (l : List ByteArray) : List Value := l.map Value.string
def cP (l : List (ByteArray × Int)) : List Value := l.flatMap fun p => [.string p.1, .int .i64 p.2]
theorem cI_len (l : List Int) : (cI l).length = l.length := by simp [cI]
theorem cP_len (l : List (ByteArray × Int)) : (cP l).length = l.length * 2 := by
  induction l with
  | nil => rfl
  | cons a l ih => simp [cP] at ih ⊢; omega
theorem cP_at (l : List (ByteArray × Int)) (k : Nat) (hk : k < l.length) : (cP l)[k * 2]? = some (.string l[k].1) ∧ (cP l)[k * 2 + 1]? = some (.int .i64 l[k].2) := by
  induction l generalizing k with
  | nil => simp at hk
  | cons a l ih =>
    cases k with
    | zero => simp [cP]
    | succ k =>
      have := ih k (by simpa using hk)
      have e : (k + 1) * 2 = k * 2 + 1 + 1 := by omega
      simpa [cP, e] using this
theorem cI_one (l : List Int) : ∀ u ∈ cI l, u.oneCell' = true := by intro u hu; simp [cI] at hu; obtain ⟨a, _, rfl⟩ := hu; rfl
theorem cS_one (l : List ByteArray) : ∀ u ∈ cS l, u.oneCell' = true := by intro u hu; simp [cS] at hu; obtain ⟨a, _, rfl⟩ := hu; rfl
theorem cP_one (l : List (ByteArray × Int)) : ∀ u ∈ cP l, u.oneCell' = true := by
  intro u hu; simp only [cP, List.mem_flatMap, List.mem_cons, List.not_mem_nil, or_false] at hu; obtain ⟨a, _, rfl | rfl⟩ := hu <;> rfl
theorem cI_at0 (l : List Int) (k : Nat) (hk : k < l.length) : (cI l)[k]? = some (.int .i64 l[k]) := by simp [cI, hk]
theorem cS_at0 (l : List ByteArray) (k : Nat) (hk : k < l.length) : (cS l)[k]? = some (.string l[k]) := by simp [cS, hk]
theorem cP_at0 (l : List (ByteArray × Int)) (k : Nat) (hk : k < l.length) : (cP l)[k * 2]? = some (.string l[k].1) := (cP_at l k hk).1
theorem cP_at1 (l : List (ByteArray × Int)) (k : Nat) (hk : k < l.length) : (cP l)[k * 2 + 1]? = some (.int .i64 l[k].2) := (cP_at l k hk).2
/-- an operation of a deed -/
structure GOp where
  kind : Int
  key : ByteArray
  from_ : ByteArray
  n : Int
deriving DecidableEq
def cO (l : List GOp) : List Value := l.flatMap fun p => [.int .i64 p.kind, .string p.key, .string p.from_, .int .i64 p.n]
theorem cO_len (l : List GOp) : (cO l).length = l.length * 4 := by
  induction l with
  | nil => rfl
  | cons a l ih => simp [cO] at ih ⊢; omega
theorem cO_at (l : List GOp) (k : Nat) (hk : k < l.length) : (cO l)[k * 4]? = some (.int .i64 l[k].kind) ∧ (cO l)[k * 4 + 1]? = some (.string l[k].key) ∧ (cO l)[k * 4 + 2]? = some (.string l[k].from_) ∧ (cO l)[k * 4 + 3]? = some (.int .i64 l[k].n) := by
  induction l generalizing k with
  | nil => simp at hk
  | cons a l ih =>
    cases k with
    | zero => simp [cO]
    | succ k =>
      have := ih k (by simpa using hk)
      have e : (k + 1) * 4 = k * 4 + 1 + 1 + 1 + 1 := by omega
      simpa [cO, e] using this
theorem cO_at0 (l : List GOp) (k : Nat) (hk : k < l.length) : (cO l)[k * 4]? = some (.int .i64 l[k].kind) := (cO_at l k hk).1
theorem cO_at1 (l : List GOp) (k : Nat) (hk : k < l.length) : (cO l)[k * 4 + 1]? = some (.string l[k].key) := (cO_at l k hk).2.1
theorem cO_at2 (l : List GOp) (k : Nat) (hk : k < l.length) : (cO l)[k * 4 + 2]? = some (.string l[k].from_) := (cO_at l k hk).2.2.1
theorem cO_at3 (l : List GOp) (k : Nat) (hk : k < l.length) : (cO l)[k * 4 + 3]? = some (.int .i64 l[k].n) := (cO_at l k hk).2.2.2
theorem cO_one (l : List GOp) : ∀ u ∈ cO l, u.oneCell' = true := by
  intro u hu; simp only [cO, List.mem_flatMap, List.mem_cons, List.not_mem_nil, or_false] at hu; obtain ⟨a, _, rfl | rfl | rfl | rfl⟩ := hu <;> rfl
/-! searching loops -/
def allTo (p : Nat → Bool) (k : Nat) : Prop := ∀ i, i < k → p i = true
theorem allTo_zero (p : Nat → Bool) : allTo p 0 := fun i h => absurd h (by omega)
theorem allTo_succ {p : Nat → Bool} {k : Nat} (h : allTo p k) (hk : p k = true) : allTo p (k + 1) := by
  intro i hi
  rcases Nat.lt_succ_iff_lt_or_eq.1 hi with h3 | h3
  · exact h i h3
  · subst h3; exact hk
theorem all_true {p : Nat → Bool} {n : Nat} (h : allTo p n) : (List.range n).all p = true := by
  rw [List.all_eq_true]; intro x hx; exact h x (List.mem_range.1 hx)
theorem all_false {p : Nat → Bool} {n k : Nat} (hk : k < n) (h : p k = false) : (List.range n).all p = false := by
  rw [List.all_eq_false]; exact ⟨k, List.mem_range.2 hk, by simp [h]⟩
theorem allTo_of {p : Nat → Bool} {n : Nat} (h : (List.range n).all p = true) : allTo p n := by
  rw [List.all_eq_true] at h; exact fun i hi => h i (List.mem_range.2 hi)

/-- i is where what p holds of ends -/
def cutAt (p : Nat → Bool) (n i : Nat) : Prop := i ≤ n ∧ (∀ j, j < i → p j = true) ∧ (∀ j, i ≤ j → j < n → p j = false)
/-- p holds of a beginning -/
def dropsB (p : Nat → Bool) (n : Nat) : Prop := ∀ i j, i < j → j < n → p j = true → p i = true
/-- the invariant of a binary search -/
def bsInv (p : Nat → Bool) (n i j : Nat) : Prop := i ≤ j ∧ j ≤ n ∧ (∀ x, x < i → p x = true) ∧ (∀ x, j ≤ x → x < n → p x = false)
theorem bsInv_start (p : Nat → Bool) (n : Nat) : bsInv p n 0 n := ⟨Nat.zero_le _, Nat.le_refl _, fun _ h => absurd h (by omega), fun _ h h' => absurd h' (by omega)⟩
theorem bsInv_up {p : Nat → Bool} {n i j : Nat} (hd : dropsB p n) (h : bsInv p n i j) (hij : i < j) (hp : p ((i + j) / 2) = true) : bsInv p n ((i + j) / 2 + 1) j := by
  obtain ⟨h1, h2, h3, h4⟩ := h
  refine ⟨by omega, h2, fun x hx => ?_, h4⟩
  rcases Nat.lt_succ_iff_lt_or_eq.1 hx with h | h
  · exact hd x _ h (by omega) hp
  · subst h; exact hp
theorem bsInv_down {p : Nat → Bool} {n i j : Nat} (hd : dropsB p n) (h : bsInv p n i j) (hij : i < j) (hp : p ((i + j) / 2) = false) : bsInv p n i ((i + j) / 2) := by
  obtain ⟨h1, h2, h3, h4⟩ := h
  refine ⟨by omega, by omega, h3, fun x hx hxn => ?_⟩
  rcases Nat.eq_or_lt_of_le hx with h | h
  · subst h; exact hp
  · cases hpx : p x with
    | false => rfl
    | true => have := hd _ x h hxn hpx; rw [hp] at this; cases this
theorem bsInv_end {p : Nat → Bool} {n i : Nat} (h : bsInv p n i i) : cutAt p n i := ⟨h.2.1, h.2.2.1, h.2.2.2⟩
end Go.Proofs.YtnepdfpooobmcaaGreat

/- Contracts and lemmas for the proofs of this seat; each theorem states its own conditions. -/
namespace Go.Proofs.YtnepdfpooobmcaaGreat
/-! the order of strings -/
theorem bl_irrefl : ∀ x : List UInt8, Op.bytesLess x x = false
  | [] => rfl
  | a :: x => by simp [Op.bytesLess, bl_irrefl x, UInt8.lt_irrefl]
theorem u8_lt {a b : UInt8} : a < b ↔ a.toNat < b.toNat := UInt8.lt_iff_toNat_lt
theorem u8_eq {a b : UInt8} : a = b ↔ a.toNat = b.toNat := ⟨fun h => by rw [h], UInt8.toNat_inj.1⟩
theorem bl_trans : ∀ x y z : List UInt8, Op.bytesLess x y = true → Op.bytesLess y z = true → Op.bytesLess x z = true
  | _, _, [] => fun _ h => by simp [Op.bytesLess] at h
  | _, [], _ :: _ => fun h _ => by simp [Op.bytesLess] at h
  | [], _ :: _, _ :: _ => fun _ _ => rfl
  | a :: x, b :: y, c :: z => by
    simp only [Op.bytesLess, Bool.or_eq_true, decide_eq_true_eq, Bool.and_eq_true, beq_iff_eq, u8_lt, u8_eq]
    rintro (h | ⟨h, h'⟩) (k | ⟨k, k'⟩)
    · exact .inl (by omega)
    · exact .inl (by omega)
    · exact .inl (by omega)
    · exact .inr ⟨by omega, bl_trans x y z h' k'⟩
theorem bl_tri : ∀ x y : List UInt8, Op.bytesLess x y = true ∨ x = y ∨ Op.bytesLess y x = true
  | [], [] => .inr (.inl rfl)
  | [], _ :: _ => .inl rfl
  | _ :: _, [] => .inr (.inr rfl)
  | a :: x, b :: y => by
    rcases bl_tri x y with h | h | h
    · rcases Nat.lt_trichotomy a.toNat b.toNat with k | k | k
      · left; simp [Op.bytesLess, u8_lt, k]
      · left; have := u8_eq.2 k; subst this; simp [Op.bytesLess, h]
      · right; right; simp [Op.bytesLess, u8_lt, k]
    · rcases Nat.lt_trichotomy a.toNat b.toNat with k | k | k
      · left; simp [Op.bytesLess, u8_lt, k]
      · right; left; have := u8_eq.2 k; rw [this, h]
      · right; right; simp [Op.bytesLess, u8_lt, k]
    · rcases Nat.lt_trichotomy a.toNat b.toNat with k | k | k
      · left; simp [Op.bytesLess, u8_lt, k]
      · right; right; have := u8_eq.2 k; subst this; simp [Op.bytesLess, h]
      · right; right; simp [Op.bytesLess, u8_lt, k]
theorem blt_irrefl (a : ByteArray) : blt a a = false := bl_irrefl _
theorem blt_trans {a b c : ByteArray} (h : blt a b = true) (k : blt b c = true) : blt a c = true := bl_trans _ _ _ h k
theorem blt_tri (a b : ByteArray) : blt a b = true ∨ a = b ∨ blt b a = true := by
  rcases bl_tri a.toList b.toList with h | h | h
  · exact .inl h
  · exact .inr (.inl (toList_inj h))
  · exact .inr (.inr h)
theorem blt_asymm {a b : ByteArray} (h : blt a b = true) : blt b a = false := by
  cases k : blt b a with
  | false => rfl
  | true => have := blt_trans h k; rw [blt_irrefl] at this; cases this
theorem blt_ne {a b : ByteArray} (h : blt a b = true) : a ≠ b := by rintro rfl; rw [blt_irrefl] at h; cases h
theorem blt_of_not {a b : ByteArray} (h : blt a b = false) : a = b ∨ blt b a = true := by
  rcases blt_tri a b with k | k | k
  · rw [h] at k; cases k
  · exact .inl k
  · exact .inr k
/-- not greater -/
theorem ble_trans {a b c : ByteArray} (h : blt b a = false) (k : blt c b = false) : blt c a = false := by
  rcases blt_of_not h with rfl | h
  · exact k
  · rcases blt_of_not k with rfl | k
    · exact blt_asymm h
    · exact blt_asymm (blt_trans h k)
/-! sorted lists of strings -/
def kAt (ks : List ByteArray) (i : Nat) : ByteArray := ks.getD i ByteArray.empty
theorem kAt_eq {ks : List ByteArray} {i : Nat} (h : i < ks.length) : kAt ks i = ks[i] := by simp [kAt, h]
/-- strictly sorted -/
def srt (ks : List ByteArray) : Prop := ∀ i j, i < j → j < ks.length → blt (kAt ks i) (kAt ks j) = true
theorem srt_adj {ks : List ByteArray} (h : ∀ i, i + 1 < ks.length → blt (kAt ks i) (kAt ks (i + 1)) = true) : srt ks := by
  intro i j hij
  induction j with
  | zero => omega
  | succ j ih =>
    intro hj
    rcases Nat.lt_succ_iff_lt_or_eq.1 hij with k | k
    · exact blt_trans (ih k (by omega)) (h j hj)
    · subst k; exact h i hj
/-- cuts not greater than a key -/
def leAt (ks : List ByteArray) (t : ByteArray) (i : Nat) : Bool := !(blt t (kAt ks i))
def bltAt (ks : List ByteArray) (t : ByteArray) (i : Nat) : Bool := blt (kAt ks i) t
def hitS (ks : List ByteArray) (t : ByteArray) (i : Nat) : Bool := decide (i < ks.length) && (kAt ks i).toList == t.toList
theorem bltAt_eq {ks : List ByteArray} {t : ByteArray} {i : Nat} (h : i < ks.length) : bltAt ks t i = blt ks[i] t := by simp [bltAt, kAt_eq h]
theorem hitS_eq {ks : List ByteArray} {t : ByteArray} {i : Nat} (h : i < ks.length) : hitS ks t i = (ks[i].toList == t.toList) := by simp [hitS, h, kAt_eq h]
theorem hitS_out {ks : List ByteArray} {t : ByteArray} {i : Nat} (h : ¬ i < ks.length) : hitS ks t i = false := by simp [hitS, h]
theorem dropsB_blt {ks : List ByteArray} (h : srt ks) (t : ByteArray) : dropsB (bltAt ks t) ks.length := fun i j hij hj hp => blt_trans (h i j hij hj) hp
theorem dropsB_le {ks : List ByteArray} (h : srt ks) (t : ByteArray) : dropsB (leAt ks t) ks.length := fun i j hij hj hp => by
  simp only [leAt, Bool.not_eq_true'] at hp ⊢
  exact ble_trans (blt_asymm (h i j hij hj)) hp
/-- where p ends -/
def idx (p : Nat → Bool) (n : Nat) : Nat := ((List.range n).takeWhile p).length
theorem idx_spec (p : Nat → Bool) (n i : Nat) (h : cutAt p n i) : idx p n = i := by
  obtain ⟨h1, h2, h3⟩ := h
  have e : List.range n = List.range i ++ (List.range (n - i)).map (i + ·) := by
    have := List.range_add (n := i) (m := n - i)
    rw [show i + (n - i) = n from by omega] at this; exact this
  unfold idx
  rw [e, List.takeWhile_append_of_pos (fun a ha => h2 a (List.mem_range.1 ha))]
  cases hn : n - i with
  | zero => simp
  | succ m =>
    rw [List.range_succ_eq_map]
    simp only [List.map_cons, List.takeWhile_cons, Nat.add_zero]
    rw [h3 i (Nat.le_refl _) (by omega)]
    simp
/-- the first cut not less, and whether it is the key: from it the number of cuts not greater -/
theorem cut_le {ks : List ByteArray} {t : ByteArray} {i : Nat} (hs : srt ks) (h : cutAt (bltAt ks t) ks.length i) : cutAt (leAt ks t) ks.length (if hitS ks t i then i + 1 else i) := by
  obtain ⟨h1, h2, h3⟩ := h
  have lo : ∀ j, j < i → leAt ks t j = true := fun j hj => by
    have := h2 j hj; simp only [bltAt] at this; simp [leAt, blt_asymm this]
  by_cases hi : i < ks.length
  · cases hh : hitS ks t i with
    | true =>
      have e : ks[i] = t := toList_inj (by rw [hitS_eq hi] at hh; simpa using hh)
      rw [if_pos rfl]
      refine ⟨by omega, fun j hj => ?_, fun j hj hjn => ?_⟩
      · rcases Nat.lt_succ_iff_lt_or_eq.1 hj with k | k
        · exact lo j k
        · subst k; simp [leAt, kAt_eq hi, e, blt_irrefl]
      · have := hs i j (by omega) hjn
        rw [kAt_eq hi, e] at this
        simp [leAt, this]
    | false =>
      rw [if_neg (by simp)]
      refine ⟨h1, lo, fun j hj hjn => ?_⟩
      have a := h3 i (Nat.le_refl _) hi
      rw [bltAt_eq hi] at a
      have hti : blt t ks[i] = true := by
        rcases blt_of_not a with k | k
        · rw [hitS_eq hi, k] at hh; simp at hh
        · exact k
      rcases Nat.eq_or_lt_of_le hj with k | k
      · subst k; simp [leAt, kAt_eq hi, hti]
      · have := blt_trans hti (by rw [← kAt_eq hi]; exact hs i j k hjn)
        simp [leAt, this]
  · rw [hitS_out hi, if_neg (by simp)]
    exact ⟨h1, lo, fun j hj hjn => absurd hjn (by omega)⟩
end Go.Proofs.YtnepdfpooobmcaaGreat
