/- Contracts and lemmas for the proof of PartsPlay; each theorem states its own conditions. -/
import Derived.Test.YtimchedebcoohaaGreatDoorQPartsPlayaa
import Derived.WalkLawsBesides
import Derived.OpenShut
import Derived.Shelf.Strings.SlTrimAscii
import Derived.Ground.NamesProg
import Derived.Test.YtimchedebcoohaaGreatDoorProg
import Derived.WalkSpells
import Derived.Deep.QuietTactic
import Derived.BigQuiet
import Derived.Shelf.Abstract
set_option linter.unusedVariables false
set_option linter.unusedSimpArgs false
/- Contracts and lemmas for the proofs of this seat; each theorem states its own conditions. -/
namespace Go.Proofs.YtimchedebcoohaaGreatDoor
open Go.RowKit
example : DecidableEq ByteArray := inferInstance
/-- strings in order -/
def blt (a b : ByteArray) : Bool := Op.bytesLess a.toList b.toList
theorem toList_data (s : ByteArray) : s.toList = s.data.toList := ByteArray.toList_eq s
theorem size_toList (s : ByteArray) : s.toList.length = s.size := by rw [toList_data, Array.length_toList]; rfl
theorem toList_inj {a b : ByteArray} (h : a.toList = b.toList) : a = b := by
  rw [toList_data, toList_data] at h
  cases a with | mk a => cases b with | mk b => simp at h; simp [h]
/-- a letter -/
def letB (c : UInt8) : Bool := 97 ≤ c && c ≤ 122
/-- P3 -/
def keyB (s : ByteArray) : Bool := !s.toList.isEmpty && decide (s.size ≤ 6) && s.toList.all letB
theorem key_false1 {s : ByteArray} (h : s.toList = []) : keyB s = false := by simp [keyB, h]
theorem key_false2 {s : ByteArray} (h : 6 < (s.size : Int)) : keyB s = false := by
  have : ¬ s.size ≤ 6 := by omega
  simp [keyB, this]
theorem key_false3 {s : ByteArray} (k : Nat) (hk : k < s.size) (h : (s[k].toNat : Int) < 97 ∨ 122 < (s[k].toNat : Int)) : keyB s = false := by
  have : s.toList.all letB = false := by
    rw [List.all_eq_false]
    refine ⟨s[k], ?_, ?_⟩
    · rw [toList_data]; exact Array.getElem_mem_toList (xs := s.data) (by exact hk)
    · simp [letB, UInt8.le_iff_toNat_le]; omega
  simp [keyB, this]
/-- the first k bytes are letters -/
def letTo (s : ByteArray) (k : Nat) : Prop := ∀ j, (hj : j < s.size) → j < k → 97 ≤ (s[j].toNat : Int) ∧ (s[j].toNat : Int) ≤ 122
theorem letTo_zero (s : ByteArray) : letTo s 0 := fun j _ h => absurd h (by omega)
theorem letTo_step {s : ByteArray} {k : Nat} (h : letTo s k) (hk : k < s.size) (h1 : 97 ≤ (s[k].toNat : Int)) (h2 : (s[k].toNat : Int) ≤ 122) : letTo s (k + 1) := by
  intro j hj hjk
  rcases Nat.lt_succ_iff_lt_or_eq.1 hjk with h3 | h3
  · exact h j hj h3
  · subst h3; exact ⟨h1, h2⟩
theorem key_true {s : ByteArray} (h1 : ¬ s.toList = []) (h2 : (s.size : Int) ≤ 6) (h : letTo s s.size) : keyB s = true := by
  have h3 : s.size ≤ 6 := by omega
  have : s.toList.all letB = true := by
    rw [List.all_eq_true]
    intro c hc
    rw [toList_data, List.mem_iff_getElem] at hc
    obtain ⟨k, hk, rfl⟩ := hc
    have hk' : k < s.size := by simpa using hk
    have := h k hk' hk'
    have e : s.data.toList[k] = s[k]'(by simpa using hk) := rfl
    rw [e]
    simp [letB, UInt8.le_iff_toNat_le]; omega
  simp [keyB, this, h3]
  simpa using h1

/-! lists as cells -/
def cI (l : List Int) : List Value := l.map (Value.int .i64)
def cS (l : List ByteArray) : List Value := l.map Value.string
def cB (l : List Bool) : List Value := l.map Value.bool
def cP (l : List (ByteArray × Int)) : List Value := l.flatMap fun p => [.string p.1, .int .i64 p.2]
theorem cI_len (l : List Int) : (cI l).length = l.length := by simp [cI]
theorem cS_len (l : List ByteArray) : (cS l).length = l.length := by simp [cS]
theorem cB_len (l : List Bool) : (cB l).length = l.length := by simp [cB]
theorem cP_len (l : List (ByteArray × Int)) : (cP l).length = l.length * 2 := by
  induction l with
  | nil => rfl
  | cons a l ih => simp [cP] at ih ⊢; omega
theorem cP_at (l : List (ByteArray × Int)) (k : Nat) (hk : k < l.length) : (cP l)[k * 2]? = some (.string l[k].1) ∧ (cP l)[k * 2 + 1]? = some (.int .i64 l[k].2) := by
  induction l generalizing k with
  | nil => simp at hk
  | cons a l ih =>
    cases k with
    | zero => simp [cP]
    | succ k =>
      have := ih k (by simpa using hk)
      have e : (k + 1) * 2 = k * 2 + 1 + 1 := by omega
      simpa [cP, e] using this
theorem cI_one (l : List Int) : ∀ u ∈ cI l, u.oneCell' = true := by intro u hu; simp [cI] at hu; obtain ⟨a, _, rfl⟩ := hu; rfl
theorem cS_one (l : List ByteArray) : ∀ u ∈ cS l, u.oneCell' = true := by intro u hu; simp [cS] at hu; obtain ⟨a, _, rfl⟩ := hu; rfl
theorem cB_one (l : List Bool) : ∀ u ∈ cB l, u.oneCell' = true := by
  intro u hu; simp only [cB, List.mem_map] at hu; obtain ⟨a, _, rfl⟩ := hu; rfl
theorem cP_one (l : List (ByteArray × Int)) : ∀ u ∈ cP l, u.oneCell' = true := by
  intro u hu; simp only [cP, List.mem_flatMap, List.mem_cons, List.not_mem_nil, or_false] at hu; obtain ⟨a, _, rfl | rfl⟩ := hu <;> rfl
theorem cI_at0 (l : List Int) (k : Nat) (hk : k < l.length) : (cI l)[k]? = some (.int .i64 l[k]) := by simp [cI, hk]
theorem cS_at0 (l : List ByteArray) (k : Nat) (hk : k < l.length) : (cS l)[k]? = some (.string l[k]) := by simp [cS, hk]
theorem cB_at0 (l : List Bool) (k : Nat) (hk : k < l.length) : (cB l)[k]? = some (.bool l[k]) := by simp [cB, hk]
theorem cP_at0 (l : List (ByteArray × Int)) (k : Nat) (hk : k < l.length) : (cP l)[k * 2]? = some (.string l[k].1) := (cP_at l k hk).1
theorem cP_at1 (l : List (ByteArray × Int)) (k : Nat) (hk : k < l.length) : (cP l)[k * 2 + 1]? = some (.int .i64 l[k].2) := (cP_at l k hk).2
/-- an operation of a deed -/
structure GOp where
  kind : Int
  key : ByteArray
  from_ : ByteArray
  n : Int
deriving DecidableEq
def cO (l : List GOp) : List Value := l.flatMap fun p => [.int .i64 p.kind, .string p.key, .string p.from_, .int .i64 p.n]
theorem cO_len (l : List GOp) : (cO l).length = l.length * 4 := by
  induction l with
  | nil => rfl
  | cons a l ih => simp [cO] at ih ⊢; omega
theorem cO_at (l : List GOp) (k : Nat) (hk : k < l.length) : (cO l)[k * 4]? = some (.int .i64 l[k].kind) ∧ (cO l)[k * 4 + 1]? = some (.string l[k].key) ∧ (cO l)[k * 4 + 2]? = some (.string l[k].from_) ∧ (cO l)[k * 4 + 3]? = some (.int .i64 l[k].n) := by
  induction l generalizing k with
  | nil => simp at hk
  | cons a l ih =>
    cases k with
    | zero => simp [cO]
    | succ k =>
      have := ih k (by simpa using hk)
      have e : (k + 1) * 4 = k * 4 + 1 + 1 + 1 + 1 := by omega
      simpa [cO, e] using this
theorem cO_at0 (l : List GOp) (k : Nat) (hk : k < l.length) : (cO l)[k * 4]? = some (.int .i64 l[k].kind) := (cO_at l k hk).1
theorem cO_at1 (l : List GOp) (k : Nat) (hk : k < l.length) : (cO l)[k * 4 + 1]? = some (.string l[k].key) := (cO_at l k hk).2.1
theorem cO_at2 (l : List GOp) (k : Nat) (hk : k < l.length) : (cO l)[k * 4 + 2]? = some (.string l[k].from_) := (cO_at l k hk).2.2.1
theorem cO_at3 (l : List GOp) (k : Nat) (hk : k < l.length) : (cO l)[k * 4 + 3]? = some (.int .i64 l[k].n) := (cO_at l k hk).2.2.2
theorem cO_one (l : List GOp) : ∀ u ∈ cO l, u.oneCell' = true := by
  intro u hu; simp only [cO, List.mem_flatMap, List.mem_cons, List.not_mem_nil, or_false] at hu; obtain ⟨a, _, rfl | rfl | rfl | rfl⟩ := hu <;> rfl
def opNe (a b : GOp) : Bool := !(decide (a = b))
theorem opNe_true {a b : GOp} (h : opNe a b = true) : a ≠ b := by simpa [opNe] using h
theorem opNe_false {a b : GOp} (h : opNe a b = false) : a = b := by simpa [opNe] using h
theorem str_ne {a b : ByteArray} (h : (!a.toList == b.toList) = true) : a ≠ b := by rintro rfl; simp at h
theorem str_eq {a b : ByteArray} (h : (!a.toList == b.toList) = false) : a = b := by simp at h; exact toList_inj h
theorem take_eq_step {α : Type} {l m : List α} {k : Nat} (hk : k < l.length) (hm : k < m.length) (h : l.take k = m.take k) (e : l[k] = m[k]) : l.take (k + 1) = m.take (k + 1) := by
  rw [List.take_succ_eq_append_getElem hk, List.take_succ_eq_append_getElem hm, h, e]

/-! searching loops -/
def allTo (p : Nat → Bool) (k : Nat) : Prop := ∀ i, i < k → p i = true
theorem allTo_zero (p : Nat → Bool) : allTo p 0 := fun i h => absurd h (by omega)
theorem allTo_succ {p : Nat → Bool} {k : Nat} (h : allTo p k) (hk : p k = true) : allTo p (k + 1) := by
  intro i hi
  rcases Nat.lt_succ_iff_lt_or_eq.1 hi with h3 | h3
  · exact h i h3
  · subst h3; exact hk
theorem all_true {p : Nat → Bool} {n : Nat} (h : allTo p n) : (List.range n).all p = true := by
  rw [List.all_eq_true]; intro x hx; exact h x (List.mem_range.1 hx)
theorem all_false {p : Nat → Bool} {n k : Nat} (hk : k < n) (h : p k = false) : (List.range n).all p = false := by
  rw [List.all_eq_false]; exact ⟨k, List.mem_range.2 hk, by simp [h]⟩
theorem allTo_of {p : Nat → Bool} {n : Nat} (h : (List.range n).all p = true) : allTo p n := by
  rw [List.all_eq_true] at h; exact fun i hi => h i (List.mem_range.2 hi)

/-- i is where what p holds of ends -/
def cutAt (p : Nat → Bool) (n i : Nat) : Prop := i ≤ n ∧ (∀ j, j < i → p j = true) ∧ (∀ j, i ≤ j → j < n → p j = false)
theorem cutAt_uniq {p : Nat → Bool} {n i i' : Nat} (h : cutAt p n i) (h' : cutAt p n i') : i = i' := by
  obtain ⟨h1, h2, h3⟩ := h
  obtain ⟨h1', h2', h3'⟩ := h'
  rcases Nat.lt_trichotomy i i' with h | h | h
  · have a := h2' i h; have b := h3 i (Nat.le_refl _) (by omega); rw [a] at b; cases b
  · exact h
  · have a := h2 i' h; have b := h3' i' (Nat.le_refl _) (by omega); rw [a] at b; cases b
/-- p holds of a beginning -/
def dropsB (p : Nat → Bool) (n : Nat) : Prop := ∀ i j, i < j → j < n → p j = true → p i = true
/-- the invariant of a binary search -/
def bsInv (p : Nat → Bool) (n i j : Nat) : Prop := i ≤ j ∧ j ≤ n ∧ (∀ x, x < i → p x = true) ∧ (∀ x, j ≤ x → x < n → p x = false)
theorem bsInv_start (p : Nat → Bool) (n : Nat) : bsInv p n 0 n := ⟨Nat.zero_le _, Nat.le_refl _, fun _ h => absurd h (by omega), fun _ h h' => absurd h' (by omega)⟩
theorem bsInv_up {p : Nat → Bool} {n i j : Nat} (hd : dropsB p n) (h : bsInv p n i j) (hij : i < j) (hp : p ((i + j) / 2) = true) : bsInv p n ((i + j) / 2 + 1) j := by
  obtain ⟨h1, h2, h3, h4⟩ := h
  refine ⟨by omega, h2, fun x hx => ?_, h4⟩
  rcases Nat.lt_succ_iff_lt_or_eq.1 hx with h | h
  · exact hd x _ h (by omega) hp
  · subst h; exact hp
theorem bsInv_down {p : Nat → Bool} {n i j : Nat} (hd : dropsB p n) (h : bsInv p n i j) (hij : i < j) (hp : p ((i + j) / 2) = false) : bsInv p n i ((i + j) / 2) := by
  obtain ⟨h1, h2, h3, h4⟩ := h
  refine ⟨by omega, by omega, h3, fun x hx hxn => ?_⟩
  rcases Nat.eq_or_lt_of_le hx with h | h
  · subst h; exact hp
  · cases hpx : p x with
    | false => rfl
    | true => have := hd _ x h hxn hpx; rw [hp] at this; cases this
theorem bsInv_end {p : Nat → Bool} {n i : Nat} (h : bsInv p n i i) : cutAt p n i := ⟨h.2.1, h.2.2.1, h.2.2.2⟩
end Go.Proofs.YtimchedebcoohaaGreatDoor

/- Contracts and lemmas for the proofs of this seat; each theorem states its own conditions. -/
namespace Go.Proofs.YtimchedebcoohaaGreatDoor
open Go.RowKit
theorem cell_spot {w : World} {x : Addr} {v : Value} (h : w.cell? x = some v) : x.spot = none := by
  unfold World.cell? at h
  split at h
  · rename_i hx
    cases hs : x.spot with
    | none => rfl
    | some s => simp [hs] at h
  · cases h
/-- what the shell tells of a slice of numbers, as a slice of mine -/
theorem seg_of_row {w : World} {a : Option Addr} {len cap : Nat} {zs : List Int} (h : (a = none ∧ len = 0 ∧ cap = 0 ∧ zs = []) ∨
    ∃ x, a = some x ∧ len ≤ cap ∧ cap ≤ maxLen ∧ zs.length = cap ∧ (∀ i, i < zs.length → w.cell? (x.add i) = some (.int .i64 (zs.getD i 0))) ∧ ∀ n ∈ zs, (Lit.int .i64 n).wf = true) :
    Seg w (.slice a len cap) 1 (zs.take len).length (cI (zs.take len)) ∧ (∀ z ∈ zs.take len, -9223372036854775808 ≤ z ∧ z ≤ 9223372036854775807) ∧ (zs.take len).length = len := by
  rcases h with ⟨rfl, rfl, rfl, rfl⟩ | ⟨x, rfl, h1, h2, h3, h4, h5⟩
  · exact ⟨Seg.nil _ _, by simp, rfl⟩
  · have hl : (zs.take len).length = len := by rw [List.length_take]; omega
    refine ⟨⟨by rw [cI_len]; omega, some x, cap, by rw [hl], by omega, h2, fun hn => ?_⟩, fun z hz => ?_, hl⟩
    · have hs := cell_spot (h4 0 (by omega))
      obtain ⟨b, off, sp⟩ := x
      have : sp = none := by simpa [Addr.add] using hs
      subst this
      refine ⟨b, off, rfl, fun j u hu => ?_⟩
      rw [← addr_add]
      have hj : j < (zs.take len).length := by have := (List.getElem?_eq_some_iff.1 hu).1; rw [cI_len] at this; exact this
      rw [cI_at0 _ _ hj] at hu
      injection hu with hu; subst hu
      have hj' : j < zs.length := by omega
      rw [h4 j hj']
      simp [hj']
    · have := bounds_i64 (h5 z (List.mem_of_mem_take hz))
      exact this
end Go.Proofs.YtimchedebcoohaaGreatDoor

/- Contracts and lemmas for the proofs of this seat; each theorem states its own conditions. -/
namespace Go.Proofs.YtimchedebcoohaaGreatDoor
open Go.Shelf
def lays160_ren : Go.Shelf.Ren := ⟨fun | 160 => 58 | 232 => 76 | 231 => 75 | 227 => 77 | 234 => 79 | 233 => 78 | 236 => 81 | 235 => 80 | 228 => 120 | 271 => 123 | 151 => 122 | 197 => 121 | 120 => 148 | 152 => 147 | 260 => 146 | 137 => 156 | 119 => 157 | 224 => 158 | 225 => 159 | 217 => 161 | 266 => 162 | n => n, fun | 9 => 9 | 4 => 4 | 3 => 3 | 5 => 5 | 117 => 129 | 116 => 128 | 0 => 0 | 124 => 132 | 21 => 21 | 105 => 162 | 46 => 82 | 119 => 188 | 139 => 191 | 138 => 190 | n => n, fun | 3 => 1 | 4 => 2 | n => n⟩
theorem lays160 : Go.Proofs.Lays.n160 Tryz.prog lays160_ren := {
  mixed := by kernel_rfl
  f119 := Tryz.func157.trans (congrArg some (by kernel_rfl))
  f120 := Tryz.func148.trans (congrArg some (by kernel_rfl))
  f137 := Tryz.func156.trans (congrArg some (by kernel_rfl))
  f151 := Tryz.func122.trans (congrArg some (by kernel_rfl))
  f152 := Tryz.func147.trans (congrArg some (by kernel_rfl))
  f160 := Tryz.func58.trans (congrArg some (by kernel_rfl))
  f197 := Tryz.func121.trans (congrArg some (by kernel_rfl))
  f217 := Tryz.func161.trans (congrArg some (by kernel_rfl))
  f224 := Tryz.func158.trans (congrArg some (by kernel_rfl))
  f225 := Tryz.func159.trans (congrArg some (by kernel_rfl))
  f227 := Tryz.func77.trans (congrArg some (by kernel_rfl))
  f228 := Tryz.func120.trans (congrArg some (by kernel_rfl))
  f231 := Tryz.func75.trans (congrArg some (by kernel_rfl))
  f232 := Tryz.func76.trans (congrArg some (by kernel_rfl))
  f233 := Tryz.func78.trans (congrArg some (by kernel_rfl))
  f234 := Tryz.func79.trans (congrArg some (by kernel_rfl))
  f235 := Tryz.func80.trans (congrArg some (by kernel_rfl))
  f236 := Tryz.func81.trans (congrArg some (by kernel_rfl))
  f260 := Tryz.func146.trans (congrArg some (by kernel_rfl))
  f266 := Tryz.func162.trans (congrArg some (by kernel_rfl))
  f271 := Tryz.func123.trans (congrArg some (by kernel_rfl))
  t0 := Tryz.underlying0
  a0 := Tryz.isAgg0
  z0 := Tryz.sizeOf0
  v0 := Tryz.zeroValue0
  t3 := Tryz.underlying3
  a3 := Tryz.isAgg3
  z3 := Tryz.sizeOf3
  v3 := Tryz.zeroValue3
  t4 := Tryz.underlying4
  a4 := Tryz.isAgg4
  z4 := Tryz.sizeOf4
  v4 := Tryz.zeroValue4
  t5 := Tryz.underlying5
  a5 := Tryz.isAgg5
  z5 := Tryz.sizeOf5
  v5 := Tryz.zeroValue5
  t9 := Tryz.underlying9
  a9 := Tryz.isAgg9
  z9 := Tryz.sizeOf9
  v9 := Tryz.zeroValue9
  t21 := Tryz.underlying21
  a21 := Tryz.isAgg21
  z21 := Tryz.sizeOf21
  v21 := Tryz.zeroValue21
  t46 := Tryz.underlying82
  a46 := Tryz.isAgg82
  z46 := Tryz.sizeOf82
  v46 := Tryz.zeroValue82
  t105 := Tryz.underlying162
  a105 := Tryz.isAgg162
  z105 := Tryz.sizeOf162
  v105 := Tryz.zeroValue162
  t116 := Tryz.underlying128
  a116 := Tryz.isAgg128
  z116 := Tryz.sizeOf128
  t117 := Tryz.underlying129
  a117 := Tryz.isAgg129
  z117 := Tryz.sizeOf129
  v117 := Tryz.zeroValue129
  t119 := Tryz.underlying188
  a119 := Tryz.isAgg188
  z119 := Tryz.sizeOf188
  t124 := Tryz.underlying132
  a124 := Tryz.isAgg132
  z124 := Tryz.sizeOf132
  v124 := Tryz.zeroValue132
  t138 := Tryz.underlying190
  a138 := Tryz.isAgg190
  z138 := Tryz.sizeOf190
  v138 := Tryz.zeroValue190
  t139 := Tryz.underlying191
  a139 := Tryz.isAgg191
  z139 := Tryz.sizeOf191
  v139 := Tryz.zeroValue191
  g3 := by kernel_rfl
  g4 := by kernel_rfl }
end Go.Proofs.YtimchedebcoohaaGreatDoor

/- Contracts and lemmas for the proofs of this seat; each theorem states its own conditions. -/
namespace Go.Proofs.YtimchedebcoohaaGreatDoor
open Go.RowKit
theorem less_any (a b : ByteArray) (w : World) : Calls Tryz.prog 89 #[.string a, .string b] w fun e w' => e = .returned (.bool (blt a b)) ∧ w = w' := by
  go_enter Tryz.func89, Tryz.ntmps89
  go_wp2
  go_ret
  exact ⟨rfl, rfl⟩
theorem key_any (s : ByteArray) (w : World) (hs : s.size ≤ 9223372036854775807) : Calls Tryz.prog 53 #[.string s] w fun e w' => e = .returned (.bool (keyB s)) ∧ w = w' := by
  by_cases h1 : s.toList = []
  · have h1' : s.toList.isEmpty = true := by simpa using h1
    go_enter Tryz.func53, Tryz.ntmps53
    go_wp2
    go_ret
    exact ⟨rB (key_false1 h1).symm, rfl⟩
  have h1' : s.toList.isEmpty = false := by simpa using h1
  by_cases h2 : 6 < (s.size : Int)
  · have h2' : decide (6 < (s.size : Int)) = true := by simpa using h2
    go_enter Tryz.func53, Tryz.ntmps53
    go_wp2
    go_ret
    exact ⟨rB (key_false2 h2).symm, rfl⟩
  have h2' : decide (6 < (s.size : Int)) = false := by simpa using h2
  go_enter Tryz.func53, Tryz.ntmps53
  go_wp2
  go_loop [2, 3, 13] (fun r _ i => ∃ k : Nat, k ≤ s.size ∧ i = .int .i64 k ∧ r = .bool false ∧ letTo s k) (fun _ _ i => s.size - (intOf i).toNat)
  case atStart => exact ⟨0, Nat.zero_le _, rfl, rfl, letTo_zero s⟩
  case round =>
    obtain ⟨k, hk, rfl, rfl, hall⟩ := hrel
    by_cases hlt : k < s.size
    · go_wp2
      all_goals first
        | (go_ret; exact ⟨rB (key_false3 k hlt (by omega)).symm, rfl⟩)
        | (go_round
           case rel => exact ⟨k + 1, by omega, by go_num, rfl, letTo_step hall hlt (by omega) (by omega)⟩
           case measure => simp [intOf]; omega)
    · go_wp2
      go_ret
      obtain rfl : k = s.size := by omega
      exact ⟨rB (key_true h1 (by omega) hall).symm, rfl⟩
end Go.Proofs.YtimchedebcoohaaGreatDoor

/- Contracts and lemmas for the proofs of this seat; each theorem states its own conditions. -/
namespace Go.Proofs.YtimchedebcoohaaGreatDoor
open Go.RowKit
/-! slices.IndexFunc, slices.ContainsFunc: a closure by its contract -/
def firstI {α : Type} (p : α → Bool) : List α → Nat → Int
  | [], _ => -1
  | x :: l, i => if p x then (i : Int) else firstI p l (i + 1)
theorem firstI_hit {α : Type} {p : α → Bool} : ∀ {l : List α} {i k : Nat} (hk : k < l.length), (∀ j (h : j < k), p (l[j]'(by omega)) = false) → p l[k] = true → firstI p l i = ((i + k : Nat) : Int)
  | [], _, _, hk, _, _ => by simp at hk
  | x :: l, i, 0, _, _, h => by simp at h; simp [firstI, h]
  | x :: l, i, k + 1, hk, hj, h => by
    have h0 := hj 0 (by omega)
    simp at h0
    rw [firstI, if_neg (by simp [h0]), firstI_hit (k := k) (by simpa using hk) (fun j h' => by simpa using hj (j + 1) (by omega)) (by simpa using h)]
    congr 1; omega
theorem firstI_miss {α : Type} {p : α → Bool} : ∀ {l : List α} {i : Nat}, (∀ x ∈ l, p x = false) → firstI p l i = -1
  | [], _, _ => rfl
  | x :: l, i, h => by rw [firstI, if_neg (by simp [h x (by simp)]), firstI_miss fun y hy => h y (by simp [hy])]
theorem firstI_any {α : Type} {p : α → Bool} : ∀ {l : List α} {i : Nat}, (decide (0 ≤ firstI p l i)) = l.any p
  | [], _ => by simp [firstI]
  | x :: l, i => by
    rw [firstI, List.any_cons]
    cases h : p x with
    | true => simp
    | false => simp [firstI_any (l := l)]
theorem cS_at' (l : List ByteArray) (k : Nat) (hk : k < l.length) : (cS l)[k]? = some (.string l[k]) := by simp [cS, hk]
end Go.Proofs.YtimchedebcoohaaGreatDoor

/- Contracts and lemmas for the proofs of this seat; each theorem states its own conditions. -/
namespace Go.Proofs.YtimchedebcoohaaGreatDoor
open Go.RowKit
set_option maxRecDepth 10000 in
set_option maxHeartbeats 1000000 in
theorem indexF_Int (fn : Nat) (cs : Array Value) (hen : ∀ args w, (callFunc fn args).run Tryz.prog w = .ok (.enter fn args) w) (p : Int → Bool) (v : Value) (L : List Int) (w : World) (hv : Seg w v 1 L.length (cI L))
    (hc : ∀ x ∈ L, ∀ w', Ext w w' → Calls Tryz.prog fn (#[.int .i64 x] ++ cs) w' fun e w'' => e = .returned (.bool (p x)) ∧ Ext w' w'') :
    Calls Tryz.prog 59 #[v, .func (.func fn) #[] cs] w fun e w' => e = .returned (.int .i64 (firstI p L 0)) ∧ Ext w w' := by
  obtain ⟨h0, a, cap, rfl, h1, h2, h3⟩ := hv
  unfold maxLen at h2
  have H3 := hid h3
  have HC := hid hc
  clear h3 hc h0
  go_enter Tryz.func59, Tryz.ntmps59
  go_wp2
  go_loopw [5, 8] (fun _ i wr => ∃ k : Nat, k ≤ L.length ∧ i = .int .i64 k ∧ (∀ j (h : j < L.length), j < k → p L[j] = false) ∧ Ext w wr) (fun _ i _ => L.length - (intOf i).toNat)
  case atStart => exact ⟨0, Nat.zero_le _, rfl, fun j _ h => by omega, Ext.refl _⟩
  case round =>
    obtain ⟨k, hk, rfl, hn, E⟩ := hrel
    have HN := hid hn
    clear hn
    by_cases hlt : k < L.length
    · obtain ⟨b, off, rfl, hcell⟩ := H3.out (by omega)
      have x0 := E.cell (hcell k _ (cI_at0 L k hlt))
      have C := HC.out L[k] (List.getElem_mem hlt) wr E
      have e0 : (#[Value.int .i64 L[k]] ++ cs) = (#[Value.int .i64 L[k]] ++ cs) := rfl
      cases hp : p L[k] with
      | true =>
        rw [hp] at C
        have C := hid C
        have hi : firstI p L 0 = (k : Int) := by
          have := firstI_hit (i := 0) hlt (fun j h' => HN.out j (by omega) h') hp
          simpa using this
        have HI := hid hi
        clear hi hcell e0
        go_wp2_with (first | (go_at_fn fn; refine (C.out).mono ?_; rintro e wa ⟨rfl, Ea⟩))
        go_ret
        exact ⟨rI HI.out.symm, E.trans Ea⟩
      | false =>
        rw [hp] at C
        have C := hid C
        have HP := hid hp
        clear hcell e0 hp
        go_wp2_with (first | (go_at_fn fn; refine (C.out).mono ?_; rintro e wa ⟨rfl, Ea⟩))
        go_roundw
        case rel => exact ⟨k + 1, by omega, by go_num, fun j hj h => by
          rcases Nat.lt_or_ge j k with h' | h'
          · exact HN.out j hj h'
          · have : j = k := by omega
            subst this; exact HP.out, E.trans Ea⟩
        case measure => simp [intOf]; omega
    · obtain rfl : k = L.length := by omega
      have hi : firstI p L 0 = -1 := firstI_miss fun x hx => by
        obtain ⟨j, hj, rfl⟩ := List.mem_iff_getElem.1 hx
        exact HN.out j hj hj
      have HI := hid hi
      clear hi
      go_wp2
      go_ret
      exact ⟨rI HI.out.symm, E⟩
set_option maxHeartbeats 1000000 in
theorem containsF_Int (fn : Nat) (cs : Array Value) (hen : ∀ args w, (callFunc fn args).run Tryz.prog w = .ok (.enter fn args) w) (p : Int → Bool) (v : Value) (L : List Int) (w : World) (hv : Seg w v 1 L.length (cI L))
    (hc : ∀ x ∈ L, ∀ w', Ext w w' → Calls Tryz.prog fn (#[.int .i64 x] ++ cs) w' fun e w'' => e = .returned (.bool (p x)) ∧ Ext w' w'') :
    Calls Tryz.prog 34 #[v, .func (.func fn) #[] cs] w fun e w' => e = .returned (.bool (L.any p)) ∧ Ext w w' := by
  have C := hid (indexF_Int fn cs hen p v L w hv hc)
  have HA := hid (firstI_any (p := p) (l := L) (i := 0))
  generalize firstI p L 0 = z at C HA
  clear hc hv
  go_enter Tryz.func34, Tryz.ntmps34
  go_wp2_with fail
  refine (C.out).mono ?_
  rintro e wa ⟨rfl, Ea⟩
  go_wp2
  go_ret
  exact ⟨rB (by rw [← HA.out]), Ea⟩
end Go.Proofs.YtimchedebcoohaaGreatDoor
