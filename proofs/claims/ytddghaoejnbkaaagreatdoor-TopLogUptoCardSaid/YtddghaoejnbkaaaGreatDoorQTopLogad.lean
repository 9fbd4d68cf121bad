/- Contracts and lemmas for the proof of TopLog; each theorem states its own conditions. -/
import Derived.Test.YtddghaoejnbkaaaGreatDoorQTopLogaa
import Derived.WalkLawsBesides
import Derived.Test.YtddghaoejnbkaaaGreatDoorQTopLogac
import Derived.Laws.RangeAny
import Derived.WalkMore
import Derived.Lib.Strings
set_option linter.unusedVariables false
set_option linter.unusedSimpArgs false
/- Contracts and lemmas for the proofs of this seat; each theorem states its own conditions. -/
namespace Go.Proofs.YtddghaoejnbkaaaGreatDoor
open Go.RowKit
example : DecidableEq ByteArray := inferInstance
/-- strings in order -/
def blt (a b : ByteArray) : Bool := Op.bytesLess a.toList b.toList
theorem toList_data (s : ByteArray) : s.toList = s.data.toList := ByteArray.toList_eq s
theorem toList_inj {a b : ByteArray} (h : a.toList = b.toList) : a = b := by
  rw [toList_data, toList_data] at h
  cases a with | mk a => cases b with | mk b => simp at h; simp [h]
/-- a letter -/
def letB (c : UInt8) : Bool := 97 ≤ c && c ≤ 122
/-- P3 -/
def keyB (s : ByteArray) : Bool := !s.toList.isEmpty && decide (s.size ≤ 6) && s.toList.all letB
theorem key_false1 {s : ByteArray} (h : s.toList = []) : keyB s = false := by simp [keyB, h]
theorem key_false2 {s : ByteArray} (h : 6 < (s.size : Int)) : keyB s = false := by
  have : ¬ s.size ≤ 6 := by omega
  simp [keyB, this]
theorem key_false3 {s : ByteArray} (k : Nat) (hk : k < s.size) (h : (s[k].toNat : Int) < 97 ∨ 122 < (s[k].toNat : Int)) : keyB s = false := by
  have : s.toList.all letB = false := by
    rw [List.all_eq_false]
    refine ⟨s[k], ?_, ?_⟩
    · rw [toList_data]; exact Array.getElem_mem_toList (xs := s.data) (by exact hk)
    · simp [letB, UInt8.le_iff_toNat_le]; omega
  simp [keyB, this]
/-- the first k bytes are letters -/
def letTo (s : ByteArray) (k : Nat) : Prop := ∀ j, (hj : j < s.size) → j < k → 97 ≤ (s[j].toNat : Int) ∧ (s[j].toNat : Int) ≤ 122
theorem letTo_zero (s : ByteArray) : letTo s 0 := fun j _ h => absurd h (by omega)
theorem letTo_step {s : ByteArray} {k : Nat} (h : letTo s k) (hk : k < s.size) (h1 : 97 ≤ (s[k].toNat : Int)) (h2 : (s[k].toNat : Int) ≤ 122) : letTo s (k + 1) := by
  intro j hj hjk
  rcases Nat.lt_succ_iff_lt_or_eq.1 hjk with h3 | h3
  · exact h j hj h3
  · subst h3; exact ⟨h1, h2⟩
theorem key_true {s : ByteArray} (h1 : ¬ s.toList = []) (h2 : (s.size : Int) ≤ 6) (h : letTo s s.size) : keyB s = true := by
  have h3 : s.size ≤ 6 := by omega
  have : s.toList.all letB = true := by
    rw [List.all_eq_true]
    intro c hc
    rw [toList_data, List.mem_iff_getElem] at hc
    obtain ⟨k, hk, rfl⟩ := hc
    have hk' : k < s.size := by simpa using hk
    have := h k hk' hk'
    have e : s.data.toList[k] = s[k]'(by simpa using hk) := rfl
    rw [e]
    simp [letB, UInt8.le_iff_toNat_le]; omega
  simp [keyB, this, h3]
  simpa using h1

/-! lists as cells -/
def cI (l : List Int) : List Value := l.map (Value.int .i64)
def cS (l : List ByteArray) : List Value := l.map Value.string
def cP (l : List (ByteArray × Int)) : List Value := l.flatMap fun p => [.string p.1, .int .i64 p.2]
theorem cI_len (l : List Int) : (cI l).length = l.length := by simp [cI]
theorem cP_len (l : List (ByteArray × Int)) : (cP l).length = l.length * 2 := by
  induction l with
  | nil => rfl
  | cons a l ih => simp [cP] at ih ⊢; omega
theorem cP_at (l : List (ByteArray × Int)) (k : Nat) (hk : k < l.length) : (cP l)[k * 2]? = some (.string l[k].1) ∧ (cP l)[k * 2 + 1]? = some (.int .i64 l[k].2) := by
  induction l generalizing k with
  | nil => simp at hk
  | cons a l ih =>
    cases k with
    | zero => simp [cP]
    | succ k =>
      have := ih k (by simpa using hk)
      have e : (k + 1) * 2 = k * 2 + 1 + 1 := by omega
      simpa [cP, e] using this
theorem cI_one (l : List Int) : ∀ u ∈ cI l, u.oneCell' = true := by intro u hu; simp [cI] at hu; obtain ⟨a, _, rfl⟩ := hu; rfl
theorem cS_one (l : List ByteArray) : ∀ u ∈ cS l, u.oneCell' = true := by intro u hu; simp [cS] at hu; obtain ⟨a, _, rfl⟩ := hu; rfl
theorem cP_one (l : List (ByteArray × Int)) : ∀ u ∈ cP l, u.oneCell' = true := by
  intro u hu; simp only [cP, List.mem_flatMap, List.mem_cons, List.not_mem_nil, or_false] at hu; obtain ⟨a, _, rfl | rfl⟩ := hu <;> rfl
theorem cI_at0 (l : List Int) (k : Nat) (hk : k < l.length) : (cI l)[k]? = some (.int .i64 l[k]) := by simp [cI, hk]
theorem cS_at0 (l : List ByteArray) (k : Nat) (hk : k < l.length) : (cS l)[k]? = some (.string l[k]) := by simp [cS, hk]
theorem cP_at0 (l : List (ByteArray × Int)) (k : Nat) (hk : k < l.length) : (cP l)[k * 2]? = some (.string l[k].1) := (cP_at l k hk).1
theorem cP_at1 (l : List (ByteArray × Int)) (k : Nat) (hk : k < l.length) : (cP l)[k * 2 + 1]? = some (.int .i64 l[k].2) := (cP_at l k hk).2
/-- an operation of a deed -/
structure GOp where
  kind : Int
  key : ByteArray
  from_ : ByteArray
  n : Int
deriving DecidableEq
def cO (l : List GOp) : List Value := l.flatMap fun p => [.int .i64 p.kind, .string p.key, .string p.from_, .int .i64 p.n]
theorem cO_at (l : List GOp) (k : Nat) (hk : k < l.length) : (cO l)[k * 4]? = some (.int .i64 l[k].kind) ∧ (cO l)[k * 4 + 1]? = some (.string l[k].key) ∧ (cO l)[k * 4 + 2]? = some (.string l[k].from_) ∧ (cO l)[k * 4 + 3]? = some (.int .i64 l[k].n) := by
  induction l generalizing k with
  | nil => simp at hk
  | cons a l ih =>
    cases k with
    | zero => simp [cO]
    | succ k =>
      have := ih k (by simpa using hk)
      have e : (k + 1) * 4 = k * 4 + 1 + 1 + 1 + 1 := by omega
      simpa [cO, e] using this
theorem cO_at0 (l : List GOp) (k : Nat) (hk : k < l.length) : (cO l)[k * 4]? = some (.int .i64 l[k].kind) := (cO_at l k hk).1
theorem cO_at1 (l : List GOp) (k : Nat) (hk : k < l.length) : (cO l)[k * 4 + 1]? = some (.string l[k].key) := (cO_at l k hk).2.1
theorem cO_at2 (l : List GOp) (k : Nat) (hk : k < l.length) : (cO l)[k * 4 + 2]? = some (.string l[k].from_) := (cO_at l k hk).2.2.1
theorem cO_at3 (l : List GOp) (k : Nat) (hk : k < l.length) : (cO l)[k * 4 + 3]? = some (.int .i64 l[k].n) := (cO_at l k hk).2.2.2
theorem cO_one (l : List GOp) : ∀ u ∈ cO l, u.oneCell' = true := by
  intro u hu; simp only [cO, List.mem_flatMap, List.mem_cons, List.not_mem_nil, or_false] at hu; obtain ⟨a, _, rfl | rfl | rfl | rfl⟩ := hu <;> rfl
theorem take_eq_step {α : Type} {l m : List α} {k : Nat} (hk : k < l.length) (hm : k < m.length) (h : l.take k = m.take k) (e : l[k] = m[k]) : l.take (k + 1) = m.take (k + 1) := by
  rw [List.take_succ_eq_append_getElem hk, List.take_succ_eq_append_getElem hm, h, e]

/-! searching loops -/
def allTo (p : Nat → Bool) (k : Nat) : Prop := ∀ i, i < k → p i = true
theorem allTo_zero (p : Nat → Bool) : allTo p 0 := fun i h => absurd h (by omega)
theorem allTo_succ {p : Nat → Bool} {k : Nat} (h : allTo p k) (hk : p k = true) : allTo p (k + 1) := by
  intro i hi
  rcases Nat.lt_succ_iff_lt_or_eq.1 hi with h3 | h3
  · exact h i h3
  · subst h3; exact hk
theorem all_true {p : Nat → Bool} {n : Nat} (h : allTo p n) : (List.range n).all p = true := by
  rw [List.all_eq_true]; intro x hx; exact h x (List.mem_range.1 hx)
theorem all_false {p : Nat → Bool} {n k : Nat} (hk : k < n) (h : p k = false) : (List.range n).all p = false := by
  rw [List.all_eq_false]; exact ⟨k, List.mem_range.2 hk, by simp [h]⟩
theorem allTo_of {p : Nat → Bool} {n : Nat} (h : (List.range n).all p = true) : allTo p n := by
  rw [List.all_eq_true] at h; exact fun i hi => h i (List.mem_range.2 hi)

/-- i is where what p holds of ends -/
def cutAt (p : Nat → Bool) (n i : Nat) : Prop := i ≤ n ∧ (∀ j, j < i → p j = true) ∧ (∀ j, i ≤ j → j < n → p j = false)
/-- p holds of a beginning -/
def dropsB (p : Nat → Bool) (n : Nat) : Prop := ∀ i j, i < j → j < n → p j = true → p i = true
/-- the invariant of a binary search -/
def bsInv (p : Nat → Bool) (n i j : Nat) : Prop := i ≤ j ∧ j ≤ n ∧ (∀ x, x < i → p x = true) ∧ (∀ x, j ≤ x → x < n → p x = false)
theorem bsInv_start (p : Nat → Bool) (n : Nat) : bsInv p n 0 n := ⟨Nat.zero_le _, Nat.le_refl _, fun _ h => absurd h (by omega), fun _ h h' => absurd h' (by omega)⟩
theorem bsInv_up {p : Nat → Bool} {n i j : Nat} (hd : dropsB p n) (h : bsInv p n i j) (hij : i < j) (hp : p ((i + j) / 2) = true) : bsInv p n ((i + j) / 2 + 1) j := by
  obtain ⟨h1, h2, h3, h4⟩ := h
  refine ⟨by omega, h2, fun x hx => ?_, h4⟩
  rcases Nat.lt_succ_iff_lt_or_eq.1 hx with h | h
  · exact hd x _ h (by omega) hp
  · subst h; exact hp
theorem bsInv_down {p : Nat → Bool} {n i j : Nat} (hd : dropsB p n) (h : bsInv p n i j) (hij : i < j) (hp : p ((i + j) / 2) = false) : bsInv p n i ((i + j) / 2) := by
  obtain ⟨h1, h2, h3, h4⟩ := h
  refine ⟨by omega, by omega, h3, fun x hx hxn => ?_⟩
  rcases Nat.eq_or_lt_of_le hx with h | h
  · subst h; exact hp
  · cases hpx : p x with
    | false => rfl
    | true => have := hd _ x h hxn hpx; rw [hp] at this; cases this
theorem bsInv_end {p : Nat → Bool} {n i : Nat} (h : bsInv p n i i) : cutAt p n i := ⟨h.2.1, h.2.2.1, h.2.2.2⟩
end Go.Proofs.YtddghaoejnbkaaaGreatDoor

/- Contracts and lemmas for the proofs of this seat; each theorem states its own conditions. -/
namespace Go.Proofs.YtddghaoejnbkaaaGreatDoor
open Go.RowKit
/-! strings.IndexRune at a rune that is no byte; strings.IndexAny at any text -/
theorem ib_none {c : UInt8} : ∀ {l : List UInt8}, c ∉ l → Lib.indexByte l c = -1
  | [], _ => rfl
  | b :: l, h => by
    have hb : (b == c) = false := by simp; intro e; exact h (by simp [e])
    have := ib_none (c := c) (l := l) (fun q => h (by simp [q]))
    simp [Lib.indexByte, hb, this]
theorem iter_ext (w : World) (s : ByteArray) (p : Nat) : Ext w (w.iter s p) := (Ext.refl w).alloc _
set_option maxRecDepth 10000 in
set_option maxHeartbeats 2000000 in
theorem ruA (w : World) : Calls Tryz.prog 271 #[.string ⟨#[61, 43, 60, 63]⟩, .int .i32 65533] w fun e w' => e = .returned (.int .i64 (-1)) ∧ Ext w w' := by
  go_enter Tryz.func271, Tryz.ntmps271
  go_wp2_with fail
  go_loopg [5, 6] 4 (fun g _ _ wx => ∃ i : Nat, i + g = 4 ∧ wx = w.iter ⟨#[61, 43, 60, 63]⟩ i)
  case atStart => exact ⟨0, by omega, rfl⟩
  case round =>
    obtain ⟨i, hig, rfl⟩ := hrel
    cases gk with
    | zero =>
      obtain rfl : i = 4 := by omega
      have hnx := fun ty => run_next_end (P := Tryz.prog) w ⟨#[61, 43, 60, 63]⟩ 4 ty (by decide)
      go_wp2
      go_ret
      exact ⟨rfl, iter_ext _ _ _⟩
    | succ g =>
      rcases (show i = 0 ∨ i = 1 ∨ i = 2 ∨ i = 3 by omega) with rfl | rfl | rfl | rfl
      · have hnx := fun ty => run_next_ascii (P := Tryz.prog) w ⟨#[61, 43, 60, 63]⟩ 0 ty (by decide) (by decide)
        rw [show (⟨#[61, 43, 60, 63]⟩ : ByteArray)[0]'(by decide) = 61 from rfl] at hnx
        go_wp2
        go_roundg g
        case measure => omega
        case rel => exact ⟨1, by omega, rfl⟩
      · have hnx := fun ty => run_next_ascii (P := Tryz.prog) w ⟨#[61, 43, 60, 63]⟩ 1 ty (by decide) (by decide)
        rw [show (⟨#[61, 43, 60, 63]⟩ : ByteArray)[1]'(by decide) = 43 from rfl] at hnx
        go_wp2
        go_roundg g
        case measure => omega
        case rel => exact ⟨2, by omega, rfl⟩
      · have hnx := fun ty => run_next_ascii (P := Tryz.prog) w ⟨#[61, 43, 60, 63]⟩ 2 ty (by decide) (by decide)
        rw [show (⟨#[61, 43, 60, 63]⟩ : ByteArray)[2]'(by decide) = 60 from rfl] at hnx
        go_wp2
        go_roundg g
        case measure => omega
        case rel => exact ⟨3, by omega, rfl⟩
      · have hnx := fun ty => run_next_ascii (P := Tryz.prog) w ⟨#[61, 43, 60, 63]⟩ 3 ty (by decide) (by decide)
        rw [show (⟨#[61, 43, 60, 63]⟩ : ByteArray)[3]'(by decide) = 63 from rfl] at hnx
        go_wp2
        go_roundg g
        case measure => omega
        case rel => exact ⟨4, by omega, rfl⟩
set_option maxRecDepth 100000 in
set_option maxHeartbeats 2000000 in
theorem ruC2 (r : Nat) (x0 x1 : UInt8) (w : World) (h1 : 128 ≤ r) (h2 : r < 2048) (he : Utf8.encode r = ⟨#[x0, x1]⟩) (hx : 128 ≤ x1.toNat) : Calls Tryz.prog 271 #[.string ⟨#[61, 43, 60, 63]⟩, .int .i32 r] w fun e w' => e = .returned (.int .i64 (-1)) ∧ Ext w w' := by
  have q1 : ¬ ((r : Int) < 128) := by omega
  have q2 : ((r : Int) == 65533) = false := by simp; omega
  have hcv : ∀ W, (convert 21 9 (.int .i32 (r : Int))).run Tryz.prog W = .ok (.string ⟨#[x0, x1]⟩) W := fun W => by
    rw [← he]
    simp [convert, run_underlying Tryz.underlying21, run_underlying Tryz.underlying9, Conv.intToString]
  have VR := Any.utf8_ValidRune lays119 r w
  rw [show Lib.validRune r = true from decide_eq_true (.inl ⟨by omega, by omega⟩)] at VR
  have VR := hid VR
  have IB := hid (fun w : World => show Calls Tryz.prog 137 #[.string (ByteArray.extract ⟨#[61, 43, 60, 63]⟩ 2 4), .int .u8 (x1.toNat : Nat)] w fun e w' => e = .returned (.int .i64 (-1)) ∧ w' = w by
    have IB := Any.strings_IndexByte lays137 (ByteArray.extract ⟨#[61, 43, 60, 63]⟩ 2 4) (x1.toNat : Int) w
    rw [show Lib.indexByte (ByteArray.extract ⟨#[61, 43, 60, 63]⟩ 2 4).data.toList ((x1.toNat : Int)).toNat.toUInt8 = -1 by
      rw [show (ByteArray.extract ⟨#[61, 43, 60, 63]⟩ 2 4).data.toList = [60, 63] from rfl, show ((x1.toNat : Int)).toNat.toUInt8 = x1 by simp]
      exact ib_none (by simp only [List.mem_cons, List.not_mem_nil, or_false]; intro q; rcases q with q | q <;> (rw [q] at hx; revert hx; decide))] at IB
    exact IB)
  have hq : ((43 : Int) != (x1.toNat : Int)) = true := by simp; omega
  clear he h1 h2 hx
  go_enter Tryz.func271, Tryz.ntmps271
  go_wp2_with fail
  refine (VR.out).mono ?_
  clear VR
  rintro e w1 ⟨rfl, rfl⟩
  obtain ⟨w, rfl⟩ : ∃ w0 : World, w0 = w1 := ⟨_, rfl⟩
  go_wp2_with fail
  go_step3
  go_wp2_with fail
  go_loopw [9] (fun v9 wr => v9 = .int .i64 1 ∧ w = wr) (fun _ _ => 0)
  case atStart => exact ⟨rfl, rfl⟩
  case round =>
    obtain ⟨rfl, rfl⟩ := hrel
    go_wp2_with fail
    go_step3
    go_wp2_with fail
    refine wp_region_ph [.k (.string ⟨#[61, 43, 60, 63]⟩), .k (.int .i64 1), .k (.int .u8 43), .k (.string ⟨#[x0, x1]⟩), .k (.int .i64 1), .k (.int .u8 (x1.toNat : Nat)), .k (.bool true)] [] (by kernel_rfl) (by kernel_rfl) (by kernel_rfl) rfl rfl ?hs ?hC ?he
    case hC =>
      intro i hi
      simp at hi
    case hs =>
      refine ⟨?_, ?_, ?_, ?_, ?_, ?_, ?_, trivial⟩
      all_goals (
        intro x w' hE hd
        try simp [PhDeps, at_k, at_p, at_t, at_any, Region.binds] at hd
        try ((with_reducible refine Exists.elim hd ?_); clear hd; intro y hd; obtain ⟨hd, hG⟩ := hd)
        skip
        first | simp only [frL, List.length_cons, List.length_nil, List.take_succ_cons, List.take_zero, Nat.reduceAdd, Nat.zero_add, List.setIfInBounds_toArray, List.set_cons_zero, List.set_cons_succ, hd] | simp only [frL, List.length_cons, List.length_nil, List.take_succ_cons, List.take_zero, Nat.reduceAdd, Nat.zero_add, List.setIfInBounds_toArray, List.set_cons_zero, List.set_cons_succ]
        go_wp2
        all_goals first
          | ((with_reducible refine phK ?_ ?_); (focus rfl); (repeat (first | (with_reducible assumption) | (with_reducible exact Ext.refl _) | (with_reducible refine Ext.drew ?_) | (with_reducible refine Ext.drewN ?_ _) | (with_reducible refine Ext.alloc ?_ _) | (with_reducible refine Ext.trans ?_ (by with_reducible assumption)))))
          | ((with_reducible refine phT rfl hG ?_); (repeat (first | (with_reducible assumption) | (with_reducible exact Ext.refl _) | (with_reducible refine Ext.drew ?_) | (with_reducible refine Ext.drewN ?_ _) | (with_reducible refine Ext.alloc ?_ _) | (with_reducible refine Ext.trans ?_ (by with_reducible assumption)))))
          | ((with_reducible refine phU hG ?_); (repeat (first | (with_reducible assumption) | (with_reducible exact Ext.refl _) | (with_reducible refine Ext.drew ?_) | (with_reducible refine Ext.drewN ?_ _) | (with_reducible refine Ext.alloc ?_ _) | (with_reducible refine Ext.trans ?_ (by with_reducible assumption)))))
          | (with_reducible exact phBox hE)
          | (with_reducible exact phRow hE))
    case he =>
      intro x wq Eq hd
      simp [PhEnd, at_k, at_p, at_t, at_any] at hd
      simp only [frL, List.length_cons, List.length_nil, List.take_succ_cons, List.take_zero, Nat.reduceAdd, Nat.zero_add, List.setIfInBounds_toArray, List.set_cons_zero, List.set_cons_succ, hd, List.length_cons, List.length_nil, List.drop_succ_cons, List.drop_zero]
      clear hd
      have HEq := hid Eq
      clear Eq
      go_wp2_with fail
      refine wp_region_ph [.k (.string ⟨#[61, 43, 60, 63]⟩), .k (.int .i64 1), .k (.int .i64 2), .k (.string (ByteArray.extract ⟨#[61, 43, 60, 63]⟩ 2 4)), .k (.string ⟨#[x0, x1]⟩), .k (.int .i64 1), .k (.int .u8 (x1.toNat : Nat))] [] (by kernel_rfl) (by kernel_rfl) (by kernel_rfl) rfl rfl ?hs ?hC ?he
      case hC =>
        intro i hi
        simp at hi
      case hs =>
        refine ⟨?_, ?_, ?_, ?_, ?_, ?_, ?_, trivial⟩
        all_goals (
          intro x w' hE hd
          try simp [PhDeps, at_k, at_p, at_t, at_any, Region.binds] at hd
          try ((with_reducible refine Exists.elim hd ?_); clear hd; intro y hd; obtain ⟨hd, hG⟩ := hd)
          skip
          first | simp only [frL, List.length_cons, List.length_nil, List.take_succ_cons, List.take_zero, Nat.reduceAdd, Nat.zero_add, List.setIfInBounds_toArray, List.set_cons_zero, List.set_cons_succ, hd] | simp only [frL, List.length_cons, List.length_nil, List.take_succ_cons, List.take_zero, Nat.reduceAdd, Nat.zero_add, List.setIfInBounds_toArray, List.set_cons_zero, List.set_cons_succ]
          go_wp2
          all_goals first
            | ((with_reducible refine phK ?_ ?_); (focus rfl); (repeat (first | (with_reducible assumption) | (with_reducible exact Ext.refl _) | (with_reducible refine Ext.drew ?_) | (with_reducible refine Ext.drewN ?_ _) | (with_reducible refine Ext.alloc ?_ _) | (with_reducible refine Ext.trans ?_ (by with_reducible assumption)))))
            | ((with_reducible refine phT rfl hG ?_); (repeat (first | (with_reducible assumption) | (with_reducible exact Ext.refl _) | (with_reducible refine Ext.drew ?_) | (with_reducible refine Ext.drewN ?_ _) | (with_reducible refine Ext.alloc ?_ _) | (with_reducible refine Ext.trans ?_ (by with_reducible assumption)))))
            | ((with_reducible refine phU hG ?_); (repeat (first | (with_reducible assumption) | (with_reducible exact Ext.refl _) | (with_reducible refine Ext.drew ?_) | (with_reducible refine Ext.drewN ?_ _) | (with_reducible refine Ext.alloc ?_ _) | (with_reducible refine Ext.trans ?_ (by with_reducible assumption)))))
            | (with_reducible exact phBox hE)
            | (with_reducible exact phRow hE))
      case he =>
        intro x wq2 Eq2 hd
        simp [PhEnd, at_k, at_p, at_t, at_any] at hd
        simp only [frL, List.length_cons, List.length_nil, List.take_succ_cons, List.take_zero, Nat.reduceAdd, Nat.zero_add, List.setIfInBounds_toArray, List.set_cons_zero, List.set_cons_succ, hd, List.length_cons, List.length_nil, List.drop_succ_cons, List.drop_zero]
        clear hd
        have HEq2 := hid (HEq.out.trans Eq2)
        clear Eq2
        go_wp2_with fail
        refine (IB.out wq2).mono ?_
        rintro e w9 ⟨rfl, rfl⟩
        go_wp2_with fail
        show bodyPost Tryz.prog Tryz.f271 (fun e w' => e = .returned (.int .i64 (-1)) ∧ Ext w w') Exit.ret _ _
        go_ret
        exact ⟨rfl, HEq2.out⟩
set_option maxRecDepth 100000 in
set_option maxHeartbeats 2000000 in
theorem ruC3 (r : Nat) (x0 x1 x2 : UInt8) (w : World) (h1 : 2048 ≤ r) (h2 : r < 65536) (hv : r < 55296 ∨ 57343 < r) (hne : r ≠ 65533) (he : Utf8.encode r = ⟨#[x0, x1, x2]⟩) (hx : 128 ≤ x2.toNat) : Calls Tryz.prog 271 #[.string ⟨#[61, 43, 60, 63]⟩, .int .i32 r] w fun e w' => e = .returned (.int .i64 (-1)) ∧ Ext w w' := by
  have q1 : ¬ ((r : Int) < 128) := by omega
  have q2 : ((r : Int) == 65533) = false := by simp; omega
  have hcv : ∀ W, (convert 21 9 (.int .i32 (r : Int))).run Tryz.prog W = .ok (.string ⟨#[x0, x1, x2]⟩) W := fun W => by
    rw [← he]
    simp [convert, run_underlying Tryz.underlying21, run_underlying Tryz.underlying9, Conv.intToString]
  have VR := Any.utf8_ValidRune lays119 r w
  rw [show Lib.validRune r = true from decide_eq_true (by omega)] at VR
  have VR := hid VR
  have IB := hid (fun w : World => show Calls Tryz.prog 137 #[.string (ByteArray.extract ⟨#[61, 43, 60, 63]⟩ 3 4), .int .u8 (x2.toNat : Nat)] w fun e w' => e = .returned (.int .i64 (-1)) ∧ w' = w by
    have IB := Any.strings_IndexByte lays137 (ByteArray.extract ⟨#[61, 43, 60, 63]⟩ 3 4) (x2.toNat : Int) w
    rw [show Lib.indexByte (ByteArray.extract ⟨#[61, 43, 60, 63]⟩ 3 4).data.toList ((x2.toNat : Int)).toNat.toUInt8 = -1 by
      rw [show (ByteArray.extract ⟨#[61, 43, 60, 63]⟩ 3 4).data.toList = [63] from rfl, show ((x2.toNat : Int)).toNat.toUInt8 = x2 by simp]
      exact ib_none (by simp only [List.mem_cons, List.not_mem_nil, or_false]; intro q; rw [q] at hx; revert hx; decide)] at IB
    exact IB)
  have hq : ((60 : Int) != (x2.toNat : Int)) = true := by simp; omega
  clear he h1 h2 hx hv hne
  go_enter Tryz.func271, Tryz.ntmps271
  go_wp2_with fail
  refine (VR.out).mono ?_
  clear VR
  rintro e w1 ⟨rfl, rfl⟩
  obtain ⟨w, rfl⟩ : ∃ w0 : World, w0 = w1 := ⟨_, rfl⟩
  go_wp2_with fail
  go_step3
  go_wp2_with fail
  go_loopw [9] (fun v9 wr => v9 = .int .i64 2 ∧ w = wr) (fun _ _ => 0)
  case atStart => exact ⟨rfl, rfl⟩
  case round =>
    obtain ⟨rfl, rfl⟩ := hrel
    go_wp2_with fail
    go_step3
    go_wp2_with fail
    refine wp_region_ph [.k (.string ⟨#[61, 43, 60, 63]⟩), .k (.int .i64 2), .k (.int .u8 60), .k (.string ⟨#[x0, x1, x2]⟩), .k (.int .i64 2), .k (.int .u8 (x2.toNat : Nat)), .k (.bool true)] [] (by kernel_rfl) (by kernel_rfl) (by kernel_rfl) rfl rfl ?hs ?hC ?he
    case hC =>
      intro i hi
      simp at hi
    case hs =>
      refine ⟨?_, ?_, ?_, ?_, ?_, ?_, ?_, trivial⟩
      all_goals (
        intro x w' hE hd
        try simp [PhDeps, at_k, at_p, at_t, at_any, Region.binds] at hd
        try ((with_reducible refine Exists.elim hd ?_); clear hd; intro y hd; obtain ⟨hd, hG⟩ := hd)
        skip
        first | simp only [frL, List.length_cons, List.length_nil, List.take_succ_cons, List.take_zero, Nat.reduceAdd, Nat.zero_add, List.setIfInBounds_toArray, List.set_cons_zero, List.set_cons_succ, hd] | simp only [frL, List.length_cons, List.length_nil, List.take_succ_cons, List.take_zero, Nat.reduceAdd, Nat.zero_add, List.setIfInBounds_toArray, List.set_cons_zero, List.set_cons_succ]
        go_wp2
        all_goals first
          | ((with_reducible refine phK ?_ ?_); (focus rfl); (repeat (first | (with_reducible assumption) | (with_reducible exact Ext.refl _) | (with_reducible refine Ext.drew ?_) | (with_reducible refine Ext.drewN ?_ _) | (with_reducible refine Ext.alloc ?_ _) | (with_reducible refine Ext.trans ?_ (by with_reducible assumption)))))
          | ((with_reducible refine phT rfl hG ?_); (repeat (first | (with_reducible assumption) | (with_reducible exact Ext.refl _) | (with_reducible refine Ext.drew ?_) | (with_reducible refine Ext.drewN ?_ _) | (with_reducible refine Ext.alloc ?_ _) | (with_reducible refine Ext.trans ?_ (by with_reducible assumption)))))
          | ((with_reducible refine phU hG ?_); (repeat (first | (with_reducible assumption) | (with_reducible exact Ext.refl _) | (with_reducible refine Ext.drew ?_) | (with_reducible refine Ext.drewN ?_ _) | (with_reducible refine Ext.alloc ?_ _) | (with_reducible refine Ext.trans ?_ (by with_reducible assumption)))))
          | (with_reducible exact phBox hE)
          | (with_reducible exact phRow hE))
    case he =>
      intro x wq Eq hd
      simp [PhEnd, at_k, at_p, at_t, at_any] at hd
      simp only [frL, List.length_cons, List.length_nil, List.take_succ_cons, List.take_zero, Nat.reduceAdd, Nat.zero_add, List.setIfInBounds_toArray, List.set_cons_zero, List.set_cons_succ, hd, List.length_cons, List.length_nil, List.drop_succ_cons, List.drop_zero]
      clear hd
      have HEq := hid Eq
      clear Eq
      go_wp2_with fail
      refine wp_region_ph [.k (.string ⟨#[61, 43, 60, 63]⟩), .k (.int .i64 2), .k (.int .i64 3), .k (.string (ByteArray.extract ⟨#[61, 43, 60, 63]⟩ 3 4)), .k (.string ⟨#[x0, x1, x2]⟩), .k (.int .i64 2), .k (.int .u8 (x2.toNat : Nat))] [] (by kernel_rfl) (by kernel_rfl) (by kernel_rfl) rfl rfl ?hs ?hC ?he
      case hC =>
        intro i hi
        simp at hi
      case hs =>
        refine ⟨?_, ?_, ?_, ?_, ?_, ?_, ?_, trivial⟩
        all_goals (
          intro x w' hE hd
          try simp [PhDeps, at_k, at_p, at_t, at_any, Region.binds] at hd
          try ((with_reducible refine Exists.elim hd ?_); clear hd; intro y hd; obtain ⟨hd, hG⟩ := hd)
          skip
          first | simp only [frL, List.length_cons, List.length_nil, List.take_succ_cons, List.take_zero, Nat.reduceAdd, Nat.zero_add, List.setIfInBounds_toArray, List.set_cons_zero, List.set_cons_succ, hd] | simp only [frL, List.length_cons, List.length_nil, List.take_succ_cons, List.take_zero, Nat.reduceAdd, Nat.zero_add, List.setIfInBounds_toArray, List.set_cons_zero, List.set_cons_succ]
          go_wp2
          all_goals first
            | ((with_reducible refine phK ?_ ?_); (focus rfl); (repeat (first | (with_reducible assumption) | (with_reducible exact Ext.refl _) | (with_reducible refine Ext.drew ?_) | (with_reducible refine Ext.drewN ?_ _) | (with_reducible refine Ext.alloc ?_ _) | (with_reducible refine Ext.trans ?_ (by with_reducible assumption)))))
            | ((with_reducible refine phT rfl hG ?_); (repeat (first | (with_reducible assumption) | (with_reducible exact Ext.refl _) | (with_reducible refine Ext.drew ?_) | (with_reducible refine Ext.drewN ?_ _) | (with_reducible refine Ext.alloc ?_ _) | (with_reducible refine Ext.trans ?_ (by with_reducible assumption)))))
            | ((with_reducible refine phU hG ?_); (repeat (first | (with_reducible assumption) | (with_reducible exact Ext.refl _) | (with_reducible refine Ext.drew ?_) | (with_reducible refine Ext.drewN ?_ _) | (with_reducible refine Ext.alloc ?_ _) | (with_reducible refine Ext.trans ?_ (by with_reducible assumption)))))
            | (with_reducible exact phBox hE)
            | (with_reducible exact phRow hE))
      case he =>
        intro x wq2 Eq2 hd
        simp [PhEnd, at_k, at_p, at_t, at_any] at hd
        simp only [frL, List.length_cons, List.length_nil, List.take_succ_cons, List.take_zero, Nat.reduceAdd, Nat.zero_add, List.setIfInBounds_toArray, List.set_cons_zero, List.set_cons_succ, hd, List.length_cons, List.length_nil, List.drop_succ_cons, List.drop_zero]
        clear hd
        have HEq2 := hid (HEq.out.trans Eq2)
        clear Eq2
        go_wp2_with fail
        refine (IB.out wq2).mono ?_
        rintro e w9 ⟨rfl, rfl⟩
        go_wp2_with fail
        show bodyPost Tryz.prog Tryz.f271 (fun e w' => e = .returned (.int .i64 (-1)) ∧ Ext w w') Exit.ret _ _
        go_ret
        exact ⟨rfl, HEq2.out⟩
set_option maxRecDepth 100000 in
set_option maxHeartbeats 2000000 in
theorem ruC4 (r : Nat) (x0 x1 x2 x3 : UInt8) (w : World) (h1 : 65536 ≤ r) (h2 : r < 1114112) (he : Utf8.encode r = ⟨#[x0, x1, x2, x3]⟩) (hx : 128 ≤ x3.toNat) : Calls Tryz.prog 271 #[.string ⟨#[61, 43, 60, 63]⟩, .int .i32 r] w fun e w' => e = .returned (.int .i64 (-1)) ∧ Ext w w' := by
  have q1 : ¬ ((r : Int) < 128) := by omega
  have q2 : ((r : Int) == 65533) = false := by simp; omega
  have hcv : ∀ W, (convert 21 9 (.int .i32 (r : Int))).run Tryz.prog W = .ok (.string ⟨#[x0, x1, x2, x3]⟩) W := fun W => by
    rw [← he]
    simp [convert, run_underlying Tryz.underlying21, run_underlying Tryz.underlying9, Conv.intToString]
  have VR := Any.utf8_ValidRune lays119 r w
  rw [show Lib.validRune r = true from decide_eq_true (by omega)] at VR
  have VR := hid VR
  have IB := hid (fun w : World => show Calls Tryz.prog 137 #[.string (ByteArray.extract ⟨#[61, 43, 60, 63]⟩ 4 4), .int .u8 (x3.toNat : Nat)] w fun e w' => e = .returned (.int .i64 (-1)) ∧ w' = w by
    have IB := Any.strings_IndexByte lays137 (ByteArray.extract ⟨#[61, 43, 60, 63]⟩ 4 4) (x3.toNat : Int) w
    rw [show Lib.indexByte (ByteArray.extract ⟨#[61, 43, 60, 63]⟩ 4 4).data.toList ((x3.toNat : Int)).toNat.toUInt8 = -1 by
      rw [show (ByteArray.extract ⟨#[61, 43, 60, 63]⟩ 4 4).data.toList = [] from rfl, show ((x3.toNat : Int)).toNat.toUInt8 = x3 by simp]
      exact ib_none (by simp only [List.mem_cons, List.not_mem_nil, or_false]; intro q; exact q)] at IB
    exact IB)
  have hq : ((63 : Int) != (x3.toNat : Int)) = true := by simp; omega
  clear he h1 h2 hx
  go_enter Tryz.func271, Tryz.ntmps271
  go_wp2_with fail
  refine (VR.out).mono ?_
  clear VR
  rintro e w1 ⟨rfl, rfl⟩
  obtain ⟨w, rfl⟩ : ∃ w0 : World, w0 = w1 := ⟨_, rfl⟩
  go_wp2_with fail
  go_step3
  go_wp2_with fail
  go_loopw [9] (fun v9 wr => v9 = .int .i64 3 ∧ w = wr) (fun _ _ => 0)
  case atStart => exact ⟨rfl, rfl⟩
  case round =>
    obtain ⟨rfl, rfl⟩ := hrel
    go_wp2_with fail
    go_step3
    go_wp2_with fail
    refine wp_region_ph [.k (.string ⟨#[61, 43, 60, 63]⟩), .k (.int .i64 3), .k (.int .u8 63), .k (.string ⟨#[x0, x1, x2, x3]⟩), .k (.int .i64 3), .k (.int .u8 (x3.toNat : Nat)), .k (.bool true)] [] (by kernel_rfl) (by kernel_rfl) (by kernel_rfl) rfl rfl ?hs ?hC ?he
    case hC =>
      intro i hi
      simp at hi
    case hs =>
      refine ⟨?_, ?_, ?_, ?_, ?_, ?_, ?_, trivial⟩
      all_goals (
        intro x w' hE hd
        try simp [PhDeps, at_k, at_p, at_t, at_any, Region.binds] at hd
        try ((with_reducible refine Exists.elim hd ?_); clear hd; intro y hd; obtain ⟨hd, hG⟩ := hd)
        skip
        first | simp only [frL, List.length_cons, List.length_nil, List.take_succ_cons, List.take_zero, Nat.reduceAdd, Nat.zero_add, List.setIfInBounds_toArray, List.set_cons_zero, List.set_cons_succ, hd] | simp only [frL, List.length_cons, List.length_nil, List.take_succ_cons, List.take_zero, Nat.reduceAdd, Nat.zero_add, List.setIfInBounds_toArray, List.set_cons_zero, List.set_cons_succ]
        go_wp2
        all_goals first
          | ((with_reducible refine phK ?_ ?_); (focus rfl); (repeat (first | (with_reducible assumption) | (with_reducible exact Ext.refl _) | (with_reducible refine Ext.drew ?_) | (with_reducible refine Ext.drewN ?_ _) | (with_reducible refine Ext.alloc ?_ _) | (with_reducible refine Ext.trans ?_ (by with_reducible assumption)))))
          | ((with_reducible refine phT rfl hG ?_); (repeat (first | (with_reducible assumption) | (with_reducible exact Ext.refl _) | (with_reducible refine Ext.drew ?_) | (with_reducible refine Ext.drewN ?_ _) | (with_reducible refine Ext.alloc ?_ _) | (with_reducible refine Ext.trans ?_ (by with_reducible assumption)))))
          | ((with_reducible refine phU hG ?_); (repeat (first | (with_reducible assumption) | (with_reducible exact Ext.refl _) | (with_reducible refine Ext.drew ?_) | (with_reducible refine Ext.drewN ?_ _) | (with_reducible refine Ext.alloc ?_ _) | (with_reducible refine Ext.trans ?_ (by with_reducible assumption)))))
          | (with_reducible exact phBox hE)
          | (with_reducible exact phRow hE))
    case he =>
      intro x wq Eq hd
      simp [PhEnd, at_k, at_p, at_t, at_any] at hd
      simp only [frL, List.length_cons, List.length_nil, List.take_succ_cons, List.take_zero, Nat.reduceAdd, Nat.zero_add, List.setIfInBounds_toArray, List.set_cons_zero, List.set_cons_succ, hd, List.length_cons, List.length_nil, List.drop_succ_cons, List.drop_zero]
      clear hd
      have HEq := hid Eq
      clear Eq
      go_wp2_with fail
      refine wp_region_ph [.k (.string ⟨#[61, 43, 60, 63]⟩), .k (.int .i64 3), .k (.int .i64 4), .k (.string (ByteArray.extract ⟨#[61, 43, 60, 63]⟩ 4 4)), .k (.string ⟨#[x0, x1, x2, x3]⟩), .k (.int .i64 3), .k (.int .u8 (x3.toNat : Nat))] [] (by kernel_rfl) (by kernel_rfl) (by kernel_rfl) rfl rfl ?hs ?hC ?he
      case hC =>
        intro i hi
        simp at hi
      case hs =>
        refine ⟨?_, ?_, ?_, ?_, ?_, ?_, ?_, trivial⟩
        all_goals (
          intro x w' hE hd
          try simp [PhDeps, at_k, at_p, at_t, at_any, Region.binds] at hd
          try ((with_reducible refine Exists.elim hd ?_); clear hd; intro y hd; obtain ⟨hd, hG⟩ := hd)
          skip
          first | simp only [frL, List.length_cons, List.length_nil, List.take_succ_cons, List.take_zero, Nat.reduceAdd, Nat.zero_add, List.setIfInBounds_toArray, List.set_cons_zero, List.set_cons_succ, hd] | simp only [frL, List.length_cons, List.length_nil, List.take_succ_cons, List.take_zero, Nat.reduceAdd, Nat.zero_add, List.setIfInBounds_toArray, List.set_cons_zero, List.set_cons_succ]
          go_wp2
          all_goals first
            | ((with_reducible refine phK ?_ ?_); (focus rfl); (repeat (first | (with_reducible assumption) | (with_reducible exact Ext.refl _) | (with_reducible refine Ext.drew ?_) | (with_reducible refine Ext.drewN ?_ _) | (with_reducible refine Ext.alloc ?_ _) | (with_reducible refine Ext.trans ?_ (by with_reducible assumption)))))
            | ((with_reducible refine phT rfl hG ?_); (repeat (first | (with_reducible assumption) | (with_reducible exact Ext.refl _) | (with_reducible refine Ext.drew ?_) | (with_reducible refine Ext.drewN ?_ _) | (with_reducible refine Ext.alloc ?_ _) | (with_reducible refine Ext.trans ?_ (by with_reducible assumption)))))
            | ((with_reducible refine phU hG ?_); (repeat (first | (with_reducible assumption) | (with_reducible exact Ext.refl _) | (with_reducible refine Ext.drew ?_) | (with_reducible refine Ext.drewN ?_ _) | (with_reducible refine Ext.alloc ?_ _) | (with_reducible refine Ext.trans ?_ (by with_reducible assumption)))))
            | (with_reducible exact phBox hE)
            | (with_reducible exact phRow hE))
      case he =>
        intro x wq2 Eq2 hd
        simp [PhEnd, at_k, at_p, at_t, at_any] at hd
        simp only [frL, List.length_cons, List.length_nil, List.take_succ_cons, List.take_zero, Nat.reduceAdd, Nat.zero_add, List.setIfInBounds_toArray, List.set_cons_zero, List.set_cons_succ, hd, List.length_cons, List.length_nil, List.drop_succ_cons, List.drop_zero]
        clear hd
        have HEq2 := hid (HEq.out.trans Eq2)
        clear Eq2
        go_wp2_with fail
        refine (IB.out wq2).mono ?_
        rintro e w9 ⟨rfl, rfl⟩
        go_wp2_with fail
        show bodyPost Tryz.prog Tryz.f271 (fun e w' => e = .returned (.int .i64 (-1)) ∧ Ext w w') Exit.ret _ _
        go_ret
        exact ⟨rfl, HEq2.out⟩
theorem ofn_high {n : Nat} (h : n < 64) : 128 ≤ (UInt8.ofNat (128 + n)).toNat := by
  rw [UInt8.toNat_ofNat']; omega
theorem ruN (r : Nat) (w : World) (h1 : 128 ≤ r) (h2 : Utf8.valid r = true) : Calls Tryz.prog 271 #[.string ⟨#[61, 43, 60, 63]⟩, .int .i32 r] w fun e w' => e = .returned (.int .i64 (-1)) ∧ Ext w w' := by
  have hv : (r < 55296) ∨ (57344 ≤ r ∧ r ≤ 1114111) := by
    simp [Utf8.valid] at h2; omega
  by_cases e : r = 65533
  · subst e; exact ruA w
  · have en : Utf8.encode r = if r < 128 then ⟨#[UInt8.ofNat r]⟩ else if r < 2048 then ⟨#[UInt8.ofNat (192 + r / 64), UInt8.ofNat (128 + r % 64)]⟩ else if r < 65536 then ⟨#[UInt8.ofNat (224 + r / 4096), UInt8.ofNat (128 + r / 64 % 64), UInt8.ofNat (128 + r % 64)]⟩ else ⟨#[UInt8.ofNat (240 + r / 262144), UInt8.ofNat (128 + r / 4096 % 64), UInt8.ofNat (128 + r / 64 % 64), UInt8.ofNat (128 + r % 64)]⟩ := by
      unfold Utf8.encode
      rw [h2]
      simp
    rw [if_neg (by omega)] at en
    by_cases a : r < 2048
    · rw [if_pos a] at en
      exact ruC2 r _ _ w h1 a en (ofn_high (Nat.mod_lt _ (by omega)))
    · rw [if_neg a] at en
      by_cases b : r < 65536
      · rw [if_pos b] at en
        exact ruC3 r _ _ _ w (by omega) b (by omega) e en (ofn_high (Nat.mod_lt _ (by omega)))
      · rw [if_neg b] at en
        exact ruC4 r _ _ _ _ w (by omega) (by omega) en (ofn_high (Nat.mod_lt _ (by omega)))
end Go.Proofs.YtddghaoejnbkaaaGreatDoor
