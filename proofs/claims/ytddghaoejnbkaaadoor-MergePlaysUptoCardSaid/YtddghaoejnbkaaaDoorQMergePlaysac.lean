/- Contracts and lemmas for the proof of MergePlays; each theorem states its own conditions. -/
import Derived.Test.YtddghaoejnbkaaaDoorQMergePlaysab
set_option linter.unusedVariables false
set_option linter.unusedSimpArgs false
/- Contracts and lemmas for the proofs of this seat; each theorem states its own conditions. -/
namespace Go.Proofs.YtddghaoejnbkaaaDoor
/-! the order of strings -/
theorem bl_irrefl : ∀ x : List UInt8, Op.bytesLess x x = false
  | [] => rfl
  | a :: x => by simp [Op.bytesLess, bl_irrefl x, UInt8.lt_irrefl]
theorem u8_lt {a b : UInt8} : a < b ↔ a.toNat < b.toNat := UInt8.lt_iff_toNat_lt
theorem u8_eq {a b : UInt8} : a = b ↔ a.toNat = b.toNat := ⟨fun h => by rw [h], UInt8.toNat_inj.1⟩
theorem bl_trans : ∀ x y z : List UInt8, Op.bytesLess x y = true → Op.bytesLess y z = true → Op.bytesLess x z = true
  | _, _, [] => fun _ h => by simp [Op.bytesLess] at h
  | _, [], _ :: _ => fun h _ => by simp [Op.bytesLess] at h
  | [], _ :: _, _ :: _ => fun _ _ => rfl
  | a :: x, b :: y, c :: z => by
    simp only [Op.bytesLess, Bool.or_eq_true, decide_eq_true_eq, Bool.and_eq_true, beq_iff_eq, u8_lt, u8_eq]
    rintro (h | ⟨h, h'⟩) (k | ⟨k, k'⟩)
    · exact .inl (by omega)
    · exact .inl (by omega)
    · exact .inl (by omega)
    · exact .inr ⟨by omega, bl_trans x y z h' k'⟩
theorem bl_tri : ∀ x y : List UInt8, Op.bytesLess x y = true ∨ x = y ∨ Op.bytesLess y x = true
  | [], [] => .inr (.inl rfl)
  | [], _ :: _ => .inl rfl
  | _ :: _, [] => .inr (.inr rfl)
  | a :: x, b :: y => by
    rcases bl_tri x y with h | h | h
    · rcases Nat.lt_trichotomy a.toNat b.toNat with k | k | k
      · left; simp [Op.bytesLess, u8_lt, k]
      · left; have := u8_eq.2 k; subst this; simp [Op.bytesLess, h]
      · right; right; simp [Op.bytesLess, u8_lt, k]
    · rcases Nat.lt_trichotomy a.toNat b.toNat with k | k | k
      · left; simp [Op.bytesLess, u8_lt, k]
      · right; left; have := u8_eq.2 k; rw [this, h]
      · right; right; simp [Op.bytesLess, u8_lt, k]
    · rcases Nat.lt_trichotomy a.toNat b.toNat with k | k | k
      · left; simp [Op.bytesLess, u8_lt, k]
      · right; right; have := u8_eq.2 k; subst this; simp [Op.bytesLess, h]
      · right; right; simp [Op.bytesLess, u8_lt, k]
theorem blt_irrefl (a : ByteArray) : blt a a = false := bl_irrefl _
theorem blt_trans {a b c : ByteArray} (h : blt a b = true) (k : blt b c = true) : blt a c = true := bl_trans _ _ _ h k
theorem blt_asymm {a b : ByteArray} (h : blt a b = true) : blt b a = false := by
  cases k : blt b a with
  | false => rfl
  | true => have := blt_trans h k; rw [blt_irrefl] at this; cases this
/-! sorted lists of strings -/
def kAt (ks : List ByteArray) (i : Nat) : ByteArray := ks.getD i ByteArray.empty
theorem kAt_eq {ks : List ByteArray} {i : Nat} (h : i < ks.length) : kAt ks i = ks[i] := by simp [kAt, h]
end Go.Proofs.YtddghaoejnbkaaaDoor

/- Contracts and lemmas for the proofs of this seat; each theorem states its own conditions. -/
namespace Go.Proofs.YtddghaoejnbkaaaDoor
/-! stores, in plain lists -/
/-! P4 -/
def valB (n : Int) : Bool := decide (-1000000000 ≤ n) && decide (n ≤ 1000000000)
/-- the first that is no nought -/
def firstE (f : Nat → Int) : Nat → Int
  | 0 => 0
  | n + 1 => if firstE f n = 0 then f n else firstE f n
theorem firstE_zero {f : Nat → Int} : ∀ {n : Nat}, (∀ j, j < n → f j = 0) → firstE f n = 0
  | 0, _ => rfl
  | n + 1, h => by rw [firstE, firstE_zero (fun j hj => h j (by omega)), if_pos rfl]; exact h n (by omega)
theorem firstE_at {f : Nat → Int} {k : Nat} (h : ∀ j, j < k → f j = 0) (hk : f k ≠ 0) : ∀ {n : Nat}, k < n → firstE f n = f k
  | 0, hn => absurd hn (by omega)
  | n + 1, hn => by
    rcases Nat.lt_succ_iff_lt_or_eq.1 hn with h' | h'
    · have := firstE_at h hk h'
      rw [firstE, this, if_neg hk]
    · subst h'; rw [firstE, firstE_zero h, if_pos rfl]
theorem firstE_all {f : Nat → Int} : ∀ {n : Nat}, firstE f n = 0 → ∀ j, j < n → f j = 0
  | 0, _, j, hj => absurd hj (by omega)
  | n + 1, h, j, hj => by
    rw [firstE] at h
    split at h
    · rename_i h0
      rcases Nat.lt_succ_iff_lt_or_eq.1 hj with k | k
      · exact firstE_all h0 j k
      · subst k; exact h
    · contradiction
end Go.Proofs.YtddghaoejnbkaaaDoor

/- Contracts and lemmas for the proofs of this seat; each theorem states its own conditions. -/
namespace Go.Proofs.YtddghaoejnbkaaaDoor
/-! deeds, in plain lists -/
/-- P10 -/
def twoB (o : GOp) : Bool := decide (o.kind = 3) || decide (o.kind = 5)
def opE (o : GOp) : Int :=
  if o.kind < 1 ∨ 5 < o.kind then 3
  else if keyB o.key = false ∨ (twoB o = true ∧ (keyB o.from_ = false ∨ o.from_ = o.key)) then 3
  else if (o.kind ≠ 3 ∧ valB o.n = false) ∨ (o.kind = 5 ∧ o.n < 0) then 1 else 0
structure OpOk (o : GOp) : Prop where
  lo : 1 ≤ o.kind
  hi : o.kind ≤ 5
  key : keyB o.key = true
  from_ : o.kind = 3 ∨ o.kind = 5 → keyB o.from_ = true ∧ o.from_ ≠ o.key
  val : o.kind ≠ 3 → -1000000000 ≤ o.n ∧ o.n ≤ 1000000000
  pos : o.kind = 5 → 0 ≤ o.n
theorem valB_iff {n : Int} : valB n = true ↔ -1000000000 ≤ n ∧ n ≤ 1000000000 := by simp [valB]
theorem op_ok {o : GOp} (h : opE o = 0) : OpOk o := by
  unfold opE at h
  split at h
  · cases h
  · rename_i h1
    split at h
    · cases h
    · rename_i h2
      split at h
      · cases h
      · rename_i h3
        rw [not_or] at h1 h2 h3
        refine ⟨by omega, by omega, by simpa using h2.1, fun hk => ?_, fun hk => ?_, fun hk => ?_⟩
        · have ht : twoB o = true := by simpa [twoB] using hk
          have := h2.2
          simp only [ht, true_and, not_or] at this
          exact ⟨by simpa using this.1, this.2⟩
        · rw [← valB_iff]
          cases hv : valB o.n with
          | true => rfl
          | false => exact absurd ⟨hk, hv⟩ h3.1
        · have := h3.2
          simp only [hk, true_and] at this
          omega
abbrev Ops := List GOp
def deedE (d : Ops) : Int := if d.length = 0 ∨ 8 < d.length then 2 else firstE (fun i => opE (d.getD i ⟨0, ⟨#[]⟩, ⟨#[]⟩, 0⟩)) d.length
structure DeedOk (d : Ops) : Prop where
  lo : 1 ≤ d.length
  hi : d.length ≤ 8
  ops : ∀ o ∈ d, OpOk o
theorem deed_ok {d : Ops} (h : deedE d = 0) : DeedOk d := by
  unfold deedE at h
  split at h
  · cases h
  · rename_i h1
    refine ⟨by omega, by omega, fun o ho => ?_⟩
    obtain ⟨i, hi, rfl⟩ := List.mem_iff_getElem.1 ho
    have := firstE_all h i hi
    simp [hi] at this
    exact op_ok this
/-! what is read and written -/
end Go.Proofs.YtddghaoejnbkaaaDoor
