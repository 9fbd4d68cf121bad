/- Contracts and lemmas for the proof of TextLines; each theorem states its own conditions. -/
import Derived.Test.YtnepdfpooobmcaaGreatDoorQTextLinesae
import Derived.Test.YtnepdfpooobmcaaGreatDoorQTextLinesag
import Derived.Test.YtnepdfpooobmcaaGreatDoorQTextLinesab
import Derived.Laws.RangeAny
import Derived.WalkLawsBesides
import Derived.WalkMore
import Derived.Lib.Strings
set_option linter.unusedVariables false
set_option linter.unusedSimpArgs false
/- Contracts and lemmas for the proofs of this seat; each theorem states its own conditions. -/
namespace Go.Proofs.YtnepdfpooobmcaaGreatDoor
open Go.RowKit
/-! strings.IndexRune at a rune that is no byte; strings.IndexAny at any text -/
theorem ib_none {c : UInt8} : ∀ {l : List UInt8}, c ∉ l → Lib.indexByte l c = -1
  | [], _ => rfl
  | b :: l, h => by
    have hb : (b == c) = false := by simp; intro e; exact h (by simp [e])
    have := ib_none (c := c) (l := l) (fun q => h (by simp [q]))
    simp [Lib.indexByte, hb, this]
theorem iter_ext (w : World) (s : ByteArray) (p : Nat) : Ext w (w.iter s p) := (Ext.refl w).alloc _
set_option maxRecDepth 10000 in
set_option maxHeartbeats 2000000 in
theorem ruA (w : World) : Calls Tryz.prog 193 #[.string ⟨#[61, 43, 60, 63]⟩, .int .i32 65533] w fun e w' => e = .returned (.int .i64 (-1)) ∧ Ext w w' := by
  go_enter Tryz.func193, Tryz.ntmps193
  go_wp2_with fail
  go_loopg [5, 6] 4 (fun g _ _ wx => ∃ i : Nat, i + g = 4 ∧ wx = w.iter ⟨#[61, 43, 60, 63]⟩ i)
  case atStart => exact ⟨0, by omega, rfl⟩
  case round =>
    obtain ⟨i, hig, rfl⟩ := hrel
    cases gk with
    | zero =>
      obtain rfl : i = 4 := by omega
      have hnx := fun ty => run_next_end (P := Tryz.prog) w ⟨#[61, 43, 60, 63]⟩ 4 ty (by decide)
      go_wp2
      go_ret
      exact ⟨rfl, iter_ext _ _ _⟩
    | succ g =>
      rcases (show i = 0 ∨ i = 1 ∨ i = 2 ∨ i = 3 by omega) with rfl | rfl | rfl | rfl
      · have hnx := fun ty => run_next_ascii (P := Tryz.prog) w ⟨#[61, 43, 60, 63]⟩ 0 ty (by decide) (by decide)
        rw [show (⟨#[61, 43, 60, 63]⟩ : ByteArray)[0]'(by decide) = 61 from rfl] at hnx
        go_wp2
        go_roundg g
        case measure => omega
        case rel => exact ⟨1, by omega, rfl⟩
      · have hnx := fun ty => run_next_ascii (P := Tryz.prog) w ⟨#[61, 43, 60, 63]⟩ 1 ty (by decide) (by decide)
        rw [show (⟨#[61, 43, 60, 63]⟩ : ByteArray)[1]'(by decide) = 43 from rfl] at hnx
        go_wp2
        go_roundg g
        case measure => omega
        case rel => exact ⟨2, by omega, rfl⟩
      · have hnx := fun ty => run_next_ascii (P := Tryz.prog) w ⟨#[61, 43, 60, 63]⟩ 2 ty (by decide) (by decide)
        rw [show (⟨#[61, 43, 60, 63]⟩ : ByteArray)[2]'(by decide) = 60 from rfl] at hnx
        go_wp2
        go_roundg g
        case measure => omega
        case rel => exact ⟨3, by omega, rfl⟩
      · have hnx := fun ty => run_next_ascii (P := Tryz.prog) w ⟨#[61, 43, 60, 63]⟩ 3 ty (by decide) (by decide)
        rw [show (⟨#[61, 43, 60, 63]⟩ : ByteArray)[3]'(by decide) = 63 from rfl] at hnx
        go_wp2
        go_roundg g
        case measure => omega
        case rel => exact ⟨4, by omega, rfl⟩
set_option maxRecDepth 100000 in
set_option maxHeartbeats 2000000 in
theorem ruC2 (r : Nat) (x0 x1 : UInt8) (w : World) (h1 : 128 ≤ r) (h2 : r < 2048) (he : Utf8.encode r = ⟨#[x0, x1]⟩) (hx : 128 ≤ x1.toNat) : Calls Tryz.prog 193 #[.string ⟨#[61, 43, 60, 63]⟩, .int .i32 r] w fun e w' => e = .returned (.int .i64 (-1)) ∧ Ext w w' := by
  have q1 : ¬ ((r : Int) < 128) := by omega
  have q2 : ((r : Int) == 65533) = false := by simp; omega
  have hcv : ∀ W, (convert 21 9 (.int .i32 (r : Int))).run Tryz.prog W = .ok (.string ⟨#[x0, x1]⟩) W := fun W => by
    rw [← he]
    simp [convert, run_underlying Tryz.underlying21, run_underlying Tryz.underlying9, Conv.intToString]
  have VR := Any.utf8_ValidRune lays119 r w
  rw [show Lib.validRune r = true from decide_eq_true (.inl ⟨by omega, by omega⟩)] at VR
  have VR := hid VR
  have IB := hid (fun w : World => show Calls Tryz.prog 110 #[.string (ByteArray.extract ⟨#[61, 43, 60, 63]⟩ 2 4), .int .u8 (x1.toNat : Nat)] w fun e w' => e = .returned (.int .i64 (-1)) ∧ w' = w by
    have IB := Any.strings_IndexByte lays137 (ByteArray.extract ⟨#[61, 43, 60, 63]⟩ 2 4) (x1.toNat : Int) w
    rw [show Lib.indexByte (ByteArray.extract ⟨#[61, 43, 60, 63]⟩ 2 4).data.toList ((x1.toNat : Int)).toNat.toUInt8 = -1 by
      rw [show (ByteArray.extract ⟨#[61, 43, 60, 63]⟩ 2 4).data.toList = [60, 63] from rfl, show ((x1.toNat : Int)).toNat.toUInt8 = x1 by simp]
      exact ib_none (by simp only [List.mem_cons, List.not_mem_nil, or_false]; intro q; rcases q with q | q <;> (rw [q] at hx; revert hx; decide))] at IB
    exact IB)
  have hq : ((43 : Int) != (x1.toNat : Int)) = true := by simp; omega
  clear he h1 h2 hx
  go_enter Tryz.func193, Tryz.ntmps193
  go_wp2_with fail
  refine (VR.out).mono ?_
  clear VR
  rintro e w1 ⟨rfl, rfl⟩
  obtain ⟨w, rfl⟩ : ∃ w0 : World, w0 = w1 := ⟨_, rfl⟩
  go_wp2_with fail
  go_step3
  go_wp2_with fail
  go_loopw [9] (fun v9 wr => v9 = .int .i64 1 ∧ w = wr) (fun _ _ => 0)
  case atStart => exact ⟨rfl, rfl⟩
  case round =>
    obtain ⟨rfl, rfl⟩ := hrel
    go_wp2_with fail
    go_step3
    go_wp2_with fail
    refine wp_region_ph [.k (.string ⟨#[61, 43, 60, 63]⟩), .k (.int .i64 1), .k (.int .u8 43), .k (.string ⟨#[x0, x1]⟩), .k (.int .i64 1), .k (.int .u8 (x1.toNat : Nat)), .k (.bool true)] [] (by kernel_rfl) (by kernel_rfl) (by kernel_rfl) rfl rfl ?hs ?hC ?he
    case hC =>
      intro i hi
      simp at hi
    case hs =>
      refine ⟨?_, ?_, ?_, ?_, ?_, ?_, ?_, trivial⟩
      all_goals (
        intro x w' hE hd
        try simp [PhDeps, at_k, at_p, at_t, at_any, Region.binds] at hd
        try ((with_reducible refine Exists.elim hd ?_); clear hd; intro y hd; obtain ⟨hd, hG⟩ := hd)
        skip
        first | simp only [frL, List.length_cons, List.length_nil, List.take_succ_cons, List.take_zero, Nat.reduceAdd, Nat.zero_add, List.setIfInBounds_toArray, List.set_cons_zero, List.set_cons_succ, hd] | simp only [frL, List.length_cons, List.length_nil, List.take_succ_cons, List.take_zero, Nat.reduceAdd, Nat.zero_add, List.setIfInBounds_toArray, List.set_cons_zero, List.set_cons_succ]
        go_wp2
        all_goals first
          | ((with_reducible refine phK ?_ ?_); (focus rfl); (repeat (first | (with_reducible assumption) | (with_reducible exact Ext.refl _) | (with_reducible refine Ext.drew ?_) | (with_reducible refine Ext.drewN ?_ _) | (with_reducible refine Ext.alloc ?_ _) | (with_reducible refine Ext.trans ?_ (by with_reducible assumption)))))
          | ((with_reducible refine phT rfl hG ?_); (repeat (first | (with_reducible assumption) | (with_reducible exact Ext.refl _) | (with_reducible refine Ext.drew ?_) | (with_reducible refine Ext.drewN ?_ _) | (with_reducible refine Ext.alloc ?_ _) | (with_reducible refine Ext.trans ?_ (by with_reducible assumption)))))
          | ((with_reducible refine phU hG ?_); (repeat (first | (with_reducible assumption) | (with_reducible exact Ext.refl _) | (with_reducible refine Ext.drew ?_) | (with_reducible refine Ext.drewN ?_ _) | (with_reducible refine Ext.alloc ?_ _) | (with_reducible refine Ext.trans ?_ (by with_reducible assumption)))))
          | (with_reducible exact phBox hE)
          | (with_reducible exact phRow hE))
    case he =>
      intro x wq Eq hd
      simp [PhEnd, at_k, at_p, at_t, at_any] at hd
      simp only [frL, List.length_cons, List.length_nil, List.take_succ_cons, List.take_zero, Nat.reduceAdd, Nat.zero_add, List.setIfInBounds_toArray, List.set_cons_zero, List.set_cons_succ, hd, List.length_cons, List.length_nil, List.drop_succ_cons, List.drop_zero]
      clear hd
      have HEq := hid Eq
      clear Eq
      go_wp2_with fail
      refine wp_region_ph [.k (.string ⟨#[61, 43, 60, 63]⟩), .k (.int .i64 1), .k (.int .i64 2), .k (.string (ByteArray.extract ⟨#[61, 43, 60, 63]⟩ 2 4)), .k (.string ⟨#[x0, x1]⟩), .k (.int .i64 1), .k (.int .u8 (x1.toNat : Nat))] [] (by kernel_rfl) (by kernel_rfl) (by kernel_rfl) rfl rfl ?hs ?hC ?he
      case hC =>
        intro i hi
        simp at hi
      case hs =>
        refine ⟨?_, ?_, ?_, ?_, ?_, ?_, ?_, trivial⟩
        all_goals (
          intro x w' hE hd
          try simp [PhDeps, at_k, at_p, at_t, at_any, Region.binds] at hd
          try ((with_reducible refine Exists.elim hd ?_); clear hd; intro y hd; obtain ⟨hd, hG⟩ := hd)
          skip
          first | simp only [frL, List.length_cons, List.length_nil, List.take_succ_cons, List.take_zero, Nat.reduceAdd, Nat.zero_add, List.setIfInBounds_toArray, List.set_cons_zero, List.set_cons_succ, hd] | simp only [frL, List.length_cons, List.length_nil, List.take_succ_cons, List.take_zero, Nat.reduceAdd, Nat.zero_add, List.setIfInBounds_toArray, List.set_cons_zero, List.set_cons_succ]
          go_wp2
          all_goals first
            | ((with_reducible refine phK ?_ ?_); (focus rfl); (repeat (first | (with_reducible assumption) | (with_reducible exact Ext.refl _) | (with_reducible refine Ext.drew ?_) | (with_reducible refine Ext.drewN ?_ _) | (with_reducible refine Ext.alloc ?_ _) | (with_reducible refine Ext.trans ?_ (by with_reducible assumption)))))
            | ((with_reducible refine phT rfl hG ?_); (repeat (first | (with_reducible assumption) | (with_reducible exact Ext.refl _) | (with_reducible refine Ext.drew ?_) | (with_reducible refine Ext.drewN ?_ _) | (with_reducible refine Ext.alloc ?_ _) | (with_reducible refine Ext.trans ?_ (by with_reducible assumption)))))
            | ((with_reducible refine phU hG ?_); (repeat (first | (with_reducible assumption) | (with_reducible exact Ext.refl _) | (with_reducible refine Ext.drew ?_) | (with_reducible refine Ext.drewN ?_ _) | (with_reducible refine Ext.alloc ?_ _) | (with_reducible refine Ext.trans ?_ (by with_reducible assumption)))))
            | (with_reducible exact phBox hE)
            | (with_reducible exact phRow hE))
      case he =>
        intro x wq2 Eq2 hd
        simp [PhEnd, at_k, at_p, at_t, at_any] at hd
        simp only [frL, List.length_cons, List.length_nil, List.take_succ_cons, List.take_zero, Nat.reduceAdd, Nat.zero_add, List.setIfInBounds_toArray, List.set_cons_zero, List.set_cons_succ, hd, List.length_cons, List.length_nil, List.drop_succ_cons, List.drop_zero]
        clear hd
        have HEq2 := hid (HEq.out.trans Eq2)
        clear Eq2
        go_wp2_with fail
        refine (IB.out wq2).mono ?_
        rintro e w9 ⟨rfl, rfl⟩
        go_wp2_with fail
        show bodyPost Tryz.prog Tryz.f193 (fun e w' => e = .returned (.int .i64 (-1)) ∧ Ext w w') Exit.ret _ _
        go_ret
        exact ⟨rfl, HEq2.out⟩
set_option maxRecDepth 100000 in
set_option maxHeartbeats 2000000 in
theorem ruC3 (r : Nat) (x0 x1 x2 : UInt8) (w : World) (h1 : 2048 ≤ r) (h2 : r < 65536) (hv : r < 55296 ∨ 57343 < r) (hne : r ≠ 65533) (he : Utf8.encode r = ⟨#[x0, x1, x2]⟩) (hx : 128 ≤ x2.toNat) : Calls Tryz.prog 193 #[.string ⟨#[61, 43, 60, 63]⟩, .int .i32 r] w fun e w' => e = .returned (.int .i64 (-1)) ∧ Ext w w' := by
  have q1 : ¬ ((r : Int) < 128) := by omega
  have q2 : ((r : Int) == 65533) = false := by simp; omega
  have hcv : ∀ W, (convert 21 9 (.int .i32 (r : Int))).run Tryz.prog W = .ok (.string ⟨#[x0, x1, x2]⟩) W := fun W => by
    rw [← he]
    simp [convert, run_underlying Tryz.underlying21, run_underlying Tryz.underlying9, Conv.intToString]
  have VR := Any.utf8_ValidRune lays119 r w
  rw [show Lib.validRune r = true from decide_eq_true (by omega)] at VR
  have VR := hid VR
  have IB := hid (fun w : World => show Calls Tryz.prog 110 #[.string (ByteArray.extract ⟨#[61, 43, 60, 63]⟩ 3 4), .int .u8 (x2.toNat : Nat)] w fun e w' => e = .returned (.int .i64 (-1)) ∧ w' = w by
    have IB := Any.strings_IndexByte lays137 (ByteArray.extract ⟨#[61, 43, 60, 63]⟩ 3 4) (x2.toNat : Int) w
    rw [show Lib.indexByte (ByteArray.extract ⟨#[61, 43, 60, 63]⟩ 3 4).data.toList ((x2.toNat : Int)).toNat.toUInt8 = -1 by
      rw [show (ByteArray.extract ⟨#[61, 43, 60, 63]⟩ 3 4).data.toList = [63] from rfl, show ((x2.toNat : Int)).toNat.toUInt8 = x2 by simp]
      exact ib_none (by simp only [List.mem_cons, List.not_mem_nil, or_false]; intro q; rw [q] at hx; revert hx; decide)] at IB
    exact IB)
  have hq : ((60 : Int) != (x2.toNat : Int)) = true := by simp; omega
  clear he h1 h2 hx hv hne
  go_enter Tryz.func193, Tryz.ntmps193
  go_wp2_with fail
  refine (VR.out).mono ?_
  clear VR
  rintro e w1 ⟨rfl, rfl⟩
  obtain ⟨w, rfl⟩ : ∃ w0 : World, w0 = w1 := ⟨_, rfl⟩
  go_wp2_with fail
  go_step3
  go_wp2_with fail
  go_loopw [9] (fun v9 wr => v9 = .int .i64 2 ∧ w = wr) (fun _ _ => 0)
  case atStart => exact ⟨rfl, rfl⟩
  case round =>
    obtain ⟨rfl, rfl⟩ := hrel
    go_wp2_with fail
    go_step3
    go_wp2_with fail
    refine wp_region_ph [.k (.string ⟨#[61, 43, 60, 63]⟩), .k (.int .i64 2), .k (.int .u8 60), .k (.string ⟨#[x0, x1, x2]⟩), .k (.int .i64 2), .k (.int .u8 (x2.toNat : Nat)), .k (.bool true)] [] (by kernel_rfl) (by kernel_rfl) (by kernel_rfl) rfl rfl ?hs ?hC ?he
    case hC =>
      intro i hi
      simp at hi
    case hs =>
      refine ⟨?_, ?_, ?_, ?_, ?_, ?_, ?_, trivial⟩
      all_goals (
        intro x w' hE hd
        try simp [PhDeps, at_k, at_p, at_t, at_any, Region.binds] at hd
        try ((with_reducible refine Exists.elim hd ?_); clear hd; intro y hd; obtain ⟨hd, hG⟩ := hd)
        skip
        first | simp only [frL, List.length_cons, List.length_nil, List.take_succ_cons, List.take_zero, Nat.reduceAdd, Nat.zero_add, List.setIfInBounds_toArray, List.set_cons_zero, List.set_cons_succ, hd] | simp only [frL, List.length_cons, List.length_nil, List.take_succ_cons, List.take_zero, Nat.reduceAdd, Nat.zero_add, List.setIfInBounds_toArray, List.set_cons_zero, List.set_cons_succ]
        go_wp2
        all_goals first
          | ((with_reducible refine phK ?_ ?_); (focus rfl); (repeat (first | (with_reducible assumption) | (with_reducible exact Ext.refl _) | (with_reducible refine Ext.drew ?_) | (with_reducible refine Ext.drewN ?_ _) | (with_reducible refine Ext.alloc ?_ _) | (with_reducible refine Ext.trans ?_ (by with_reducible assumption)))))
          | ((with_reducible refine phT rfl hG ?_); (repeat (first | (with_reducible assumption) | (with_reducible exact Ext.refl _) | (with_reducible refine Ext.drew ?_) | (with_reducible refine Ext.drewN ?_ _) | (with_reducible refine Ext.alloc ?_ _) | (with_reducible refine Ext.trans ?_ (by with_reducible assumption)))))
          | ((with_reducible refine phU hG ?_); (repeat (first | (with_reducible assumption) | (with_reducible exact Ext.refl _) | (with_reducible refine Ext.drew ?_) | (with_reducible refine Ext.drewN ?_ _) | (with_reducible refine Ext.alloc ?_ _) | (with_reducible refine Ext.trans ?_ (by with_reducible assumption)))))
          | (with_reducible exact phBox hE)
          | (with_reducible exact phRow hE))
    case he =>
      intro x wq Eq hd
      simp [PhEnd, at_k, at_p, at_t, at_any] at hd
      simp only [frL, List.length_cons, List.length_nil, List.take_succ_cons, List.take_zero, Nat.reduceAdd, Nat.zero_add, List.setIfInBounds_toArray, List.set_cons_zero, List.set_cons_succ, hd, List.length_cons, List.length_nil, List.drop_succ_cons, List.drop_zero]
      clear hd
      have HEq := hid Eq
      clear Eq
      go_wp2_with fail
      refine wp_region_ph [.k (.string ⟨#[61, 43, 60, 63]⟩), .k (.int .i64 2), .k (.int .i64 3), .k (.string (ByteArray.extract ⟨#[61, 43, 60, 63]⟩ 3 4)), .k (.string ⟨#[x0, x1, x2]⟩), .k (.int .i64 2), .k (.int .u8 (x2.toNat : Nat))] [] (by kernel_rfl) (by kernel_rfl) (by kernel_rfl) rfl rfl ?hs ?hC ?he
      case hC =>
        intro i hi
        simp at hi
      case hs =>
        refine ⟨?_, ?_, ?_, ?_, ?_, ?_, ?_, trivial⟩
        all_goals (
          intro x w' hE hd
          try simp [PhDeps, at_k, at_p, at_t, at_any, Region.binds] at hd
          try ((with_reducible refine Exists.elim hd ?_); clear hd; intro y hd; obtain ⟨hd, hG⟩ := hd)
          skip
          first | simp only [frL, List.length_cons, List.length_nil, List.take_succ_cons, List.take_zero, Nat.reduceAdd, Nat.zero_add, List.setIfInBounds_toArray, List.set_cons_zero, List.set_cons_succ, hd] | simp only [frL, List.length_cons, List.length_nil, List.take_succ_cons, List.take_zero, Nat.reduceAdd, Nat.zero_add, List.setIfInBounds_toArray, List.set_cons_zero, List.set_cons_succ]
          go_wp2
          all_goals first
            | ((with_reducible refine phK ?_ ?_); (focus rfl); (repeat (first | (with_reducible assumption) | (with_reducible exact Ext.refl _) | (with_reducible refine Ext.drew ?_) | (with_reducible refine Ext.drewN ?_ _) | (with_reducible refine Ext.alloc ?_ _) | (with_reducible refine Ext.trans ?_ (by with_reducible assumption)))))
            | ((with_reducible refine phT rfl hG ?_); (repeat (first | (with_reducible assumption) | (with_reducible exact Ext.refl _) | (with_reducible refine Ext.drew ?_) | (with_reducible refine Ext.drewN ?_ _) | (with_reducible refine Ext.alloc ?_ _) | (with_reducible refine Ext.trans ?_ (by with_reducible assumption)))))
            | ((with_reducible refine phU hG ?_); (repeat (first | (with_reducible assumption) | (with_reducible exact Ext.refl _) | (with_reducible refine Ext.drew ?_) | (with_reducible refine Ext.drewN ?_ _) | (with_reducible refine Ext.alloc ?_ _) | (with_reducible refine Ext.trans ?_ (by with_reducible assumption)))))
            | (with_reducible exact phBox hE)
            | (with_reducible exact phRow hE))
      case he =>
        intro x wq2 Eq2 hd
        simp [PhEnd, at_k, at_p, at_t, at_any] at hd
        simp only [frL, List.length_cons, List.length_nil, List.take_succ_cons, List.take_zero, Nat.reduceAdd, Nat.zero_add, List.setIfInBounds_toArray, List.set_cons_zero, List.set_cons_succ, hd, List.length_cons, List.length_nil, List.drop_succ_cons, List.drop_zero]
        clear hd
        have HEq2 := hid (HEq.out.trans Eq2)
        clear Eq2
        go_wp2_with fail
        refine (IB.out wq2).mono ?_
        rintro e w9 ⟨rfl, rfl⟩
        go_wp2_with fail
        show bodyPost Tryz.prog Tryz.f193 (fun e w' => e = .returned (.int .i64 (-1)) ∧ Ext w w') Exit.ret _ _
        go_ret
        exact ⟨rfl, HEq2.out⟩
set_option maxRecDepth 100000 in
set_option maxHeartbeats 2000000 in
theorem ruC4 (r : Nat) (x0 x1 x2 x3 : UInt8) (w : World) (h1 : 65536 ≤ r) (h2 : r < 1114112) (he : Utf8.encode r = ⟨#[x0, x1, x2, x3]⟩) (hx : 128 ≤ x3.toNat) : Calls Tryz.prog 193 #[.string ⟨#[61, 43, 60, 63]⟩, .int .i32 r] w fun e w' => e = .returned (.int .i64 (-1)) ∧ Ext w w' := by
  have q1 : ¬ ((r : Int) < 128) := by omega
  have q2 : ((r : Int) == 65533) = false := by simp; omega
  have hcv : ∀ W, (convert 21 9 (.int .i32 (r : Int))).run Tryz.prog W = .ok (.string ⟨#[x0, x1, x2, x3]⟩) W := fun W => by
    rw [← he]
    simp [convert, run_underlying Tryz.underlying21, run_underlying Tryz.underlying9, Conv.intToString]
  have VR := Any.utf8_ValidRune lays119 r w
  rw [show Lib.validRune r = true from decide_eq_true (by omega)] at VR
  have VR := hid VR
  have IB := hid (fun w : World => show Calls Tryz.prog 110 #[.string (ByteArray.extract ⟨#[61, 43, 60, 63]⟩ 4 4), .int .u8 (x3.toNat : Nat)] w fun e w' => e = .returned (.int .i64 (-1)) ∧ w' = w by
    have IB := Any.strings_IndexByte lays137 (ByteArray.extract ⟨#[61, 43, 60, 63]⟩ 4 4) (x3.toNat : Int) w
    rw [show Lib.indexByte (ByteArray.extract ⟨#[61, 43, 60, 63]⟩ 4 4).data.toList ((x3.toNat : Int)).toNat.toUInt8 = -1 by
      rw [show (ByteArray.extract ⟨#[61, 43, 60, 63]⟩ 4 4).data.toList = [] from rfl, show ((x3.toNat : Int)).toNat.toUInt8 = x3 by simp]
      exact ib_none (by simp only [List.mem_cons, List.not_mem_nil, or_false]; intro q; exact q)] at IB
    exact IB)
  have hq : ((63 : Int) != (x3.toNat : Int)) = true := by simp; omega
  clear he h1 h2 hx
  go_enter Tryz.func193, Tryz.ntmps193
  go_wp2_with fail
  refine (VR.out).mono ?_
  clear VR
  rintro e w1 ⟨rfl, rfl⟩
  obtain ⟨w, rfl⟩ : ∃ w0 : World, w0 = w1 := ⟨_, rfl⟩
  go_wp2_with fail
  go_step3
  go_wp2_with fail
  go_loopw [9] (fun v9 wr => v9 = .int .i64 3 ∧ w = wr) (fun _ _ => 0)
  case atStart => exact ⟨rfl, rfl⟩
  case round =>
    obtain ⟨rfl, rfl⟩ := hrel
    go_wp2_with fail
    go_step3
    go_wp2_with fail
    refine wp_region_ph [.k (.string ⟨#[61, 43, 60, 63]⟩), .k (.int .i64 3), .k (.int .u8 63), .k (.string ⟨#[x0, x1, x2, x3]⟩), .k (.int .i64 3), .k (.int .u8 (x3.toNat : Nat)), .k (.bool true)] [] (by kernel_rfl) (by kernel_rfl) (by kernel_rfl) rfl rfl ?hs ?hC ?he
    case hC =>
      intro i hi
      simp at hi
    case hs =>
      refine ⟨?_, ?_, ?_, ?_, ?_, ?_, ?_, trivial⟩
      all_goals (
        intro x w' hE hd
        try simp [PhDeps, at_k, at_p, at_t, at_any, Region.binds] at hd
        try ((with_reducible refine Exists.elim hd ?_); clear hd; intro y hd; obtain ⟨hd, hG⟩ := hd)
        skip
        first | simp only [frL, List.length_cons, List.length_nil, List.take_succ_cons, List.take_zero, Nat.reduceAdd, Nat.zero_add, List.setIfInBounds_toArray, List.set_cons_zero, List.set_cons_succ, hd] | simp only [frL, List.length_cons, List.length_nil, List.take_succ_cons, List.take_zero, Nat.reduceAdd, Nat.zero_add, List.setIfInBounds_toArray, List.set_cons_zero, List.set_cons_succ]
        go_wp2
        all_goals first
          | ((with_reducible refine phK ?_ ?_); (focus rfl); (repeat (first | (with_reducible assumption) | (with_reducible exact Ext.refl _) | (with_reducible refine Ext.drew ?_) | (with_reducible refine Ext.drewN ?_ _) | (with_reducible refine Ext.alloc ?_ _) | (with_reducible refine Ext.trans ?_ (by with_reducible assumption)))))
          | ((with_reducible refine phT rfl hG ?_); (repeat (first | (with_reducible assumption) | (with_reducible exact Ext.refl _) | (with_reducible refine Ext.drew ?_) | (with_reducible refine Ext.drewN ?_ _) | (with_reducible refine Ext.alloc ?_ _) | (with_reducible refine Ext.trans ?_ (by with_reducible assumption)))))
          | ((with_reducible refine phU hG ?_); (repeat (first | (with_reducible assumption) | (with_reducible exact Ext.refl _) | (with_reducible refine Ext.drew ?_) | (with_reducible refine Ext.drewN ?_ _) | (with_reducible refine Ext.alloc ?_ _) | (with_reducible refine Ext.trans ?_ (by with_reducible assumption)))))
          | (with_reducible exact phBox hE)
          | (with_reducible exact phRow hE))
    case he =>
      intro x wq Eq hd
      simp [PhEnd, at_k, at_p, at_t, at_any] at hd
      simp only [frL, List.length_cons, List.length_nil, List.take_succ_cons, List.take_zero, Nat.reduceAdd, Nat.zero_add, List.setIfInBounds_toArray, List.set_cons_zero, List.set_cons_succ, hd, List.length_cons, List.length_nil, List.drop_succ_cons, List.drop_zero]
      clear hd
      have HEq := hid Eq
      clear Eq
      go_wp2_with fail
      refine wp_region_ph [.k (.string ⟨#[61, 43, 60, 63]⟩), .k (.int .i64 3), .k (.int .i64 4), .k (.string (ByteArray.extract ⟨#[61, 43, 60, 63]⟩ 4 4)), .k (.string ⟨#[x0, x1, x2, x3]⟩), .k (.int .i64 3), .k (.int .u8 (x3.toNat : Nat))] [] (by kernel_rfl) (by kernel_rfl) (by kernel_rfl) rfl rfl ?hs ?hC ?he
      case hC =>
        intro i hi
        simp at hi
      case hs =>
        refine ⟨?_, ?_, ?_, ?_, ?_, ?_, ?_, trivial⟩
        all_goals (
          intro x w' hE hd
          try simp [PhDeps, at_k, at_p, at_t, at_any, Region.binds] at hd
          try ((with_reducible refine Exists.elim hd ?_); clear hd; intro y hd; obtain ⟨hd, hG⟩ := hd)
          skip
          first | simp only [frL, List.length_cons, List.length_nil, List.take_succ_cons, List.take_zero, Nat.reduceAdd, Nat.zero_add, List.setIfInBounds_toArray, List.set_cons_zero, List.set_cons_succ, hd] | simp only [frL, List.length_cons, List.length_nil, List.take_succ_cons, List.take_zero, Nat.reduceAdd, Nat.zero_add, List.setIfInBounds_toArray, List.set_cons_zero, List.set_cons_succ]
          go_wp2
          all_goals first
            | ((with_reducible refine phK ?_ ?_); (focus rfl); (repeat (first | (with_reducible assumption) | (with_reducible exact Ext.refl _) | (with_reducible refine Ext.drew ?_) | (with_reducible refine Ext.drewN ?_ _) | (with_reducible refine Ext.alloc ?_ _) | (with_reducible refine Ext.trans ?_ (by with_reducible assumption)))))
            | ((with_reducible refine phT rfl hG ?_); (repeat (first | (with_reducible assumption) | (with_reducible exact Ext.refl _) | (with_reducible refine Ext.drew ?_) | (with_reducible refine Ext.drewN ?_ _) | (with_reducible refine Ext.alloc ?_ _) | (with_reducible refine Ext.trans ?_ (by with_reducible assumption)))))
            | ((with_reducible refine phU hG ?_); (repeat (first | (with_reducible assumption) | (with_reducible exact Ext.refl _) | (with_reducible refine Ext.drew ?_) | (with_reducible refine Ext.drewN ?_ _) | (with_reducible refine Ext.alloc ?_ _) | (with_reducible refine Ext.trans ?_ (by with_reducible assumption)))))
            | (with_reducible exact phBox hE)
            | (with_reducible exact phRow hE))
      case he =>
        intro x wq2 Eq2 hd
        simp [PhEnd, at_k, at_p, at_t, at_any] at hd
        simp only [frL, List.length_cons, List.length_nil, List.take_succ_cons, List.take_zero, Nat.reduceAdd, Nat.zero_add, List.setIfInBounds_toArray, List.set_cons_zero, List.set_cons_succ, hd, List.length_cons, List.length_nil, List.drop_succ_cons, List.drop_zero]
        clear hd
        have HEq2 := hid (HEq.out.trans Eq2)
        clear Eq2
        go_wp2_with fail
        refine (IB.out wq2).mono ?_
        rintro e w9 ⟨rfl, rfl⟩
        go_wp2_with fail
        show bodyPost Tryz.prog Tryz.f193 (fun e w' => e = .returned (.int .i64 (-1)) ∧ Ext w w') Exit.ret _ _
        go_ret
        exact ⟨rfl, HEq2.out⟩
theorem ofn_high {n : Nat} (h : n < 64) : 128 ≤ (UInt8.ofNat (128 + n)).toNat := by
  rw [UInt8.toNat_ofNat']; omega
theorem ruN (r : Nat) (w : World) (h1 : 128 ≤ r) (h2 : Utf8.valid r = true) : Calls Tryz.prog 193 #[.string ⟨#[61, 43, 60, 63]⟩, .int .i32 r] w fun e w' => e = .returned (.int .i64 (-1)) ∧ Ext w w' := by
  have hv : (r < 55296) ∨ (57344 ≤ r ∧ r ≤ 1114111) := by
    simp [Utf8.valid] at h2; omega
  by_cases e : r = 65533
  · subst e; exact ruA w
  · have en : Utf8.encode r = if r < 128 then ⟨#[UInt8.ofNat r]⟩ else if r < 2048 then ⟨#[UInt8.ofNat (192 + r / 64), UInt8.ofNat (128 + r % 64)]⟩ else if r < 65536 then ⟨#[UInt8.ofNat (224 + r / 4096), UInt8.ofNat (128 + r / 64 % 64), UInt8.ofNat (128 + r % 64)]⟩ else ⟨#[UInt8.ofNat (240 + r / 262144), UInt8.ofNat (128 + r / 4096 % 64), UInt8.ofNat (128 + r / 64 % 64), UInt8.ofNat (128 + r % 64)]⟩ := by
      unfold Utf8.encode
      rw [h2]
      simp
    rw [if_neg (by omega)] at en
    by_cases a : r < 2048
    · rw [if_pos a] at en
      exact ruC2 r _ _ w h1 a en (ofn_high (Nat.mod_lt _ (by omega)))
    · rw [if_neg a] at en
      by_cases b : r < 65536
      · rw [if_pos b] at en
        exact ruC3 r _ _ _ w (by omega) b (by omega) e en (ofn_high (Nat.mod_lt _ (by omega)))
      · rw [if_neg b] at en
        exact ruC4 r _ _ _ _ w (by omega) (by omega) en (ofn_high (Nat.mod_lt _ (by omega)))
end Go.Proofs.YtnepdfpooobmcaaGreatDoor
