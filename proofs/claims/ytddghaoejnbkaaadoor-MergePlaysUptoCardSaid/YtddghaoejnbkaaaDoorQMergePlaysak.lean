/- Contracts and lemmas for the proof of MergePlays; each theorem states its own conditions. -/
import Derived.Test.YtddghaoejnbkaaaDoorQMergePlaysah
import Derived.Test.YtddghaoejnbkaaaDoorQMergePlaysac
import Derived.Test.YtddghaoejnbkaaaDoorQMergePlaysaj
import Derived.WalkSpells
import Derived.WalkLawsBesides
set_option linter.unusedVariables false
set_option linter.unusedSimpArgs false
/- Contracts and lemmas for the proofs of this seat; each theorem states its own conditions. -/
namespace Go.Proofs.YtddghaoejnbkaaaDoor
open Go.RowKit
/-! deed.op, deed.Check -/
set_option maxRecDepth 10000 in
theorem op_lo (kd n : Int) (key fr : ByteArray) (w : World) (hk : key.size ≤ 9223372036854775807) (hf : fr.size ≤ 9223372036854775807) (h : kd < 1) :
    Calls Tryd.prog 43 #[.agg #[.int .i64 kd, .string key, .string fr, .int .i64 n]] w fun e w' => e = .returned (.int .i64 3) ∧ Ext w w' := by
  go_enter Tryd.func43, Tryd.ntmps43
  go_wp2_with (first | (go_at_call 42; with_reducible refine (key_any _ _ hk).mono ?_; rintro e w' ⟨rfl, rfl⟩) | (go_at_call 42; with_reducible refine (key_any _ _ hf).mono ?_; rintro e w' ⟨rfl, rfl⟩) | (go_at_call 50; with_reducible refine (value_any _ _).mono ?_; rintro e w' ⟨rfl, rfl⟩))
  go_ret
  exact ⟨rfl, by (repeat (first | (with_reducible assumption) | (with_reducible exact Ext.refl _) | (with_reducible refine Ext.drew ?_) | (with_reducible refine Ext.drewN ?_ _) | (with_reducible refine Ext.alloc ?_ _) | (with_reducible refine Ext.trans ?_ (by with_reducible assumption))))⟩
set_option maxRecDepth 10000 in
theorem op_hi (kd n : Int) (key fr : ByteArray) (w : World) (hk : key.size ≤ 9223372036854775807) (hf : fr.size ≤ 9223372036854775807) (h1 : 1 ≤ kd) (h : 5 < kd) :
    Calls Tryd.prog 43 #[.agg #[.int .i64 kd, .string key, .string fr, .int .i64 n]] w fun e w' => e = .returned (.int .i64 3) ∧ Ext w w' := by
  go_enter Tryd.func43, Tryd.ntmps43
  go_wp2_with (first | (go_at_call 42; with_reducible refine (key_any _ _ hk).mono ?_; rintro e w' ⟨rfl, rfl⟩) | (go_at_call 42; with_reducible refine (key_any _ _ hf).mono ?_; rintro e w' ⟨rfl, rfl⟩) | (go_at_call 50; with_reducible refine (value_any _ _).mono ?_; rintro e w' ⟨rfl, rfl⟩))
  go_ret
  exact ⟨rfl, by (repeat (first | (with_reducible assumption) | (with_reducible exact Ext.refl _) | (with_reducible refine Ext.drew ?_) | (with_reducible refine Ext.drewN ?_ _) | (with_reducible refine Ext.alloc ?_ _) | (with_reducible refine Ext.trans ?_ (by with_reducible assumption))))⟩
set_option maxRecDepth 10000 in
theorem op_k1 (n : Int) (key fr : ByteArray) (w : World) (hk : key.size ≤ 9223372036854775807) (hf : fr.size ≤ 9223372036854775807) (h : keyB key = false) :
    Calls Tryd.prog 43 #[.agg #[.int .i64 1, .string key, .string fr, .int .i64 n]] w fun e w' => e = .returned (.int .i64 3) ∧ Ext w w' := by
  go_enter Tryd.func43, Tryd.ntmps43
  go_wp2_with (first | (go_at_call 42; with_reducible refine (key_any _ _ hk).mono ?_; rintro e w' ⟨rfl, rfl⟩) | (go_at_call 42; with_reducible refine (key_any _ _ hf).mono ?_; rintro e w' ⟨rfl, rfl⟩) | (go_at_call 50; with_reducible refine (value_any _ _).mono ?_; rintro e w' ⟨rfl, rfl⟩))
  go_ret
  exact ⟨rfl, by (repeat (first | (with_reducible assumption) | (with_reducible exact Ext.refl _) | (with_reducible refine Ext.drew ?_) | (with_reducible refine Ext.drewN ?_ _) | (with_reducible refine Ext.alloc ?_ _) | (with_reducible refine Ext.trans ?_ (by with_reducible assumption))))⟩
set_option maxRecDepth 10000 in
theorem op_v1 (n : Int) (key fr : ByteArray) (w : World) (hk : key.size ≤ 9223372036854775807) (hf : fr.size ≤ 9223372036854775807) (h : keyB key = true) (h4 : valB n = false) :
    Calls Tryd.prog 43 #[.agg #[.int .i64 1, .string key, .string fr, .int .i64 n]] w fun e w' => e = .returned (.int .i64 1) ∧ Ext w w' := by
  go_enter Tryd.func43, Tryd.ntmps43
  go_wp2_with (first | (go_at_call 42; with_reducible refine (key_any _ _ hk).mono ?_; rintro e w' ⟨rfl, rfl⟩) | (go_at_call 42; with_reducible refine (key_any _ _ hf).mono ?_; rintro e w' ⟨rfl, rfl⟩) | (go_at_call 50; with_reducible refine (value_any _ _).mono ?_; rintro e w' ⟨rfl, rfl⟩))
  go_ret
  exact ⟨rfl, by (repeat (first | (with_reducible assumption) | (with_reducible exact Ext.refl _) | (with_reducible refine Ext.drew ?_) | (with_reducible refine Ext.drewN ?_ _) | (with_reducible refine Ext.alloc ?_ _) | (with_reducible refine Ext.trans ?_ (by with_reducible assumption))))⟩
set_option maxRecDepth 10000 in
theorem op_g1 (n : Int) (key fr : ByteArray) (w : World) (hk : key.size ≤ 9223372036854775807) (hf : fr.size ≤ 9223372036854775807) (h : keyB key = true) (h4 : valB n = true) :
    Calls Tryd.prog 43 #[.agg #[.int .i64 1, .string key, .string fr, .int .i64 n]] w fun e w' => e = .returned (.int .i64 0) ∧ Ext w w' := by
  go_enter Tryd.func43, Tryd.ntmps43
  go_wp2_with (first | (go_at_call 42; with_reducible refine (key_any _ _ hk).mono ?_; rintro e w' ⟨rfl, rfl⟩) | (go_at_call 42; with_reducible refine (key_any _ _ hf).mono ?_; rintro e w' ⟨rfl, rfl⟩) | (go_at_call 50; with_reducible refine (value_any _ _).mono ?_; rintro e w' ⟨rfl, rfl⟩))
  go_ret
  exact ⟨rfl, by (repeat (first | (with_reducible assumption) | (with_reducible exact Ext.refl _) | (with_reducible refine Ext.drew ?_) | (with_reducible refine Ext.drewN ?_ _) | (with_reducible refine Ext.alloc ?_ _) | (with_reducible refine Ext.trans ?_ (by with_reducible assumption))))⟩
set_option maxRecDepth 10000 in
theorem op_k2 (n : Int) (key fr : ByteArray) (w : World) (hk : key.size ≤ 9223372036854775807) (hf : fr.size ≤ 9223372036854775807) (h : keyB key = false) :
    Calls Tryd.prog 43 #[.agg #[.int .i64 2, .string key, .string fr, .int .i64 n]] w fun e w' => e = .returned (.int .i64 3) ∧ Ext w w' := by
  go_enter Tryd.func43, Tryd.ntmps43
  go_wp2_with (first | (go_at_call 42; with_reducible refine (key_any _ _ hk).mono ?_; rintro e w' ⟨rfl, rfl⟩) | (go_at_call 42; with_reducible refine (key_any _ _ hf).mono ?_; rintro e w' ⟨rfl, rfl⟩) | (go_at_call 50; with_reducible refine (value_any _ _).mono ?_; rintro e w' ⟨rfl, rfl⟩))
  go_ret
  exact ⟨rfl, by (repeat (first | (with_reducible assumption) | (with_reducible exact Ext.refl _) | (with_reducible refine Ext.drew ?_) | (with_reducible refine Ext.drewN ?_ _) | (with_reducible refine Ext.alloc ?_ _) | (with_reducible refine Ext.trans ?_ (by with_reducible assumption))))⟩
set_option maxRecDepth 10000 in
theorem op_v2 (n : Int) (key fr : ByteArray) (w : World) (hk : key.size ≤ 9223372036854775807) (hf : fr.size ≤ 9223372036854775807) (h : keyB key = true) (h4 : valB n = false) :
    Calls Tryd.prog 43 #[.agg #[.int .i64 2, .string key, .string fr, .int .i64 n]] w fun e w' => e = .returned (.int .i64 1) ∧ Ext w w' := by
  go_enter Tryd.func43, Tryd.ntmps43
  go_wp2_with (first | (go_at_call 42; with_reducible refine (key_any _ _ hk).mono ?_; rintro e w' ⟨rfl, rfl⟩) | (go_at_call 42; with_reducible refine (key_any _ _ hf).mono ?_; rintro e w' ⟨rfl, rfl⟩) | (go_at_call 50; with_reducible refine (value_any _ _).mono ?_; rintro e w' ⟨rfl, rfl⟩))
  go_ret
  exact ⟨rfl, by (repeat (first | (with_reducible assumption) | (with_reducible exact Ext.refl _) | (with_reducible refine Ext.drew ?_) | (with_reducible refine Ext.drewN ?_ _) | (with_reducible refine Ext.alloc ?_ _) | (with_reducible refine Ext.trans ?_ (by with_reducible assumption))))⟩
set_option maxRecDepth 10000 in
theorem op_g2 (n : Int) (key fr : ByteArray) (w : World) (hk : key.size ≤ 9223372036854775807) (hf : fr.size ≤ 9223372036854775807) (h : keyB key = true) (h4 : valB n = true) :
    Calls Tryd.prog 43 #[.agg #[.int .i64 2, .string key, .string fr, .int .i64 n]] w fun e w' => e = .returned (.int .i64 0) ∧ Ext w w' := by
  go_enter Tryd.func43, Tryd.ntmps43
  go_wp2_with (first | (go_at_call 42; with_reducible refine (key_any _ _ hk).mono ?_; rintro e w' ⟨rfl, rfl⟩) | (go_at_call 42; with_reducible refine (key_any _ _ hf).mono ?_; rintro e w' ⟨rfl, rfl⟩) | (go_at_call 50; with_reducible refine (value_any _ _).mono ?_; rintro e w' ⟨rfl, rfl⟩))
  go_ret
  exact ⟨rfl, by (repeat (first | (with_reducible assumption) | (with_reducible exact Ext.refl _) | (with_reducible refine Ext.drew ?_) | (with_reducible refine Ext.drewN ?_ _) | (with_reducible refine Ext.alloc ?_ _) | (with_reducible refine Ext.trans ?_ (by with_reducible assumption))))⟩
set_option maxRecDepth 10000 in
theorem op_k3 (n : Int) (key fr : ByteArray) (w : World) (hk : key.size ≤ 9223372036854775807) (hf : fr.size ≤ 9223372036854775807) (h : keyB key = false) :
    Calls Tryd.prog 43 #[.agg #[.int .i64 3, .string key, .string fr, .int .i64 n]] w fun e w' => e = .returned (.int .i64 3) ∧ Ext w w' := by
  go_enter Tryd.func43, Tryd.ntmps43
  go_wp2_with (first | (go_at_call 42; with_reducible refine (key_any _ _ hk).mono ?_; rintro e w' ⟨rfl, rfl⟩) | (go_at_call 42; with_reducible refine (key_any _ _ hf).mono ?_; rintro e w' ⟨rfl, rfl⟩) | (go_at_call 50; with_reducible refine (value_any _ _).mono ?_; rintro e w' ⟨rfl, rfl⟩))
  go_ret
  exact ⟨rfl, by (repeat (first | (with_reducible assumption) | (with_reducible exact Ext.refl _) | (with_reducible refine Ext.drew ?_) | (with_reducible refine Ext.drewN ?_ _) | (with_reducible refine Ext.alloc ?_ _) | (with_reducible refine Ext.trans ?_ (by with_reducible assumption))))⟩
set_option maxRecDepth 10000 in
theorem op_f3 (n : Int) (key fr : ByteArray) (w : World) (hk : key.size ≤ 9223372036854775807) (hf : fr.size ≤ 9223372036854775807) (h : keyB key = true) (h2 : keyB fr = false) :
    Calls Tryd.prog 43 #[.agg #[.int .i64 3, .string key, .string fr, .int .i64 n]] w fun e w' => e = .returned (.int .i64 3) ∧ Ext w w' := by
  go_enter Tryd.func43, Tryd.ntmps43
  go_wp2_with (first | (go_at_call 42; with_reducible refine (key_any _ _ hk).mono ?_; rintro e w' ⟨rfl, rfl⟩) | (go_at_call 42; with_reducible refine (key_any _ _ hf).mono ?_; rintro e w' ⟨rfl, rfl⟩) | (go_at_call 50; with_reducible refine (value_any _ _).mono ?_; rintro e w' ⟨rfl, rfl⟩))
  go_ret
  exact ⟨rfl, by (repeat (first | (with_reducible assumption) | (with_reducible exact Ext.refl _) | (with_reducible refine Ext.drew ?_) | (with_reducible refine Ext.drewN ?_ _) | (with_reducible refine Ext.alloc ?_ _) | (with_reducible refine Ext.trans ?_ (by with_reducible assumption))))⟩
set_option maxRecDepth 10000 in
theorem op_e3 (n : Int) (key : ByteArray) (w : World) (hk : key.size ≤ 9223372036854775807) (h : keyB key = true) :
    Calls Tryd.prog 43 #[.agg #[.int .i64 3, .string key, .string key, .int .i64 n]] w fun e w' => e = .returned (.int .i64 3) ∧ Ext w w' := by
  go_enter Tryd.func43, Tryd.ntmps43
  go_wp2_with (first | (go_at_call 42; with_reducible refine (key_any _ _ hk).mono ?_; rintro e w' ⟨rfl, rfl⟩) | (go_at_call 50; with_reducible refine (value_any _ _).mono ?_; rintro e w' ⟨rfl, rfl⟩))
  go_ret
  exact ⟨rfl, by (repeat (first | (with_reducible assumption) | (with_reducible exact Ext.refl _) | (with_reducible refine Ext.drew ?_) | (with_reducible refine Ext.drewN ?_ _) | (with_reducible refine Ext.alloc ?_ _) | (with_reducible refine Ext.trans ?_ (by with_reducible assumption))))⟩
set_option maxRecDepth 10000 in
theorem op_g3 (n : Int) (key fr : ByteArray) (w : World) (hk : key.size ≤ 9223372036854775807) (hf : fr.size ≤ 9223372036854775807) (h : keyB key = true) (h2 : keyB fr = true) (h3 : (fr.toList == key.toList) = false) :
    Calls Tryd.prog 43 #[.agg #[.int .i64 3, .string key, .string fr, .int .i64 n]] w fun e w' => e = .returned (.int .i64 0) ∧ Ext w w' := by
  go_enter Tryd.func43, Tryd.ntmps43
  go_wp2_with (first | (go_at_call 42; with_reducible refine (key_any _ _ hk).mono ?_; rintro e w' ⟨rfl, rfl⟩) | (go_at_call 42; with_reducible refine (key_any _ _ hf).mono ?_; rintro e w' ⟨rfl, rfl⟩) | (go_at_call 50; with_reducible refine (value_any _ _).mono ?_; rintro e w' ⟨rfl, rfl⟩))
  go_ret
  exact ⟨rfl, by (repeat (first | (with_reducible assumption) | (with_reducible exact Ext.refl _) | (with_reducible refine Ext.drew ?_) | (with_reducible refine Ext.drewN ?_ _) | (with_reducible refine Ext.alloc ?_ _) | (with_reducible refine Ext.trans ?_ (by with_reducible assumption))))⟩
set_option maxRecDepth 10000 in
theorem op_k4 (n : Int) (key fr : ByteArray) (w : World) (hk : key.size ≤ 9223372036854775807) (hf : fr.size ≤ 9223372036854775807) (h : keyB key = false) :
    Calls Tryd.prog 43 #[.agg #[.int .i64 4, .string key, .string fr, .int .i64 n]] w fun e w' => e = .returned (.int .i64 3) ∧ Ext w w' := by
  go_enter Tryd.func43, Tryd.ntmps43
  go_wp2_with (first | (go_at_call 42; with_reducible refine (key_any _ _ hk).mono ?_; rintro e w' ⟨rfl, rfl⟩) | (go_at_call 42; with_reducible refine (key_any _ _ hf).mono ?_; rintro e w' ⟨rfl, rfl⟩) | (go_at_call 50; with_reducible refine (value_any _ _).mono ?_; rintro e w' ⟨rfl, rfl⟩))
  go_ret
  exact ⟨rfl, by (repeat (first | (with_reducible assumption) | (with_reducible exact Ext.refl _) | (with_reducible refine Ext.drew ?_) | (with_reducible refine Ext.drewN ?_ _) | (with_reducible refine Ext.alloc ?_ _) | (with_reducible refine Ext.trans ?_ (by with_reducible assumption))))⟩
set_option maxRecDepth 10000 in
theorem op_v4 (n : Int) (key fr : ByteArray) (w : World) (hk : key.size ≤ 9223372036854775807) (hf : fr.size ≤ 9223372036854775807) (h : keyB key = true) (h4 : valB n = false) :
    Calls Tryd.prog 43 #[.agg #[.int .i64 4, .string key, .string fr, .int .i64 n]] w fun e w' => e = .returned (.int .i64 1) ∧ Ext w w' := by
  go_enter Tryd.func43, Tryd.ntmps43
  go_wp2_with (first | (go_at_call 42; with_reducible refine (key_any _ _ hk).mono ?_; rintro e w' ⟨rfl, rfl⟩) | (go_at_call 42; with_reducible refine (key_any _ _ hf).mono ?_; rintro e w' ⟨rfl, rfl⟩) | (go_at_call 50; with_reducible refine (value_any _ _).mono ?_; rintro e w' ⟨rfl, rfl⟩))
  go_ret
  exact ⟨rfl, by (repeat (first | (with_reducible assumption) | (with_reducible exact Ext.refl _) | (with_reducible refine Ext.drew ?_) | (with_reducible refine Ext.drewN ?_ _) | (with_reducible refine Ext.alloc ?_ _) | (with_reducible refine Ext.trans ?_ (by with_reducible assumption))))⟩
set_option maxRecDepth 10000 in
theorem op_g4 (n : Int) (key fr : ByteArray) (w : World) (hk : key.size ≤ 9223372036854775807) (hf : fr.size ≤ 9223372036854775807) (h : keyB key = true) (h4 : valB n = true) :
    Calls Tryd.prog 43 #[.agg #[.int .i64 4, .string key, .string fr, .int .i64 n]] w fun e w' => e = .returned (.int .i64 0) ∧ Ext w w' := by
  go_enter Tryd.func43, Tryd.ntmps43
  go_wp2_with (first | (go_at_call 42; with_reducible refine (key_any _ _ hk).mono ?_; rintro e w' ⟨rfl, rfl⟩) | (go_at_call 42; with_reducible refine (key_any _ _ hf).mono ?_; rintro e w' ⟨rfl, rfl⟩) | (go_at_call 50; with_reducible refine (value_any _ _).mono ?_; rintro e w' ⟨rfl, rfl⟩))
  go_ret
  exact ⟨rfl, by (repeat (first | (with_reducible assumption) | (with_reducible exact Ext.refl _) | (with_reducible refine Ext.drew ?_) | (with_reducible refine Ext.drewN ?_ _) | (with_reducible refine Ext.alloc ?_ _) | (with_reducible refine Ext.trans ?_ (by with_reducible assumption))))⟩
set_option maxRecDepth 10000 in
theorem op_k5 (n : Int) (key fr : ByteArray) (w : World) (hk : key.size ≤ 9223372036854775807) (hf : fr.size ≤ 9223372036854775807) (h : keyB key = false) :
    Calls Tryd.prog 43 #[.agg #[.int .i64 5, .string key, .string fr, .int .i64 n]] w fun e w' => e = .returned (.int .i64 3) ∧ Ext w w' := by
  go_enter Tryd.func43, Tryd.ntmps43
  go_wp2_with (first | (go_at_call 42; with_reducible refine (key_any _ _ hk).mono ?_; rintro e w' ⟨rfl, rfl⟩) | (go_at_call 42; with_reducible refine (key_any _ _ hf).mono ?_; rintro e w' ⟨rfl, rfl⟩) | (go_at_call 50; with_reducible refine (value_any _ _).mono ?_; rintro e w' ⟨rfl, rfl⟩))
  go_ret
  exact ⟨rfl, by (repeat (first | (with_reducible assumption) | (with_reducible exact Ext.refl _) | (with_reducible refine Ext.drew ?_) | (with_reducible refine Ext.drewN ?_ _) | (with_reducible refine Ext.alloc ?_ _) | (with_reducible refine Ext.trans ?_ (by with_reducible assumption))))⟩
set_option maxRecDepth 10000 in
theorem op_f5 (n : Int) (key fr : ByteArray) (w : World) (hk : key.size ≤ 9223372036854775807) (hf : fr.size ≤ 9223372036854775807) (h : keyB key = true) (h2 : keyB fr = false) :
    Calls Tryd.prog 43 #[.agg #[.int .i64 5, .string key, .string fr, .int .i64 n]] w fun e w' => e = .returned (.int .i64 3) ∧ Ext w w' := by
  go_enter Tryd.func43, Tryd.ntmps43
  go_wp2_with (first | (go_at_call 42; with_reducible refine (key_any _ _ hk).mono ?_; rintro e w' ⟨rfl, rfl⟩) | (go_at_call 42; with_reducible refine (key_any _ _ hf).mono ?_; rintro e w' ⟨rfl, rfl⟩) | (go_at_call 50; with_reducible refine (value_any _ _).mono ?_; rintro e w' ⟨rfl, rfl⟩))
  go_ret
  exact ⟨rfl, by (repeat (first | (with_reducible assumption) | (with_reducible exact Ext.refl _) | (with_reducible refine Ext.drew ?_) | (with_reducible refine Ext.drewN ?_ _) | (with_reducible refine Ext.alloc ?_ _) | (with_reducible refine Ext.trans ?_ (by with_reducible assumption))))⟩
set_option maxRecDepth 10000 in
theorem op_e5 (n : Int) (key : ByteArray) (w : World) (hk : key.size ≤ 9223372036854775807) (h : keyB key = true) :
    Calls Tryd.prog 43 #[.agg #[.int .i64 5, .string key, .string key, .int .i64 n]] w fun e w' => e = .returned (.int .i64 3) ∧ Ext w w' := by
  go_enter Tryd.func43, Tryd.ntmps43
  go_wp2_with (first | (go_at_call 42; with_reducible refine (key_any _ _ hk).mono ?_; rintro e w' ⟨rfl, rfl⟩) | (go_at_call 50; with_reducible refine (value_any _ _).mono ?_; rintro e w' ⟨rfl, rfl⟩))
  go_ret
  exact ⟨rfl, by (repeat (first | (with_reducible assumption) | (with_reducible exact Ext.refl _) | (with_reducible refine Ext.drew ?_) | (with_reducible refine Ext.drewN ?_ _) | (with_reducible refine Ext.alloc ?_ _) | (with_reducible refine Ext.trans ?_ (by with_reducible assumption))))⟩
set_option maxRecDepth 10000 in
theorem op_v5 (n : Int) (key fr : ByteArray) (w : World) (hk : key.size ≤ 9223372036854775807) (hf : fr.size ≤ 9223372036854775807) (h : keyB key = true) (h2 : keyB fr = true) (h3 : (fr.toList == key.toList) = false) (h4 : valB n = false) :
    Calls Tryd.prog 43 #[.agg #[.int .i64 5, .string key, .string fr, .int .i64 n]] w fun e w' => e = .returned (.int .i64 1) ∧ Ext w w' := by
  go_enter Tryd.func43, Tryd.ntmps43
  go_wp2_with (first | (go_at_call 42; with_reducible refine (key_any _ _ hk).mono ?_; rintro e w' ⟨rfl, rfl⟩) | (go_at_call 42; with_reducible refine (key_any _ _ hf).mono ?_; rintro e w' ⟨rfl, rfl⟩) | (go_at_call 50; with_reducible refine (value_any _ _).mono ?_; rintro e w' ⟨rfl, rfl⟩))
  go_ret
  exact ⟨rfl, by (repeat (first | (with_reducible assumption) | (with_reducible exact Ext.refl _) | (with_reducible refine Ext.drew ?_) | (with_reducible refine Ext.drewN ?_ _) | (with_reducible refine Ext.alloc ?_ _) | (with_reducible refine Ext.trans ?_ (by with_reducible assumption))))⟩
set_option maxRecDepth 10000 in
theorem op_n5 (n : Int) (key fr : ByteArray) (w : World) (hk : key.size ≤ 9223372036854775807) (hf : fr.size ≤ 9223372036854775807) (h : keyB key = true) (h2 : keyB fr = true) (h3 : (fr.toList == key.toList) = false) (h4 : valB n = true) (h5 : n < 0) :
    Calls Tryd.prog 43 #[.agg #[.int .i64 5, .string key, .string fr, .int .i64 n]] w fun e w' => e = .returned (.int .i64 1) ∧ Ext w w' := by
  go_enter Tryd.func43, Tryd.ntmps43
  go_wp2_with (first | (go_at_call 42; with_reducible refine (key_any _ _ hk).mono ?_; rintro e w' ⟨rfl, rfl⟩) | (go_at_call 42; with_reducible refine (key_any _ _ hf).mono ?_; rintro e w' ⟨rfl, rfl⟩) | (go_at_call 50; with_reducible refine (value_any _ _).mono ?_; rintro e w' ⟨rfl, rfl⟩))
  go_ret
  exact ⟨rfl, by (repeat (first | (with_reducible assumption) | (with_reducible exact Ext.refl _) | (with_reducible refine Ext.drew ?_) | (with_reducible refine Ext.drewN ?_ _) | (with_reducible refine Ext.alloc ?_ _) | (with_reducible refine Ext.trans ?_ (by with_reducible assumption))))⟩
set_option maxRecDepth 10000 in
theorem op_g5 (n : Int) (key fr : ByteArray) (w : World) (hk : key.size ≤ 9223372036854775807) (hf : fr.size ≤ 9223372036854775807) (h : keyB key = true) (h2 : keyB fr = true) (h3 : (fr.toList == key.toList) = false) (h4 : valB n = true) (h5 : 0 ≤ n) :
    Calls Tryd.prog 43 #[.agg #[.int .i64 5, .string key, .string fr, .int .i64 n]] w fun e w' => e = .returned (.int .i64 0) ∧ Ext w w' := by
  go_enter Tryd.func43, Tryd.ntmps43
  go_wp2_with (first | (go_at_call 42; with_reducible refine (key_any _ _ hk).mono ?_; rintro e w' ⟨rfl, rfl⟩) | (go_at_call 42; with_reducible refine (key_any _ _ hf).mono ?_; rintro e w' ⟨rfl, rfl⟩) | (go_at_call 50; with_reducible refine (value_any _ _).mono ?_; rintro e w' ⟨rfl, rfl⟩))
  go_ret
  exact ⟨rfl, by (repeat (first | (with_reducible assumption) | (with_reducible exact Ext.refl _) | (with_reducible refine Ext.drew ?_) | (with_reducible refine Ext.drewN ?_ _) | (with_reducible refine Ext.alloc ?_ _) | (with_reducible refine Ext.trans ?_ (by with_reducible assumption))))⟩
theorem op_any (o : GOp) (w : World) (hk : o.key.size ≤ 9223372036854775807) (hf : o.from_.size ≤ 9223372036854775807) :
    Calls Tryd.prog 43 #[.agg #[.int .i64 o.kind, .string o.key, .string o.from_, .int .i64 o.n]] w fun e w' => e = .returned (.int .i64 (opE o)) ∧ Ext w w' := by
  obtain ⟨kd, key, fr, n⟩ := o
  dsimp only at hk hf ⊢
  by_cases h1 : kd < 1
  · rw [show opE ⟨kd, key, fr, n⟩ = 3 from by unfold opE; rw [if_pos (.inl h1)]]; exact op_lo kd n key fr w hk hf h1
  · by_cases h5 : 5 < kd
    · rw [show opE ⟨kd, key, fr, n⟩ = 3 from by unfold opE; rw [if_pos (.inr h5)]]; exact op_hi kd n key fr w hk hf (by omega) h5
    · rcases (show kd = 1 ∨ kd = 2 ∨ kd = 3 ∨ kd = 4 ∨ kd = 5 by omega) with rfl | rfl | rfl | rfl | rfl
      · cases h : keyB key with
        | false => rw [show opE ⟨1, key, fr, n⟩ = 3 from by simp [opE, h]]; exact op_k1 n key fr w hk hf h
        | true =>
          cases h4 : valB n with
          | false => rw [show opE ⟨1, key, fr, n⟩ = 1 from by simp [opE, twoB, h, h4]]; exact op_v1 n key fr w hk hf h h4
          | true =>
            rw [show opE ⟨1, key, fr, n⟩ = 0 from by simp [opE, twoB, h, h4]]; exact op_g1 n key fr w hk hf h h4
      · cases h : keyB key with
        | false => rw [show opE ⟨2, key, fr, n⟩ = 3 from by simp [opE, h]]; exact op_k2 n key fr w hk hf h
        | true =>
          cases h4 : valB n with
          | false => rw [show opE ⟨2, key, fr, n⟩ = 1 from by simp [opE, twoB, h, h4]]; exact op_v2 n key fr w hk hf h h4
          | true =>
            rw [show opE ⟨2, key, fr, n⟩ = 0 from by simp [opE, twoB, h, h4]]; exact op_g2 n key fr w hk hf h h4
      · cases h : keyB key with
        | false => rw [show opE ⟨3, key, fr, n⟩ = 3 from by simp [opE, h]]; exact op_k3 n key fr w hk hf h
        | true =>
          cases h2 : keyB fr with
          | false => rw [show opE ⟨3, key, fr, n⟩ = 3 from by simp [opE, twoB, h, h2]]; exact op_f3 n key fr w hk hf h h2
          | true =>
            by_cases h6 : fr = key
            · subst h6; rw [show opE ⟨3, fr, fr, n⟩ = 3 from by simp [opE, twoB]]; exact op_e3 n fr w hk h
            have h3 : (fr.toList == key.toList) = false := by simp; exact fun e => h6 (toList_inj e)
            rw [show opE ⟨3, key, fr, n⟩ = 0 from by simp [opE, twoB, h, h2, h6]]; exact op_g3 n key fr w hk hf h h2 h3
      · cases h : keyB key with
        | false => rw [show opE ⟨4, key, fr, n⟩ = 3 from by simp [opE, h]]; exact op_k4 n key fr w hk hf h
        | true =>
          cases h4 : valB n with
          | false => rw [show opE ⟨4, key, fr, n⟩ = 1 from by simp [opE, twoB, h, h4]]; exact op_v4 n key fr w hk hf h h4
          | true =>
            rw [show opE ⟨4, key, fr, n⟩ = 0 from by simp [opE, twoB, h, h4]]; exact op_g4 n key fr w hk hf h h4
      · cases h : keyB key with
        | false => rw [show opE ⟨5, key, fr, n⟩ = 3 from by simp [opE, h]]; exact op_k5 n key fr w hk hf h
        | true =>
          cases h2 : keyB fr with
          | false => rw [show opE ⟨5, key, fr, n⟩ = 3 from by simp [opE, twoB, h, h2]]; exact op_f5 n key fr w hk hf h h2
          | true =>
            by_cases h6 : fr = key
            · subst h6; rw [show opE ⟨5, fr, fr, n⟩ = 3 from by simp [opE, twoB]]; exact op_e5 n fr w hk h
            have h3 : (fr.toList == key.toList) = false := by simp; exact fun e => h6 (toList_inj e)
            cases h4 : valB n with
            | false => rw [show opE ⟨5, key, fr, n⟩ = 1 from by simp [opE, twoB, h, h4, h2, h6]]; exact op_v5 n key fr w hk hf h h2 h3 h4
            | true =>
              by_cases h7 : n < 0
              · rw [show opE ⟨5, key, fr, n⟩ = 1 from by simp [opE, h, h7, twoB, h2, h6, h4]]; exact op_n5 n key fr w hk hf h h2 h3 h4 h7
              rw [show opE ⟨5, key, fr, n⟩ = 0 from by simp [opE, twoB, h, h2, h6, h4, h7]]; exact op_g5 n key fr w hk hf h h2 h3 h4 (by omega)
/-- the cells of an operation -/
theorem seg_op {w : World} {b off : Nat} {d : Ops} (hc : ∀ j u, (cO d)[j]? = some u → w.cell? ⟨b, off + j, none⟩ = some u) {k : Nat} (hk : k < d.length) :
    w.cell? ⟨b, off + k * 4, none⟩ = some (.int .i64 d[k].kind) ∧ w.cell? ⟨b, off + k * 4 + 1, none⟩ = some (.string d[k].key) ∧ w.cell? ⟨b, off + k * 4 + 1 + 1, none⟩ = some (.string d[k].from_) ∧ w.cell? ⟨b, off + k * 4 + 1 + 1 + 1, none⟩ = some (.int .i64 d[k].n) :=
  ⟨hc _ _ (cO_at0 d k hk), by rw [Nat.add_assoc]; exact hc _ _ (cO_at1 d k hk), by rw [Nat.add_assoc, Nat.add_assoc]; exact hc _ _ (cO_at2 d k hk), by rw [Nat.add_assoc, Nat.add_assoc, Nat.add_assoc]; exact hc _ _ (cO_at3 d k hk)⟩
/-- texts of a deed are no longer than a machine's numbers -/
def opsSm (d : Ops) : Prop := ∀ o ∈ d, o.key.size ≤ 9223372036854775807 ∧ o.from_.size ≤ 9223372036854775807
theorem opsE_at {d : Ops} {k : Nat} (hk : k < d.length) : opE (d.getD k ⟨0, ⟨#[]⟩, ⟨#[]⟩, 0⟩) = opE d[k] := by simp [hk]
set_option maxRecDepth 10000 in
set_option maxHeartbeats 1000000 in
theorem dcheck_any (v : Value) (d : Ops) (w : World) (hv : Seg w v 4 d.length (cO d)) (hd : opsSm d) :
    Calls Tryd.prog 33 #[.agg #[v]] w fun e w' => e = .returned (.int .i64 (deedE d)) ∧ Ext w w' := by
  obtain ⟨h0, a, cap, rfl, h1, h2, h3⟩ := hv
  unfold maxLen at h2
  by_cases hz : d.length = 0
  · have hz' : ((d.length : Int) == 0) = true := by simp [hz]
    have HO := hid (show deedE d = 2 by unfold deedE; rw [if_pos (.inl hz)])
    clear hz h0 h3
    go_enter Tryd.func33, Tryd.ntmps33
    go_wp2
    go_ret
    exact ⟨rI HO.out.symm, by (repeat (first | (with_reducible assumption) | (with_reducible exact Ext.refl _) | (with_reducible refine Ext.drew ?_) | (with_reducible refine Ext.drewN ?_ _) | (with_reducible refine Ext.alloc ?_ _) | (with_reducible refine Ext.trans ?_ (by with_reducible assumption))))⟩
  · have hz' : ((d.length : Int) == 0) = false := by simp [hz]
    by_cases hm : 8 < d.length
    · have HO := hid (show deedE d = 2 by unfold deedE; rw [if_pos (.inr hm)])
      clear hz h0 h3
      go_enter Tryd.func33, Tryd.ntmps33
      go_wp2
      go_ret
      exact ⟨rI HO.out.symm, by (repeat (first | (with_reducible assumption) | (with_reducible exact Ext.refl _) | (with_reducible refine Ext.drew ?_) | (with_reducible refine Ext.drewN ?_ _) | (with_reducible refine Ext.alloc ?_ _) | (with_reducible refine Ext.trans ?_ (by with_reducible assumption))))⟩
    · have HO := hid (show deedE d = firstE (fun i => opE (d.getD i ⟨0, ⟨#[]⟩, ⟨#[]⟩, 0⟩)) d.length by unfold deedE; rw [if_neg (by omega)])
      have hpos : 0 < d.length := by omega
      clear hz h0
      have bx := heap_alloc_new w (.cells #[.slice a d.length cap] 36)
      have E0 := (Ext.refl w).alloc (.cells #[.slice a d.length cap] 36)
      go_enter Tryd.func33, Tryd.ntmps33
      go_wp2
      clear bx
      go_loopw [4, 5, 19] (fun _ _ i wr => ∃ k : Nat, k ≤ d.length ∧ i = .int .i64 k ∧ zeroTo (fun i => opE (d.getD i ⟨0, ⟨#[]⟩, ⟨#[]⟩, 0⟩)) k ∧ Ext w wr) (fun _ _ i _ => d.length - (intOf i).toNat)
      case atStart => exact ⟨0, Nat.zero_le _, rfl, fun j h => absurd h (by omega), E0⟩
      case round =>
        clear E0
        obtain ⟨k, hkl, rfl, hall, E⟩ := hrel
        by_cases hlt : k < d.length
        · obtain ⟨b, off, rfl, hc⟩ := h3 (by omega)
          obtain ⟨q0, q1, q2, q3⟩ := seg_op hc hlt
          have c0 := E.cell q0
          have c1 := E.cell q1
          have c2 := E.cell q2
          have c3 := E.cell q3
          have hsz := hd d[k] (List.getElem_mem hlt)
          have hE := opsE_at hlt
          clear hc h3 q0 q1 q2 q3
          by_cases hk0 : opE d[k] = 0
          · have HS := hid (zeroTo_succ hall (hE.trans hk0))
            have HK := hid hk0
            clear hall hE hk0
            go_wp2_with fail
            refine (op_any d[k] _ hsz.1 hsz.2).mono ?_
            rw [HK.out]
            rintro e w1 ⟨rfl, E1⟩
            go_wp2
            go_roundw
            case rel => exact ⟨k + 1, by omega, by go_num, HS.out, by (repeat (first | (with_reducible assumption) | (with_reducible exact Ext.refl _) | (with_reducible refine Ext.drew ?_) | (with_reducible refine Ext.drewN ?_ _) | (with_reducible refine Ext.alloc ?_ _) | (with_reducible refine Ext.trans ?_ (by with_reducible assumption))))⟩
            case measure => simp [intOf]; omega
          · have HF := hid (firstE_at hall (fun h0 => hk0 (hE.symm.trans h0)) hlt)
            have HE := hid hE
            have q : (opE d[k] != 0) = true := by simp [hk0]
            clear hall hE hk0
            go_wp2_with fail
            refine (op_any d[k] _ hsz.1 hsz.2).mono ?_
            rintro e w1 ⟨rfl, E1⟩
            go_wp2
            go_ret
            exact ⟨rI (by rw [HO.out, HF.out]; exact HE.out.symm), by (repeat (first | (with_reducible assumption) | (with_reducible exact Ext.refl _) | (with_reducible refine Ext.drew ?_) | (with_reducible refine Ext.drewN ?_ _) | (with_reducible refine Ext.alloc ?_ _) | (with_reducible refine Ext.trans ?_ (by with_reducible assumption))))⟩
        · obtain rfl : k = d.length := by omega
          have HZ := hid (firstE_zero hall)
          clear hall h3
          go_wp2
          go_ret
          exact ⟨rI (by rw [HO.out, HZ.out]), E⟩
end Go.Proofs.YtddghaoejnbkaaaDoor
