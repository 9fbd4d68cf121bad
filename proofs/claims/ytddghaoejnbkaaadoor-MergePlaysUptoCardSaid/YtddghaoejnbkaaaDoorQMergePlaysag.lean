/- Contracts and lemmas for the proof of MergePlays; each theorem states its own conditions. -/
import Derived.Test.YtddghaoejnbkaaaDoorProg
import Derived.Test.YtddghaoejnbkaaaDoorQMergePlaysab
import Derived.WalkSpells
import Derived.WalkLawsBesides
import Derived.Deep.QuietTactic
import Derived.BigQuiet
import Derived.Test.YtddghaoejnbkaaaDoorQMergePlaysac
set_option linter.unusedVariables false
set_option linter.unusedSimpArgs false
/- Contracts and lemmas for the proofs of this seat; each theorem states its own conditions. -/
namespace Go.Proofs.YtddghaoejnbkaaaDoor
open Go.RowKit
theorem key_any (s : ByteArray) (w : World) (hs : s.size ≤ 9223372036854775807) : Calls Tryd.prog 42 #[.string s] w fun e w' => e = .returned (.bool (keyB s)) ∧ w = w' := by
  by_cases h1 : s.toList = []
  · have h1' : s.toList.isEmpty = true := by simpa using h1
    go_enter Tryd.func42, Tryd.ntmps42
    go_wp2
    go_ret
    exact ⟨rB (key_false1 h1).symm, rfl⟩
  have h1' : s.toList.isEmpty = false := by simpa using h1
  by_cases h2 : 6 < (s.size : Int)
  · have h2' : decide (6 < (s.size : Int)) = true := by simpa using h2
    go_enter Tryd.func42, Tryd.ntmps42
    go_wp2
    go_ret
    exact ⟨rB (key_false2 h2).symm, rfl⟩
  have h2' : decide (6 < (s.size : Int)) = false := by simpa using h2
  go_enter Tryd.func42, Tryd.ntmps42
  go_wp2
  go_loop [2, 3, 13] (fun r _ i => ∃ k : Nat, k ≤ s.size ∧ i = .int .i64 k ∧ r = .bool false ∧ letTo s k) (fun _ _ i => s.size - (intOf i).toNat)
  case atStart => exact ⟨0, Nat.zero_le _, rfl, rfl, letTo_zero s⟩
  case round =>
    obtain ⟨k, hk, rfl, rfl, hall⟩ := hrel
    by_cases hlt : k < s.size
    · go_wp2
      all_goals first
        | (go_ret; exact ⟨rB (key_false3 k hlt (by omega)).symm, rfl⟩)
        | (go_round
           case rel => exact ⟨k + 1, by omega, by go_num, rfl, letTo_step hall hlt (by omega) (by omega)⟩
           case measure => simp [intOf]; omega)
    · go_wp2
      go_ret
      obtain rfl : k = s.size := by omega
      exact ⟨rB (key_true h1 (by omega) hall).symm, rfl⟩
end Go.Proofs.YtddghaoejnbkaaaDoor

/- Contracts and lemmas for the proofs of this seat; each theorem states its own conditions. -/
namespace Go.Proofs.YtddghaoejnbkaaaDoor
open Go.RowKit
end Go.Proofs.YtddghaoejnbkaaaDoor

/- Contracts and lemmas for the proofs of this seat; each theorem states its own conditions. -/
namespace Go.Proofs.YtddghaoejnbkaaaDoor
open Go.RowKit

theorem info_Str : (Tryd.prog.info? 9).map (fun i => (i.zero, i.size, i.bytes)) = some (some (.string ⟨#[]⟩), 1, 16) := by kernel_rfl
set_option maxRecDepth 10000 in
theorem clone_Str (v : Value) (n : Nat) (xs : List Value) (w : World) (hv : Seg w v 1 n xs) (h1 : ∀ u ∈ xs, u.oneCell' = true) (hb : n * 16 ≤ 140737488355328) :
    Calls Tryd.prog 48 #[v] w fun e w' => ∃ a' c', e = .returned (.slice a' n c') ∧ w'.ownsRow w.heap.size 9 1 (.slice a' n c') n xs ∧ Ext w w' := by
  have hv' := hv
  have hq := fun (w : World) (a : Option Addr) (l c : Nat) => Lib.run_eql_slice_nil (P := Tryd.prog) w 37 9 a l c 0 0 Tryd.underlying37
  obtain ⟨h0, a, cap, rfl, h2, h3, h4⟩ := hv
  cases a with
  | none =>
    obtain ⟨rfl, rfl⟩ := seg_none hv'
    go_enter Tryd.func48, Tryd.ntmps48
    go_wp2
    go_ret
    exact ⟨none, 0, rfl, World.ownsRow_nil _ _ _ _, Ext.refl _⟩
  | some ad =>
    go_enter Tryd.func48, Tryd.ntmps48
    go_wp2_with (first | (at_builtin; refine wpList_app rfl (.tmp 5) (.tmp 6) 37 rfl w.heap.size 9 (.string ⟨#[]⟩) 1 16 Tryd.underlying37 info_Str rfl (by decide) _ 0 [] rfl ?c1 _ n xs rfl ?c2 h1 ?c3 ?c4 ?c5 ?_))
    case c1 => exact World.ownsRow_lit _ _ _ (Nat.le_refl _) (by decide) rfl
    case c2 => exact hv'.ext ((Ext.refl _).alloc _)
    case c3 => simpa using hb
    case c4 => have := h3; omega
    case c5 => simp
    intro v' w1 ho hg
    obtain ⟨a', c', rfl⟩ := own_form ho
    go_wp2
    go_ret
    exact ⟨a', c', rfl, ho, Ext.grown ((Ext.refl _).alloc _) hg (by simp [Value.ownBlock])⟩

theorem info_Int : (Tryd.prog.info? 3).map (fun i => (i.zero, i.size, i.bytes)) = some (some (.int .i64 0), 1, 8) := by kernel_rfl
set_option maxRecDepth 10000 in
theorem clone_Int (v : Value) (n : Nat) (xs : List Value) (w : World) (hv : Seg w v 1 n xs) (h1 : ∀ u ∈ xs, u.oneCell' = true) (hb : n * 8 ≤ 140737488355328) :
    Calls Tryd.prog 49 #[v] w fun e w' => ∃ a' c', e = .returned (.slice a' n c') ∧ w'.ownsRow w.heap.size 3 1 (.slice a' n c') n xs ∧ Ext w w' := by
  have hv' := hv
  have hq := fun (w : World) (a : Option Addr) (l c : Nat) => Lib.run_eql_slice_nil (P := Tryd.prog) w 29 3 a l c 0 0 Tryd.underlying29
  obtain ⟨h0, a, cap, rfl, h2, h3, h4⟩ := hv
  cases a with
  | none =>
    obtain ⟨rfl, rfl⟩ := seg_none hv'
    go_enter Tryd.func49, Tryd.ntmps49
    go_wp2
    go_ret
    exact ⟨none, 0, rfl, World.ownsRow_nil _ _ _ _, Ext.refl _⟩
  | some ad =>
    go_enter Tryd.func49, Tryd.ntmps49
    go_wp2_with (first | (at_builtin; refine wpList_app rfl (.tmp 5) (.tmp 6) 29 rfl w.heap.size 3 (.int .i64 0) 1 8 Tryd.underlying29 info_Int rfl (by decide) _ 0 [] rfl ?c1 _ n xs rfl ?c2 h1 ?c3 ?c4 ?c5 ?_))
    case c1 => exact World.ownsRow_lit _ _ _ (Nat.le_refl _) (by decide) rfl
    case c2 => exact hv'.ext ((Ext.refl _).alloc _)
    case c3 => simpa using hb
    case c4 => have := h3; omega
    case c5 => simp
    intro v' w1 ho hg
    obtain ⟨a', c', rfl⟩ := own_form ho
    go_wp2
    go_ret
    exact ⟨a', c', rfl, ho, Ext.grown ((Ext.refl _).alloc _) hg (by simp [Value.ownBlock])⟩

theorem info_Op : (Tryd.prog.info? 71).map (fun i => (i.zero, i.size, i.bytes)) = some (some (.agg #[.int .i64 0, .string ⟨#[]⟩, .string ⟨#[]⟩, .int .i64 0]), 4, 48) := by kernel_rfl
set_option maxRecDepth 10000 in
theorem clone_Op (v : Value) (n : Nat) (xs : List Value) (w : World) (hv : Seg w v 4 n xs) (h1 : ∀ u ∈ xs, u.oneCell' = true) (hb : n * 48 ≤ 140737488355328) :
    Calls Tryd.prog 38 #[v] w fun e w' => ∃ a' c', e = .returned (.slice a' n c') ∧ w'.ownsRow w.heap.size 71 4 (.slice a' n c') n xs ∧ Ext w w' := by
  have hv' := hv
  have hq := fun (w : World) (a : Option Addr) (l c : Nat) => Lib.run_eql_slice_nil (P := Tryd.prog) w 34 71 a l c 0 0 Tryd.underlying34
  obtain ⟨h0, a, cap, rfl, h2, h3, h4⟩ := hv
  cases a with
  | none =>
    obtain ⟨rfl, rfl⟩ := seg_none hv'
    go_enter Tryd.func38, Tryd.ntmps38
    go_wp2
    go_ret
    exact ⟨none, 0, rfl, World.ownsRow_nil _ _ _ _, Ext.refl _⟩
  | some ad =>
    go_enter Tryd.func38, Tryd.ntmps38
    go_wp2_with (first | (at_builtin; refine wpList_app rfl (.tmp 5) (.tmp 6) 34 rfl w.heap.size 71 (.agg #[.int .i64 0, .string ⟨#[]⟩, .string ⟨#[]⟩, .int .i64 0]) 4 48 Tryd.underlying34 info_Op rfl (by decide) _ 0 [] rfl ?c1 _ n xs rfl ?c2 h1 ?c3 ?c4 ?c5 ?_))
    case c1 => exact World.ownsRow_lit _ _ _ (Nat.le_refl _) (by decide) rfl
    case c2 => exact hv'.ext ((Ext.refl _).alloc _)
    case c3 => simpa using hb
    case c4 => have := h3; omega
    case c5 => simp
    intro v' w1 ho hg
    obtain ⟨a', c', rfl⟩ := own_form ho
    go_wp2
    go_ret
    exact ⟨a', c', rfl, ho, Ext.grown ((Ext.refl _).alloc _) hg (by simp [Value.ownBlock])⟩
end Go.Proofs.YtddghaoejnbkaaaDoor
