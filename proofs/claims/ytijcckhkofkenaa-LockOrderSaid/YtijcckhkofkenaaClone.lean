/- Contracts and lemmas for the proofs of this seat; each theorem states its own conditions. -/
import Derived.Test.YtijcckhkofkenaaProg
import Derived.Test.YtijcckhkofkenaaStr
import Derived.WalkSpells
import Derived.WalkLawsBesides
namespace Go.Proofs.Ytijcckhkofkenaa
open Go.RowKit

theorem info_Str : (Try.prog.info? 9).map (fun i => (i.zero, i.size, i.bytes)) = some (some (.string ⟨#[]⟩), 1, 16) := by kernel_rfl
set_option maxRecDepth 10000 in
theorem clone_Str (v : Value) (n : Nat) (xs : List Value) (w : World) (hv : Seg w v 1 n xs) (h1 : ∀ u ∈ xs, u.oneCell' = true) (hb : n * 16 ≤ 140737488355328) :
    Calls Try.prog 110 #[v] w fun e w' => ∃ a' c', e = .returned (.slice a' n c') ∧ w'.ownsRow w.heap.size 9 1 (.slice a' n c') n xs ∧ Ext w w' := by
  have hv' := hv
  have hq := fun (w : World) (a : Option Addr) (l c : Nat) => Lib.run_eql_slice_nil (P := Try.prog) w 24 9 a l c 0 0 Try.underlying24
  obtain ⟨h0, a, cap, rfl, h2, h3, h4⟩ := hv
  cases a with
  | none =>
    obtain ⟨rfl, rfl⟩ := seg_none hv'
    go_enter Try.func110, Try.ntmps110
    go_wp2
    go_ret
    exact ⟨none, 0, rfl, World.ownsRow_nil _ _ _ _, Ext.refl _⟩
  | some ad =>
    go_enter Try.func110, Try.ntmps110
    go_wp2_with (first | (at_builtin; refine wpList_app rfl (.tmp 5) (.tmp 6) 24 rfl w.heap.size 9 (.string ⟨#[]⟩) 1 16 Try.underlying24 info_Str rfl (by decide) _ 0 [] rfl ?c1 _ n xs rfl ?c2 h1 ?c3 ?c4 ?c5 ?_))
    case c1 => exact World.ownsRow_lit _ _ _ (Nat.le_refl _) (by decide) rfl
    case c2 => exact hv'.ext ((Ext.refl _).alloc _)
    case c3 => simpa using hb
    case c4 => have := h3; omega
    case c5 => simp
    intro v' w1 ho hg
    obtain ⟨a', c', rfl⟩ := own_form ho
    go_wp2
    go_ret
    exact ⟨a', c', rfl, ho, Ext.grown ((Ext.refl _).alloc _) hg (by simp [Value.ownBlock])⟩

theorem info_Int : (Try.prog.info? 3).map (fun i => (i.zero, i.size, i.bytes)) = some (some (.int .i64 0), 1, 8) := by kernel_rfl
set_option maxRecDepth 10000 in
theorem clone_Int (v : Value) (n : Nat) (xs : List Value) (w : World) (hv : Seg w v 1 n xs) (h1 : ∀ u ∈ xs, u.oneCell' = true) (hb : n * 8 ≤ 140737488355328) :
    Calls Try.prog 111 #[v] w fun e w' => ∃ a' c', e = .returned (.slice a' n c') ∧ w'.ownsRow w.heap.size 3 1 (.slice a' n c') n xs ∧ Ext w w' := by
  have hv' := hv
  have hq := fun (w : World) (a : Option Addr) (l c : Nat) => Lib.run_eql_slice_nil (P := Try.prog) w 22 3 a l c 0 0 Try.underlying22
  obtain ⟨h0, a, cap, rfl, h2, h3, h4⟩ := hv
  cases a with
  | none =>
    obtain ⟨rfl, rfl⟩ := seg_none hv'
    go_enter Try.func111, Try.ntmps111
    go_wp2
    go_ret
    exact ⟨none, 0, rfl, World.ownsRow_nil _ _ _ _, Ext.refl _⟩
  | some ad =>
    go_enter Try.func111, Try.ntmps111
    go_wp2_with (first | (at_builtin; refine wpList_app rfl (.tmp 5) (.tmp 6) 22 rfl w.heap.size 3 (.int .i64 0) 1 8 Try.underlying22 info_Int rfl (by decide) _ 0 [] rfl ?c1 _ n xs rfl ?c2 h1 ?c3 ?c4 ?c5 ?_))
    case c1 => exact World.ownsRow_lit _ _ _ (Nat.le_refl _) (by decide) rfl
    case c2 => exact hv'.ext ((Ext.refl _).alloc _)
    case c3 => simpa using hb
    case c4 => have := h3; omega
    case c5 => simp
    intro v' w1 ho hg
    obtain ⟨a', c', rfl⟩ := own_form ho
    go_wp2
    go_ret
    exact ⟨a', c', rfl, ho, Ext.grown ((Ext.refl _).alloc _) hg (by simp [Value.ownBlock])⟩

theorem info_Pair : (Try.prog.info? 90).map (fun i => (i.zero, i.size, i.bytes)) = some (some (.agg #[.string ⟨#[]⟩, .int .i64 0]), 2, 24) := by kernel_rfl
set_option maxRecDepth 10000 in
theorem clone_Pair (v : Value) (n : Nat) (xs : List Value) (w : World) (hv : Seg w v 2 n xs) (h1 : ∀ u ∈ xs, u.oneCell' = true) (hb : n * 24 ≤ 140737488355328) :
    Calls Try.prog 101 #[v] w fun e w' => ∃ a' c', e = .returned (.slice a' n c') ∧ w'.ownsRow w.heap.size 90 2 (.slice a' n c') n xs ∧ Ext w w' := by
  have hv' := hv
  have hq := fun (w : World) (a : Option Addr) (l c : Nat) => Lib.run_eql_slice_nil (P := Try.prog) w 82 90 a l c 0 0 Try.underlying82
  obtain ⟨h0, a, cap, rfl, h2, h3, h4⟩ := hv
  cases a with
  | none =>
    obtain ⟨rfl, rfl⟩ := seg_none hv'
    go_enter Try.func101, Try.ntmps101
    go_wp2
    go_ret
    exact ⟨none, 0, rfl, World.ownsRow_nil _ _ _ _, Ext.refl _⟩
  | some ad =>
    go_enter Try.func101, Try.ntmps101
    go_wp2_with (first | (at_builtin; refine wpList_app rfl (.tmp 5) (.tmp 6) 82 rfl w.heap.size 90 (.agg #[.string ⟨#[]⟩, .int .i64 0]) 2 24 Try.underlying82 info_Pair rfl (by decide) _ 0 [] rfl ?c1 _ n xs rfl ?c2 h1 ?c3 ?c4 ?c5 ?_))
    case c1 => exact World.ownsRow_lit _ _ _ (Nat.le_refl _) (by decide) rfl
    case c2 => exact hv'.ext ((Ext.refl _).alloc _)
    case c3 => simpa using hb
    case c4 => have := h3; omega
    case c5 => simp
    intro v' w1 ho hg
    obtain ⟨a', c', rfl⟩ := own_form ho
    go_wp2
    go_ret
    exact ⟨a', c', rfl, ho, Ext.grown ((Ext.refl _).alloc _) hg (by simp [Value.ownBlock])⟩

theorem info_Op : (Try.prog.info? 79).map (fun i => (i.zero, i.size, i.bytes)) = some (some (.agg #[.int .i64 0, .string ⟨#[]⟩, .string ⟨#[]⟩, .int .i64 0]), 4, 48) := by kernel_rfl
set_option maxRecDepth 10000 in
theorem clone_Op (v : Value) (n : Nat) (xs : List Value) (w : World) (hv : Seg w v 4 n xs) (h1 : ∀ u ∈ xs, u.oneCell' = true) (hb : n * 48 ≤ 140737488355328) :
    Calls Try.prog 112 #[v] w fun e w' => ∃ a' c', e = .returned (.slice a' n c') ∧ w'.ownsRow w.heap.size 79 4 (.slice a' n c') n xs ∧ Ext w w' := by
  have hv' := hv
  have hq := fun (w : World) (a : Option Addr) (l c : Nat) => Lib.run_eql_slice_nil (P := Try.prog) w 50 79 a l c 0 0 Try.underlying50
  obtain ⟨h0, a, cap, rfl, h2, h3, h4⟩ := hv
  cases a with
  | none =>
    obtain ⟨rfl, rfl⟩ := seg_none hv'
    go_enter Try.func112, Try.ntmps112
    go_wp2
    go_ret
    exact ⟨none, 0, rfl, World.ownsRow_nil _ _ _ _, Ext.refl _⟩
  | some ad =>
    go_enter Try.func112, Try.ntmps112
    go_wp2_with (first | (at_builtin; refine wpList_app rfl (.tmp 5) (.tmp 6) 50 rfl w.heap.size 79 (.agg #[.int .i64 0, .string ⟨#[]⟩, .string ⟨#[]⟩, .int .i64 0]) 4 48 Try.underlying50 info_Op rfl (by decide) _ 0 [] rfl ?c1 _ n xs rfl ?c2 h1 ?c3 ?c4 ?c5 ?_))
    case c1 => exact World.ownsRow_lit _ _ _ (Nat.le_refl _) (by decide) rfl
    case c2 => exact hv'.ext ((Ext.refl _).alloc _)
    case c3 => simpa using hb
    case c4 => have := h3; omega
    case c5 => simp
    intro v' w1 ho hg
    obtain ⟨a', c', rfl⟩ := own_form ho
    go_wp2
    go_ret
    exact ⟨a', c', rfl, ho, Ext.grown ((Ext.refl _).alloc _) hg (by simp [Value.ownBlock])⟩
end Go.Proofs.Ytijcckhkofkenaa
