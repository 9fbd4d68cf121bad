/- Contracts and lemmas for the proof of TopInputs; each theorem states its own conditions. -/
import Derived.Test.YtnepdfpooobmcaaGreatProg
import Derived.Test.YtnepdfpooobmcaaGreatQTopInputsab
import Derived.WalkSpells
import Derived.WalkLawsBesides
import Derived.Deep.QuietTactic
import Derived.BigQuiet
set_option linter.unusedVariables false
set_option linter.unusedSimpArgs false
/- Contracts and lemmas for the proofs of this seat; each theorem states its own conditions. -/
namespace Go.Proofs.YtnepdfpooobmcaaGreat
open Go.RowKit
theorem less_any (a b : ByteArray) (w : World) : Calls Tryz.prog 124 #[.string a, .string b] w fun e w' => e = .returned (.bool (blt a b)) ∧ w = w' := by
  go_enter Tryz.func124, Tryz.ntmps124
  go_wp2
  go_ret
  exact ⟨rfl, rfl⟩
theorem key_any (s : ByteArray) (w : World) (hs : s.size ≤ 9223372036854775807) : Calls Tryz.prog 66 #[.string s] w fun e w' => e = .returned (.bool (keyB s)) ∧ w = w' := by
  by_cases h1 : s.toList = []
  · have h1' : s.toList.isEmpty = true := by simpa using h1
    go_enter Tryz.func66, Tryz.ntmps66
    go_wp2
    go_ret
    exact ⟨rB (key_false1 h1).symm, rfl⟩
  have h1' : s.toList.isEmpty = false := by simpa using h1
  by_cases h2 : 6 < (s.size : Int)
  · have h2' : decide (6 < (s.size : Int)) = true := by simpa using h2
    go_enter Tryz.func66, Tryz.ntmps66
    go_wp2
    go_ret
    exact ⟨rB (key_false2 h2).symm, rfl⟩
  have h2' : decide (6 < (s.size : Int)) = false := by simpa using h2
  go_enter Tryz.func66, Tryz.ntmps66
  go_wp2
  go_loop [2, 3, 13] (fun r _ i => ∃ k : Nat, k ≤ s.size ∧ i = .int .i64 k ∧ r = .bool false ∧ letTo s k) (fun _ _ i => s.size - (intOf i).toNat)
  case atStart => exact ⟨0, Nat.zero_le _, rfl, rfl, letTo_zero s⟩
  case round =>
    obtain ⟨k, hk, rfl, rfl, hall⟩ := hrel
    by_cases hlt : k < s.size
    · go_wp2
      all_goals first
        | (go_ret; exact ⟨rB (key_false3 k hlt (by omega)).symm, rfl⟩)
        | (go_round
           case rel => exact ⟨k + 1, by omega, by go_num, rfl, letTo_step hall hlt (by omega) (by omega)⟩
           case measure => simp [intOf]; omega)
    · go_wp2
      go_ret
      obtain rfl : k = s.size := by omega
      exact ⟨rB (key_true h1 (by omega) hall).symm, rfl⟩
end Go.Proofs.YtnepdfpooobmcaaGreat

/- Contracts and lemmas for the proofs of this seat; each theorem states its own conditions. -/
namespace Go.Proofs.YtnepdfpooobmcaaGreat
open Go.RowKit
set_option maxRecDepth 10000 in
theorem bsearch_any (v : Value) (ks : List ByteArray) (t : ByteArray) (w : World) (hv : Seg w v 1 ks.length (cS ks)) (hd : dropsB (bltAt ks t) ks.length) (hn : ks.length < 1000000000) :
    Calls Tryz.prog 105 #[v, .string t] w fun e w' => ∃ i : Nat, cutAt (bltAt ks t) ks.length i ∧ e = .returned (.tuple #[.int .i64 i, .bool (hitS ks t i)]) ∧ w = w' := by
  obtain ⟨h0, a, cap, rfl, h1, h2, h3⟩ := hv
  unfold maxLen at h2
  go_enter Tryz.func105, Tryz.ntmps105
  go_wp2
  go_loop [7, 8, 9] (fun x y _ => ∃ i j : Nat, x = .int .i64 i ∧ y = .int .i64 j ∧ bsInv (bltAt ks t) ks.length i j) (fun x y _ => (intOf y).toNat - (intOf x).toNat)
  case atStart => exact ⟨0, ks.length, rfl, rfl, bsInv_start _ _⟩
  case round =>
    obtain ⟨i, j, rfl, rfl, hinv⟩ := hrel
    have hij := hinv.1
    have hjn := hinv.2.1
    by_cases hlt : i < j
    · obtain ⟨b, off, rfl, hc⟩ := h3 (by omega)
      have c1 := hc _ _ (cS_at0 ks ((i + j) / 2) (by omega))
      clear hc h3
      have he := bltAt_eq (ks := ks) (t := t) (i := (i + j) / 2) (by omega)
      cases hb : blt (ks[(i + j) / 2]'(by omega)) t with
      | true =>
        have hs := bsInv_up hd hinv hlt (by rw [he, hb])
        clear he
        go_wp2_with fail
        refine (less_any _ _ _).mono ?_
        rintro e w' ⟨rfl, rfl⟩
        go_wp2
        go_round
        case rel => exact ⟨(i + j) / 2 + 1, j, by go_num, rfl, hs⟩
        case measure => simp [intOf]; omega
      | false =>
        have hs := bsInv_down hd hinv hlt (by rw [he, hb])
        clear he
        go_wp2_with fail
        refine (less_any _ _ _).mono ?_
        rintro e w' ⟨rfl, rfl⟩
        go_wp2
        go_round
        case rel => exact ⟨i, (i + j) / 2, rfl, by go_num, hs⟩
        case measure => simp [intOf]; omega
    · obtain rfl : i = j := by omega
      by_cases hin : i < ks.length
      · obtain ⟨b, off, rfl, hc⟩ := h3 (by omega)
        have c1 := hc _ _ (cS_at0 ks i hin)
        clear hc h3
        have he := hitS_eq (ks := ks) (t := t) hin
        cases hb : ks[i].toList == t.toList with
        | true =>
          go_wp2
          go_ret2
          exact ⟨i, bsInv_end hinv, rT2 rfl (vB (he.trans hb).symm), rfl⟩
        | false =>
          go_wp2
          go_ret2
          exact ⟨i, bsInv_end hinv, rT2 rfl (vB (he.trans hb).symm), rfl⟩
      · go_wp2
        go_ret2
        exact ⟨i, bsInv_end hinv, rT2 rfl (vB (hitS_out hin).symm), rfl⟩
end Go.Proofs.YtnepdfpooobmcaaGreat

/- Contracts and lemmas for the proofs of this seat; each theorem states its own conditions. -/
namespace Go.Proofs.YtnepdfpooobmcaaGreat
open Go.RowKit

theorem info_Str : (Tryz.prog.info? 9).map (fun i => (i.zero, i.size, i.bytes)) = some (some (.string ⟨#[]⟩), 1, 16) := by kernel_rfl
set_option maxRecDepth 10000 in
theorem clone_Str (v : Value) (n : Nat) (xs : List Value) (w : World) (hv : Seg w v 1 n xs) (h1 : ∀ u ∈ xs, u.oneCell' = true) (hb : n * 16 ≤ 140737488355328) :
    Calls Tryz.prog 42 #[v] w fun e w' => ∃ a' c', e = .returned (.slice a' n c') ∧ w'.ownsRow w.heap.size 9 1 (.slice a' n c') n xs ∧ Ext w w' := by
  have hv' := hv
  have hq := fun (w : World) (a : Option Addr) (l c : Nat) => Lib.run_eql_slice_nil (P := Tryz.prog) w 31 9 a l c 0 0 Tryz.underlying31
  obtain ⟨h0, a, cap, rfl, h2, h3, h4⟩ := hv
  cases a with
  | none =>
    obtain ⟨rfl, rfl⟩ := seg_none hv'
    go_enter Tryz.func42, Tryz.ntmps42
    go_wp2
    go_ret
    exact ⟨none, 0, rfl, World.ownsRow_nil _ _ _ _, Ext.refl _⟩
  | some ad =>
    go_enter Tryz.func42, Tryz.ntmps42
    go_wp2_with (first | (at_builtin; refine wpList_app rfl (.tmp 5) (.tmp 6) 31 rfl w.heap.size 9 (.string ⟨#[]⟩) 1 16 Tryz.underlying31 info_Str rfl (by decide) _ 0 [] rfl ?c1 _ n xs rfl ?c2 h1 ?c3 ?c4 ?c5 ?_))
    case c1 => exact World.ownsRow_lit _ _ _ (Nat.le_refl _) (by decide) rfl
    case c2 => exact hv'.ext ((Ext.refl _).alloc _)
    case c3 => simpa using hb
    case c4 => have := h3; omega
    case c5 => simp
    intro v' w1 ho hg
    obtain ⟨a', c', rfl⟩ := own_form ho
    go_wp2
    go_ret
    exact ⟨a', c', rfl, ho, Ext.grown ((Ext.refl _).alloc _) hg (by simp [Value.ownBlock])⟩

theorem info_Int : (Tryz.prog.info? 3).map (fun i => (i.zero, i.size, i.bytes)) = some (some (.int .i64 0), 1, 8) := by kernel_rfl
set_option maxRecDepth 10000 in
theorem clone_Int (v : Value) (n : Nat) (xs : List Value) (w : World) (hv : Seg w v 1 n xs) (h1 : ∀ u ∈ xs, u.oneCell' = true) (hb : n * 8 ≤ 140737488355328) :
    Calls Tryz.prog 41 #[v] w fun e w' => ∃ a' c', e = .returned (.slice a' n c') ∧ w'.ownsRow w.heap.size 3 1 (.slice a' n c') n xs ∧ Ext w w' := by
  have hv' := hv
  have hq := fun (w : World) (a : Option Addr) (l c : Nat) => Lib.run_eql_slice_nil (P := Tryz.prog) w 22 3 a l c 0 0 Tryz.underlying22
  obtain ⟨h0, a, cap, rfl, h2, h3, h4⟩ := hv
  cases a with
  | none =>
    obtain ⟨rfl, rfl⟩ := seg_none hv'
    go_enter Tryz.func41, Tryz.ntmps41
    go_wp2
    go_ret
    exact ⟨none, 0, rfl, World.ownsRow_nil _ _ _ _, Ext.refl _⟩
  | some ad =>
    go_enter Tryz.func41, Tryz.ntmps41
    go_wp2_with (first | (at_builtin; refine wpList_app rfl (.tmp 5) (.tmp 6) 22 rfl w.heap.size 3 (.int .i64 0) 1 8 Tryz.underlying22 info_Int rfl (by decide) _ 0 [] rfl ?c1 _ n xs rfl ?c2 h1 ?c3 ?c4 ?c5 ?_))
    case c1 => exact World.ownsRow_lit _ _ _ (Nat.le_refl _) (by decide) rfl
    case c2 => exact hv'.ext ((Ext.refl _).alloc _)
    case c3 => simpa using hb
    case c4 => have := h3; omega
    case c5 => simp
    intro v' w1 ho hg
    obtain ⟨a', c', rfl⟩ := own_form ho
    go_wp2
    go_ret
    exact ⟨a', c', rfl, ho, Ext.grown ((Ext.refl _).alloc _) hg (by simp [Value.ownBlock])⟩

theorem info_Pair : (Tryz.prog.info? 60).map (fun i => (i.zero, i.size, i.bytes)) = some (some (.agg #[.string ⟨#[]⟩, .int .i64 0]), 2, 24) := by kernel_rfl
set_option maxRecDepth 10000 in
theorem clone_Pair (v : Value) (n : Nat) (xs : List Value) (w : World) (hv : Seg w v 2 n xs) (h1 : ∀ u ∈ xs, u.oneCell' = true) (hb : n * 24 ≤ 140737488355328) :
    Calls Tryz.prog 40 #[v] w fun e w' => ∃ a' c', e = .returned (.slice a' n c') ∧ w'.ownsRow w.heap.size 60 2 (.slice a' n c') n xs ∧ Ext w w' := by
  have hv' := hv
  have hq := fun (w : World) (a : Option Addr) (l c : Nat) => Lib.run_eql_slice_nil (P := Tryz.prog) w 35 60 a l c 0 0 Tryz.underlying35
  obtain ⟨h0, a, cap, rfl, h2, h3, h4⟩ := hv
  cases a with
  | none =>
    obtain ⟨rfl, rfl⟩ := seg_none hv'
    go_enter Tryz.func40, Tryz.ntmps40
    go_wp2
    go_ret
    exact ⟨none, 0, rfl, World.ownsRow_nil _ _ _ _, Ext.refl _⟩
  | some ad =>
    go_enter Tryz.func40, Tryz.ntmps40
    go_wp2_with (first | (at_builtin; refine wpList_app rfl (.tmp 5) (.tmp 6) 35 rfl w.heap.size 60 (.agg #[.string ⟨#[]⟩, .int .i64 0]) 2 24 Tryz.underlying35 info_Pair rfl (by decide) _ 0 [] rfl ?c1 _ n xs rfl ?c2 h1 ?c3 ?c4 ?c5 ?_))
    case c1 => exact World.ownsRow_lit _ _ _ (Nat.le_refl _) (by decide) rfl
    case c2 => exact hv'.ext ((Ext.refl _).alloc _)
    case c3 => simpa using hb
    case c4 => have := h3; omega
    case c5 => simp
    intro v' w1 ho hg
    obtain ⟨a', c', rfl⟩ := own_form ho
    go_wp2
    go_ret
    exact ⟨a', c', rfl, ho, Ext.grown ((Ext.refl _).alloc _) hg (by simp [Value.ownBlock])⟩

theorem info_Op : (Tryz.prog.info? 69).map (fun i => (i.zero, i.size, i.bytes)) = some (some (.agg #[.int .i64 0, .string ⟨#[]⟩, .string ⟨#[]⟩, .int .i64 0]), 4, 48) := by kernel_rfl
set_option maxRecDepth 10000 in
theorem clone_Op (v : Value) (n : Nat) (xs : List Value) (w : World) (hv : Seg w v 4 n xs) (h1 : ∀ u ∈ xs, u.oneCell' = true) (hb : n * 48 ≤ 140737488355328) :
    Calls Tryz.prog 114 #[v] w fun e w' => ∃ a' c', e = .returned (.slice a' n c') ∧ w'.ownsRow w.heap.size 69 4 (.slice a' n c') n xs ∧ Ext w w' := by
  have hv' := hv
  have hq := fun (w : World) (a : Option Addr) (l c : Nat) => Lib.run_eql_slice_nil (P := Tryz.prog) w 37 69 a l c 0 0 Tryz.underlying37
  obtain ⟨h0, a, cap, rfl, h2, h3, h4⟩ := hv
  cases a with
  | none =>
    obtain ⟨rfl, rfl⟩ := seg_none hv'
    go_enter Tryz.func114, Tryz.ntmps114
    go_wp2
    go_ret
    exact ⟨none, 0, rfl, World.ownsRow_nil _ _ _ _, Ext.refl _⟩
  | some ad =>
    go_enter Tryz.func114, Tryz.ntmps114
    go_wp2_with (first | (at_builtin; refine wpList_app rfl (.tmp 5) (.tmp 6) 37 rfl w.heap.size 69 (.agg #[.int .i64 0, .string ⟨#[]⟩, .string ⟨#[]⟩, .int .i64 0]) 4 48 Tryz.underlying37 info_Op rfl (by decide) _ 0 [] rfl ?c1 _ n xs rfl ?c2 h1 ?c3 ?c4 ?c5 ?_))
    case c1 => exact World.ownsRow_lit _ _ _ (Nat.le_refl _) (by decide) rfl
    case c2 => exact hv'.ext ((Ext.refl _).alloc _)
    case c3 => simpa using hb
    case c4 => have := h3; omega
    case c5 => simp
    intro v' w1 ho hg
    obtain ⟨a', c', rfl⟩ := own_form ho
    go_wp2
    go_ret
    exact ⟨a', c', rfl, ho, Ext.grown ((Ext.refl _).alloc _) hg (by simp [Value.ownBlock])⟩
end Go.Proofs.YtnepdfpooobmcaaGreat
