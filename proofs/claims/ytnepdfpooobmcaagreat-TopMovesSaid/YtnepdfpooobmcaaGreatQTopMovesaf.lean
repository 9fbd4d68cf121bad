/- Contracts and lemmas for the proof of TopMoves; each theorem states its own conditions. -/
import Derived.Test.YtnepdfpooobmcaaGreatProg
import Derived.Test.YtnepdfpooobmcaaGreatQTopMovesab
import Derived.WalkSpells
import Derived.WalkLawsBesides
import Derived.Deep.QuietTactic
import Derived.BigQuiet
import Derived.Deep.RegionHeld3
import Derived.Test.YtnepdfpooobmcaaGreatQTopMovesac
set_option linter.unusedVariables false
set_option linter.unusedSimpArgs false
/- Contracts and lemmas for the proofs of this seat; each theorem states its own conditions. -/
namespace Go.Proofs.YtnepdfpooobmcaaGreat
open Go.RowKit
theorem less_any (a b : ByteArray) (w : World) : Calls Tryz.prog 124 #[.string a, .string b] w fun e w' => e = .returned (.bool (blt a b)) ∧ w = w' := by
  go_enter Tryz.func124, Tryz.ntmps124
  go_wp2
  go_ret
  exact ⟨rfl, rfl⟩
theorem key_any (s : ByteArray) (w : World) (hs : s.size ≤ 9223372036854775807) : Calls Tryz.prog 66 #[.string s] w fun e w' => e = .returned (.bool (keyB s)) ∧ w = w' := by
  by_cases h1 : s.toList = []
  · have h1' : s.toList.isEmpty = true := by simpa using h1
    go_enter Tryz.func66, Tryz.ntmps66
    go_wp2
    go_ret
    exact ⟨rB (key_false1 h1).symm, rfl⟩
  have h1' : s.toList.isEmpty = false := by simpa using h1
  by_cases h2 : 6 < (s.size : Int)
  · have h2' : decide (6 < (s.size : Int)) = true := by simpa using h2
    go_enter Tryz.func66, Tryz.ntmps66
    go_wp2
    go_ret
    exact ⟨rB (key_false2 h2).symm, rfl⟩
  have h2' : decide (6 < (s.size : Int)) = false := by simpa using h2
  go_enter Tryz.func66, Tryz.ntmps66
  go_wp2
  go_loop [2, 3, 13] (fun r _ i => ∃ k : Nat, k ≤ s.size ∧ i = .int .i64 k ∧ r = .bool false ∧ letTo s k) (fun _ _ i => s.size - (intOf i).toNat)
  case atStart => exact ⟨0, Nat.zero_le _, rfl, rfl, letTo_zero s⟩
  case round =>
    obtain ⟨k, hk, rfl, rfl, hall⟩ := hrel
    by_cases hlt : k < s.size
    · go_wp2
      all_goals first
        | (go_ret; exact ⟨rB (key_false3 k hlt (by omega)).symm, rfl⟩)
        | (go_round
           case rel => exact ⟨k + 1, by omega, by go_num, rfl, letTo_step hall hlt (by omega) (by omega)⟩
           case measure => simp [intOf]; omega)
    · go_wp2
      go_ret
      obtain rfl : k = s.size := by omega
      exact ⟨rB (key_true h1 (by omega) hall).symm, rfl⟩
end Go.Proofs.YtnepdfpooobmcaaGreat

/- Contracts and lemmas for the proofs of this seat; each theorem states its own conditions. -/
namespace Go.Proofs.YtnepdfpooobmcaaGreat
open Go.RowKit
set_option maxRecDepth 10000 in
theorem bsearch_any (v : Value) (ks : List ByteArray) (t : ByteArray) (w : World) (hv : Seg w v 1 ks.length (cS ks)) (hd : dropsB (bltAt ks t) ks.length) (hn : ks.length < 1000000000) :
    Calls Tryz.prog 105 #[v, .string t] w fun e w' => ∃ i : Nat, cutAt (bltAt ks t) ks.length i ∧ e = .returned (.tuple #[.int .i64 i, .bool (hitS ks t i)]) ∧ w = w' := by
  obtain ⟨h0, a, cap, rfl, h1, h2, h3⟩ := hv
  unfold maxLen at h2
  go_enter Tryz.func105, Tryz.ntmps105
  go_wp2
  go_loop [7, 8, 9] (fun x y _ => ∃ i j : Nat, x = .int .i64 i ∧ y = .int .i64 j ∧ bsInv (bltAt ks t) ks.length i j) (fun x y _ => (intOf y).toNat - (intOf x).toNat)
  case atStart => exact ⟨0, ks.length, rfl, rfl, bsInv_start _ _⟩
  case round =>
    obtain ⟨i, j, rfl, rfl, hinv⟩ := hrel
    have hij := hinv.1
    have hjn := hinv.2.1
    by_cases hlt : i < j
    · obtain ⟨b, off, rfl, hc⟩ := h3 (by omega)
      have c1 := hc _ _ (cS_at0 ks ((i + j) / 2) (by omega))
      clear hc h3
      have he := bltAt_eq (ks := ks) (t := t) (i := (i + j) / 2) (by omega)
      cases hb : blt (ks[(i + j) / 2]'(by omega)) t with
      | true =>
        have hs := bsInv_up hd hinv hlt (by rw [he, hb])
        clear he
        go_wp2_with fail
        refine (less_any _ _ _).mono ?_
        rintro e w' ⟨rfl, rfl⟩
        go_wp2
        go_round
        case rel => exact ⟨(i + j) / 2 + 1, j, by go_num, rfl, hs⟩
        case measure => simp [intOf]; omega
      | false =>
        have hs := bsInv_down hd hinv hlt (by rw [he, hb])
        clear he
        go_wp2_with fail
        refine (less_any _ _ _).mono ?_
        rintro e w' ⟨rfl, rfl⟩
        go_wp2
        go_round
        case rel => exact ⟨i, (i + j) / 2, rfl, by go_num, hs⟩
        case measure => simp [intOf]; omega
    · obtain rfl : i = j := by omega
      by_cases hin : i < ks.length
      · obtain ⟨b, off, rfl, hc⟩ := h3 (by omega)
        have c1 := hc _ _ (cS_at0 ks i hin)
        clear hc h3
        have he := hitS_eq (ks := ks) (t := t) hin
        cases hb : ks[i].toList == t.toList with
        | true =>
          go_wp2
          go_ret2
          exact ⟨i, bsInv_end hinv, rT2 rfl (vB (he.trans hb).symm), rfl⟩
        | false =>
          go_wp2
          go_ret2
          exact ⟨i, bsInv_end hinv, rT2 rfl (vB (he.trans hb).symm), rfl⟩
      · go_wp2
        go_ret2
        exact ⟨i, bsInv_end hinv, rT2 rfl (vB (hitS_out hin).symm), rfl⟩
end Go.Proofs.YtnepdfpooobmcaaGreat

/- Contracts and lemmas for the proofs of this seat; each theorem states its own conditions. -/
namespace Go.Proofs.YtnepdfpooobmcaaGreat
open Go.RowKit

theorem info_Str : (Tryz.prog.info? 9).map (fun i => (i.zero, i.size, i.bytes)) = some (some (.string ⟨#[]⟩), 1, 16) := by kernel_rfl
set_option maxRecDepth 10000 in
theorem clone_Str (v : Value) (n : Nat) (xs : List Value) (w : World) (hv : Seg w v 1 n xs) (h1 : ∀ u ∈ xs, u.oneCell' = true) (hb : n * 16 ≤ 140737488355328) :
    Calls Tryz.prog 42 #[v] w fun e w' => ∃ a' c', e = .returned (.slice a' n c') ∧ w'.ownsRow w.heap.size 9 1 (.slice a' n c') n xs ∧ Ext w w' := by
  have hv' := hv
  have hq := fun (w : World) (a : Option Addr) (l c : Nat) => Lib.run_eql_slice_nil (P := Tryz.prog) w 31 9 a l c 0 0 Tryz.underlying31
  obtain ⟨h0, a, cap, rfl, h2, h3, h4⟩ := hv
  cases a with
  | none =>
    obtain ⟨rfl, rfl⟩ := seg_none hv'
    go_enter Tryz.func42, Tryz.ntmps42
    go_wp2
    go_ret
    exact ⟨none, 0, rfl, World.ownsRow_nil _ _ _ _, Ext.refl _⟩
  | some ad =>
    go_enter Tryz.func42, Tryz.ntmps42
    go_wp2_with (first | (at_builtin; refine wpList_app rfl (.tmp 5) (.tmp 6) 31 rfl w.heap.size 9 (.string ⟨#[]⟩) 1 16 Tryz.underlying31 info_Str rfl (by decide) _ 0 [] rfl ?c1 _ n xs rfl ?c2 h1 ?c3 ?c4 ?c5 ?_))
    case c1 => exact World.ownsRow_lit _ _ _ (Nat.le_refl _) (by decide) rfl
    case c2 => exact hv'.ext ((Ext.refl _).alloc _)
    case c3 => simpa using hb
    case c4 => have := h3; omega
    case c5 => simp
    intro v' w1 ho hg
    obtain ⟨a', c', rfl⟩ := own_form ho
    go_wp2
    go_ret
    exact ⟨a', c', rfl, ho, Ext.grown ((Ext.refl _).alloc _) hg (by simp [Value.ownBlock])⟩

theorem info_Int : (Tryz.prog.info? 3).map (fun i => (i.zero, i.size, i.bytes)) = some (some (.int .i64 0), 1, 8) := by kernel_rfl
set_option maxRecDepth 10000 in
theorem clone_Int (v : Value) (n : Nat) (xs : List Value) (w : World) (hv : Seg w v 1 n xs) (h1 : ∀ u ∈ xs, u.oneCell' = true) (hb : n * 8 ≤ 140737488355328) :
    Calls Tryz.prog 41 #[v] w fun e w' => ∃ a' c', e = .returned (.slice a' n c') ∧ w'.ownsRow w.heap.size 3 1 (.slice a' n c') n xs ∧ Ext w w' := by
  have hv' := hv
  have hq := fun (w : World) (a : Option Addr) (l c : Nat) => Lib.run_eql_slice_nil (P := Tryz.prog) w 22 3 a l c 0 0 Tryz.underlying22
  obtain ⟨h0, a, cap, rfl, h2, h3, h4⟩ := hv
  cases a with
  | none =>
    obtain ⟨rfl, rfl⟩ := seg_none hv'
    go_enter Tryz.func41, Tryz.ntmps41
    go_wp2
    go_ret
    exact ⟨none, 0, rfl, World.ownsRow_nil _ _ _ _, Ext.refl _⟩
  | some ad =>
    go_enter Tryz.func41, Tryz.ntmps41
    go_wp2_with (first | (at_builtin; refine wpList_app rfl (.tmp 5) (.tmp 6) 22 rfl w.heap.size 3 (.int .i64 0) 1 8 Tryz.underlying22 info_Int rfl (by decide) _ 0 [] rfl ?c1 _ n xs rfl ?c2 h1 ?c3 ?c4 ?c5 ?_))
    case c1 => exact World.ownsRow_lit _ _ _ (Nat.le_refl _) (by decide) rfl
    case c2 => exact hv'.ext ((Ext.refl _).alloc _)
    case c3 => simpa using hb
    case c4 => have := h3; omega
    case c5 => simp
    intro v' w1 ho hg
    obtain ⟨a', c', rfl⟩ := own_form ho
    go_wp2
    go_ret
    exact ⟨a', c', rfl, ho, Ext.grown ((Ext.refl _).alloc _) hg (by simp [Value.ownBlock])⟩

theorem info_Pair : (Tryz.prog.info? 60).map (fun i => (i.zero, i.size, i.bytes)) = some (some (.agg #[.string ⟨#[]⟩, .int .i64 0]), 2, 24) := by kernel_rfl
set_option maxRecDepth 10000 in
theorem clone_Pair (v : Value) (n : Nat) (xs : List Value) (w : World) (hv : Seg w v 2 n xs) (h1 : ∀ u ∈ xs, u.oneCell' = true) (hb : n * 24 ≤ 140737488355328) :
    Calls Tryz.prog 40 #[v] w fun e w' => ∃ a' c', e = .returned (.slice a' n c') ∧ w'.ownsRow w.heap.size 60 2 (.slice a' n c') n xs ∧ Ext w w' := by
  have hv' := hv
  have hq := fun (w : World) (a : Option Addr) (l c : Nat) => Lib.run_eql_slice_nil (P := Tryz.prog) w 35 60 a l c 0 0 Tryz.underlying35
  obtain ⟨h0, a, cap, rfl, h2, h3, h4⟩ := hv
  cases a with
  | none =>
    obtain ⟨rfl, rfl⟩ := seg_none hv'
    go_enter Tryz.func40, Tryz.ntmps40
    go_wp2
    go_ret
    exact ⟨none, 0, rfl, World.ownsRow_nil _ _ _ _, Ext.refl _⟩
  | some ad =>
    go_enter Tryz.func40, Tryz.ntmps40
    go_wp2_with (first | (at_builtin; refine wpList_app rfl (.tmp 5) (.tmp 6) 35 rfl w.heap.size 60 (.agg #[.string ⟨#[]⟩, .int .i64 0]) 2 24 Tryz.underlying35 info_Pair rfl (by decide) _ 0 [] rfl ?c1 _ n xs rfl ?c2 h1 ?c3 ?c4 ?c5 ?_))
    case c1 => exact World.ownsRow_lit _ _ _ (Nat.le_refl _) (by decide) rfl
    case c2 => exact hv'.ext ((Ext.refl _).alloc _)
    case c3 => simpa using hb
    case c4 => have := h3; omega
    case c5 => simp
    intro v' w1 ho hg
    obtain ⟨a', c', rfl⟩ := own_form ho
    go_wp2
    go_ret
    exact ⟨a', c', rfl, ho, Ext.grown ((Ext.refl _).alloc _) hg (by simp [Value.ownBlock])⟩

theorem info_Op : (Tryz.prog.info? 69).map (fun i => (i.zero, i.size, i.bytes)) = some (some (.agg #[.int .i64 0, .string ⟨#[]⟩, .string ⟨#[]⟩, .int .i64 0]), 4, 48) := by kernel_rfl
set_option maxRecDepth 10000 in
theorem clone_Op (v : Value) (n : Nat) (xs : List Value) (w : World) (hv : Seg w v 4 n xs) (h1 : ∀ u ∈ xs, u.oneCell' = true) (hb : n * 48 ≤ 140737488355328) :
    Calls Tryz.prog 114 #[v] w fun e w' => ∃ a' c', e = .returned (.slice a' n c') ∧ w'.ownsRow w.heap.size 69 4 (.slice a' n c') n xs ∧ Ext w w' := by
  have hv' := hv
  have hq := fun (w : World) (a : Option Addr) (l c : Nat) => Lib.run_eql_slice_nil (P := Tryz.prog) w 37 69 a l c 0 0 Tryz.underlying37
  obtain ⟨h0, a, cap, rfl, h2, h3, h4⟩ := hv
  cases a with
  | none =>
    obtain ⟨rfl, rfl⟩ := seg_none hv'
    go_enter Tryz.func114, Tryz.ntmps114
    go_wp2
    go_ret
    exact ⟨none, 0, rfl, World.ownsRow_nil _ _ _ _, Ext.refl _⟩
  | some ad =>
    go_enter Tryz.func114, Tryz.ntmps114
    go_wp2_with (first | (at_builtin; refine wpList_app rfl (.tmp 5) (.tmp 6) 37 rfl w.heap.size 69 (.agg #[.int .i64 0, .string ⟨#[]⟩, .string ⟨#[]⟩, .int .i64 0]) 4 48 Tryz.underlying37 info_Op rfl (by decide) _ 0 [] rfl ?c1 _ n xs rfl ?c2 h1 ?c3 ?c4 ?c5 ?_))
    case c1 => exact World.ownsRow_lit _ _ _ (Nat.le_refl _) (by decide) rfl
    case c2 => exact hv'.ext ((Ext.refl _).alloc _)
    case c3 => simpa using hb
    case c4 => have := h3; omega
    case c5 => simp
    intro v' w1 ho hg
    obtain ⟨a', c', rfl⟩ := own_form ho
    go_wp2
    go_ret
    exact ⟨a', c', rfl, ho, Ext.grown ((Ext.refl _).alloc _) hg (by simp [Value.ownBlock])⟩
end Go.Proofs.YtnepdfpooobmcaaGreat

/- Contracts and lemmas for the proofs of this seat; each theorem states its own conditions. -/
namespace Go.Proofs.YtnepdfpooobmcaaGreat
open Go.RowKit
/-- v is a map with these cuts and owners -/
def IsMap (w : World) (v : Value) (cuts : List ByteArray) (owners : List Int) : Prop :=
  ∃ c o, v = .agg #[c, o] ∧ Seg w c 1 cuts.length (cS cuts) ∧ Seg w o 1 owners.length (cI owners)
theorem IsMap.ext {w w' : World} {v : Value} {cuts : List ByteArray} {owners : List Int} (h : IsMap w v cuts owners) (k : Ext w w') : IsMap w' v cuts owners := by
  obtain ⟨c, o, h1, h2, h3⟩ := h
  exact ⟨c, o, h1, h2.ext k, h3.ext k⟩
theorem IsMap.unpack {w : World} {v : Value} {cuts : List ByteArray} {owners : List Int} (h : IsMap w v cuts owners) :
    ∃ a k a' k', v = .agg #[.slice a cuts.length k, .slice a' owners.length k'] ∧ Seg w (.slice a cuts.length k) 1 cuts.length (cS cuts) ∧ Seg w (.slice a' owners.length k') 1 owners.length (cI owners) := by
  obtain ⟨c, o, rfl, h1, h2⟩ := h
  obtain ⟨a, k, rfl⟩ := seg_form h1
  obtain ⟨a', k', rfl⟩ := seg_form h2
  exact ⟨a, k, a', k', rfl, h1, h2⟩
/-- a map of the call's own -/
def OwnMap (w : World) (B : Nat) (v : Value) (cuts : List ByteArray) (owners : List Int) : Prop :=
  ∃ c o, v = .agg #[c, o] ∧ w.ownsRow B 9 1 c cuts.length (cS cuts) ∧ w.ownsRow B 3 1 o owners.length (cI owners)
theorem OwnMap.is {w : World} {B : Nat} {v : Value} {cuts : List ByteArray} {owners : List Int} (h : OwnMap w B v cuts owners) : IsMap w v cuts owners := by
  obtain ⟨c, o, h1, h2, h3⟩ := h
  exact ⟨c, o, h1, own_seg h2, own_seg h3⟩
set_option maxRecDepth 10000 in
theorem copied_any (v : Value) (cuts : List ByteArray) (owners : List Int) (w : World) (hv : IsMap w v cuts owners) (hc : cuts.length < 1000000000) (ho : owners.length < 1000000000) :
    Calls Tryz.prog 85 #[v] w fun e w' => ∃ v', e = .returned v' ∧ OwnMap w' w.heap.size v' cuts owners ∧ Ext w w' := by
  obtain ⟨c, o, rfl, h1, h2⟩ := hv
  go_enter Tryz.func85, Tryz.ntmps85
  go_wp2_with fail
  have rb0 : ((w.alloc (.cells #[c, o] 33)).alloc (.cells #[.slice none 0 0, .slice none 0 0] 33)).drew.heap[w.heap.size + 1]? = some (.cells #[.slice none 0 0, .slice none 0 0] 33 (0, 0)) := heap_2 _ _ _
  go_region_held3 (fun w' => w'.cell? ⟨w.heap.size, 0, none⟩ = some c ∧ w'.cell? ⟨w.heap.size, 1, none⟩ = some o ∧ Ext w w')
    (first
      | (refine ⟨by simp [go_sem], by simp [go_sem], ?_⟩; (repeat (first | (with_reducible assumption) | (with_reducible exact Ext.refl _) | (with_reducible refine Ext.drew ?_) | (with_reducible refine Ext.drewN ?_ _) | (with_reducible refine Ext.alloc ?_ _) | (with_reducible refine Ext.trans ?_ (by with_reducible assumption)))); done)
      | (exact keep2 (by assumption) he1)
      | (exact keep2s (keep2s (by assumption) (by simp) (by simp) (by simp)) (by simp) (by simp) (by simp)))
    (first
      | (go_at_call 42; refine (clone_Str c cuts.length (cS cuts) _ (h1.ext ?_) (cS_one _) (by omega)).mono ?_
         (apply And.right; apply And.right; assumption)
         rintro e w1 ⟨a1, k1, rfl, hc1, he1⟩
         have hE : Ext w w1 := Ext.trans (by apply And.right; apply And.right; assumption) he1
         have hz : w.heap.size + 2 ≤ w1.heap.size := by
           have := he1.size'
           first | (simp at this; omega) | omega
         have hc1 := own_base (B' := w.heap.size + 2) hc1 (by first | (simp; done) | (simp; omega) | omega)
         try (have hc2 := own_ext hc2 he1)
         have rb := he1.heap (by assumption : _ = some (.cells #[.slice none 0 0, .slice none 0 0] 33 (0, 0)))
         obtain ⟨r1, r2, r3, r4⟩ := blk2 rb)
      | (go_at_call 41; refine (clone_Int o owners.length (cI owners) _ (h2.ext ?_) (cI_one _) (by omega)).mono ?_
         (apply And.right; apply And.right; assumption)
         rintro e w1 ⟨a2, k2, rfl, hc2, he1⟩
         have hE : Ext w w1 := Ext.trans (by apply And.right; apply And.right; assumption) he1
         have hz : w.heap.size + 2 ≤ w1.heap.size := by
           have := he1.size'
           first | (simp at this; omega) | omega
         have hc2 := own_base (B' := w.heap.size + 2) hc2 (by first | (simp; done) | (simp; omega) | omega)
         try (have hc1 := own_ext hc1 he1)
         have rb := he1.heap (by assumption : _ = some (.cells #[.slice none 0 0, .slice none 0 0] 33 (0, 0)))
         obtain ⟨r1, r2, r3, r4⟩ := blk2 rb))
  all_goals
    have rB := blk2 (blk2_set2 (u := .slice a1 cuts.length k1) (v := .slice a2 owners.length k2) rb)
    have ho1 := own_set2 (p := ⟨w.heap.size + 1, 0, none⟩) (q := ⟨w.heap.size + 1, 1, none⟩) (u := .slice a1 cuts.length k1) (u' := .slice a2 owners.length k2) hc1 (by simp) (by simp)
    have ho2 := own_set2 (p := ⟨w.heap.size + 1, 0, none⟩) (q := ⟨w.heap.size + 1, 1, none⟩) (u := .slice a1 cuts.length k1) (u' := .slice a2 owners.length k2) hc2 (by simp) (by simp)
    have hx : Ext w ((w1.setCell ⟨w.heap.size + 1, 0, none⟩ (.slice a1 cuts.length k1)).setCell ⟨w.heap.size + 1, 1, none⟩ (.slice a2 owners.length k2)) := by
      exact Ext.setCell (Ext.setCell hE (by simp) _) (by simp) _
    go_wp2
    refine bodyPost_ret (v := .agg #[.slice a1 cuts.length k1, .slice a2 owners.length k2]) (by simp [results, Tryz.results85, go_sem, rB.1, rB.2.1]) rfl ⟨_, rfl, ⟨_, _, rfl, own_base ho1 (by omega), own_base ho2 (by omega)⟩, hx⟩
end Go.Proofs.YtnepdfpooobmcaaGreat

/- Contracts and lemmas for the proofs of this seat; each theorem states its own conditions. -/
namespace Go.Proofs.YtnepdfpooobmcaaGreat
open Go.RowKit
theorem value_any (n : Int) (w : World) : Calls Tryz.prog 67 #[.int .i64 n] w fun e w' => e = .returned (.bool (valB n)) ∧ w = w' := by
  by_cases h1 : -1000000000 ≤ n
  · by_cases h2 : n ≤ 1000000000
    · have HV := hid (show valB n = true by simp [valB, h1, h2])
      go_enter Tryz.func67, Tryz.ntmps67
      go_wp2
      go_ret
      exact ⟨rB HV.out.symm, rfl⟩
    · have HV := hid (show valB n = false by simp [valB, h2])
      have h2' : 1000000000 < n := by omega
      go_enter Tryz.func67, Tryz.ntmps67
      go_wp2
      go_ret
      exact ⟨rB HV.out.symm, rfl⟩
  · have HV := hid (show valB n = false by simp [valB, h1])
    have h1' : n < -1000000000 := by omega
    go_enter Tryz.func67, Tryz.ntmps67
    go_wp2
    go_ret
    exact ⟨rB HV.out.symm, rfl⟩
theorem seg_pair {w : World} {b off : Nat} {l : Prs} (hc : ∀ j u, (cP l)[j]? = some u → w.cell? ⟨b, off + j, none⟩ = some u) {k : Nat} (hk : k < l.length) :
    w.cell? ⟨b, off + k * 2, none⟩ = some (.string l[k].1) ∧ w.cell? ⟨b, off + k * 2 + 1, none⟩ = some (.int .i64 l[k].2) :=
  ⟨hc _ _ (cP_at0 l k hk), by rw [Nat.add_assoc]; exact hc _ _ (cP_at1 l k hk)⟩
theorem pairErr_key {l : Prs} {k : Nat} (hk : k < l.length) (h : keyB l[k].1 = false) : pairErr l k = 3 := by rw [pairErr_at hk, if_pos h]
theorem pairErr_val {l : Prs} {k : Nat} (hk : k < l.length) (h : keyB l[k].1 = true) (h2 : valB l[k].2 = false ∨ l[k].2 = 0) : pairErr l k = 1 := by rw [pairErr_at hk, if_neg (by simp [h]), if_pos h2]
theorem pairErr_ord {l : Prs} {k : Nat} (hk : k < l.length) (h : keyB l[k].1 = true) (h2 : valB l[k].2 = true) (h3 : l[k].2 ≠ 0) (h4 : 0 < k) (h5 : blt (l[k - 1]'(by omega)).1 l[k].1 = false) : pairErr l k = 3 := by
  rw [pairErr_at hk, if_neg (by simp [h]), if_neg (by simp [h2, h3]), if_pos ⟨h4, h5⟩]
theorem pairErr_no {l : Prs} {k : Nat} (hk : k < l.length) (h : keyB l[k].1 = true) (h2 : valB l[k].2 = true) (h3 : l[k].2 ≠ 0) (h5 : 0 < k → blt (l[k - 1]'(by omega)).1 l[k].1 = true) : pairErr l k = 0 := by
  rw [pairErr_at hk, if_neg (by simp [h]), if_neg (by simp [h2, h3]), if_neg]
  rintro ⟨h6, h7⟩; rw [h5 h6] at h7; cases h7
theorem zeroTo_succ {f : Nat → Int} {k : Nat} (h : ∀ j, j < k → f j = 0) (hk : f k = 0) : ∀ j, j < k + 1 → f j = 0 := by
  intro j hj
  rcases Nat.lt_succ_iff_lt_or_eq.1 hj with h' | h'
  · exact h j h'
  · subst h'; exact hk
def zeroTo (f : Nat → Int) (k : Nat) : Prop := ∀ j, j < k → f j = 0
set_option maxRecDepth 10000 in
set_option maxHeartbeats 1000000 in
theorem scheck_any (v : Value) (l : Prs) (w : World) (hv : Seg w v 2 l.length (cP l)) (hk : ∀ p ∈ l, p.1.size ≤ 9223372036854775807) :
    Calls Tryz.prog 65 #[v] w fun e w' => e = .returned (.int .i64 (storeErr l)) ∧ Ext w w' := by
  obtain ⟨h0, a, cap, rfl, h1, h2, h3⟩ := hv
  unfold maxLen at h2
  go_enter Tryz.func65, Tryz.ntmps65
  go_wp2
  go_loopw [2, 3, 4, 7] (fun r _ _ i wr => ∃ k : Nat, k ≤ l.length ∧ i = .int .i64 k ∧ r = .int .i64 0 ∧ zeroTo (pairErr l) k ∧ Ext w wr) (fun _ _ _ i _ => l.length - (intOf i).toNat)
  case atStart => exact ⟨0, Nat.zero_le _, rfl, rfl, fun j h => absurd h (by omega), Ext.refl _⟩
  case round =>
    obtain ⟨k, hkl, rfl, rfl, hall, E⟩ := hrel
    by_cases hlt : k < l.length
    · obtain ⟨b, off, rfl, hc⟩ := h3 (by omega)
      have c := seg_pair hc hlt
      have c0 := E.cell c.1
      have c1 := E.cell c.2
      have hsz := hk l[k] (List.getElem_mem hlt)
      have bx := heap_alloc_new wr (.cells #[.string l[k].1, .int .i64 l[k].2] 60)
      have xx := blk2 bx
      have EA := (Ext.refl wr).alloc (.cells #[.string l[k].1, .int .i64 l[k].2] 60)
      cases hkey : keyB l[k].1 with
      | false =>
        have HF := hid (firstE_at hall (show pairErr l k ≠ 0 by rw [pairErr_key hlt hkey]; omega) hlt)
        have HG := hid (pairErr_key hlt hkey)
        clear hall hc h3
        go_wp2_with fail
        refine (key_any _ _ hsz).mono ?_
        rintro e w' ⟨rfl, rfl⟩
        go_wp2
        go_ret
        exact ⟨rI (by unfold storeErr; rw [HF.out, HG.out]), E.trans EA⟩
      | true =>
        cases hvb : valB l[k].2 with
        | false =>
          have HF := hid (firstE_at hall (show pairErr l k ≠ 0 by rw [pairErr_val hlt hkey (.inl hvb)]; omega) hlt)
          have HG := hid (pairErr_val hlt hkey (.inl hvb))
          clear hall hc h3
          go_wp2_with fail
          refine (key_any _ _ hsz).mono ?_
          rintro e w' ⟨rfl, rfl⟩
          go_wp2_with fail
          refine (value_any _ _).mono ?_
          rintro e w' ⟨rfl, rfl⟩
          go_wp2
          go_ret
          exact ⟨rI (by unfold storeErr; rw [HF.out, HG.out]), E.trans EA⟩
        | true =>
          by_cases hz : l[k].2 = 0
          · have hz' : (l[k].2 == 0) = true := by simp [hz]
            have HF := hid (firstE_at hall (show pairErr l k ≠ 0 by rw [pairErr_val hlt hkey (.inr hz)]; omega) hlt)
            have HG := hid (pairErr_val hlt hkey (.inr hz))
            clear hall hc h3 hz
            go_wp2_with fail
            refine (key_any _ _ hsz).mono ?_
            rintro e w' ⟨rfl, rfl⟩
            go_wp2_with fail
            refine (value_any _ _).mono ?_
            rintro e w' ⟨rfl, rfl⟩
            go_wp2
            go_ret
            exact ⟨rI (by unfold storeErr; rw [HF.out, HG.out]), E.trans EA⟩
          · have hz' : (l[k].2 == 0) = false := by simp [hz]
            have HZ := hid hz
            clear hz
            cases k with
            | zero =>
              have hs := zeroTo_succ hall (pairErr_no hlt hkey hvb HZ.out (fun h => absurd h (by omega)))
              have HS := hid hs
              simp only [Nat.zero_mul, Nat.add_zero] at c0 c1
              clear hall hs hc h3
              go_wp2_with fail
              refine (key_any _ _ hsz).mono ?_
              rintro e w' ⟨rfl, rfl⟩
              go_wp2_with fail
              refine (value_any _ _).mono ?_
              rintro e w' ⟨rfl, rfl⟩
              go_wp2_with fail
              go_quiet (fail)
              go_wp2
              go_roundw
              case rel => exact ⟨1, by omega, by go_num, rfl, HS.out, (E.trans EA).drewN _⟩
              case measure => simp [intOf]; omega
            | succ k =>
              have d0 := EA.cell (E.cell (seg_pair hc (show k < l.length by omega)).1)
              cases hb : blt (l[k]'(by omega)).1 l[k + 1].1 with
              | false =>
                have hb' : Op.bytesLess (l[k]'(by omega)).1.toList l[k + 1].1.toList = false := hb
                have HG := hid (pairErr_ord hlt hkey hvb HZ.out (by omega) hb)
                have HF := hid (firstE_at hall (show pairErr l (k + 1) ≠ 0 by rw [HG.out]; omega) hlt)
                clear hall hc h3
                go_wp2_with fail
                refine (key_any _ _ hsz).mono ?_
                rintro e w' ⟨rfl, rfl⟩
                go_wp2_with fail
                refine (value_any _ _).mono ?_
                rintro e w' ⟨rfl, rfl⟩
                go_wp2_with fail
                go_quiet (fail)
                go_wp2
                go_ret
                exact ⟨rI (by unfold storeErr; rw [HF.out, HG.out]), by (repeat (first | (with_reducible assumption) | (with_reducible exact Ext.refl _) | (with_reducible refine Ext.drew ?_) | (with_reducible refine Ext.drewN ?_ _) | (with_reducible refine Ext.alloc ?_ _) | (with_reducible refine Ext.trans ?_ (by with_reducible assumption))))⟩
              | true =>
                have hb' : Op.bytesLess (l[k]'(by omega)).1.toList l[k + 1].1.toList = true := hb
                have HS := hid (zeroTo_succ hall (pairErr_no hlt hkey hvb HZ.out (fun _ => hb)))
                clear hall hc h3
                go_wp2_with fail
                refine (key_any _ _ hsz).mono ?_
                rintro e w' ⟨rfl, rfl⟩
                go_wp2_with fail
                refine (value_any _ _).mono ?_
                rintro e w' ⟨rfl, rfl⟩
                go_wp2_with fail
                go_quiet (fail)
                go_wp2
                go_roundw
                case rel => exact ⟨k + 1 + 1, by omega, by go_num, rfl, HS.out, (E.trans EA).drewN _⟩
                case measure => simp [intOf]; omega
    · go_wp2
      go_ret
      obtain rfl : k = l.length := by omega
      exact ⟨rI (firstE_zero hall).symm, E⟩
end Go.Proofs.YtnepdfpooobmcaaGreat
