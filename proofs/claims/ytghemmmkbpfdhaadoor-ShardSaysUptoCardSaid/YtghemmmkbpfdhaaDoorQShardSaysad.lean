/- Contracts and lemmas for the proof of ShardSays; each theorem states its own conditions. -/
import Derived.Test.YtghemmmkbpfdhaaDoorQShardSaysac
import Derived.Test.YtghemmmkbpfdhaaDoorProg
import Derived.Test.YtghemmmkbpfdhaaDoorQShardSaysab
import Derived.WalkSpells
import Derived.WalkLawsBesides
import Derived.Deep.RegionHeld3
set_option linter.unusedVariables false
set_option linter.unusedSimpArgs false
/- Contracts and lemmas for the proofs of this seat; each theorem states its own conditions. -/
namespace Go.Proofs.YtghemmmkbpfdhaaDoor
open Go.RowKit
set_option maxRecDepth 10000 in
theorem bsearch_any (v : Value) (ks : List ByteArray) (t : ByteArray) (w : World) (hv : Seg w v 1 ks.length (cS ks)) (hd : dropsB (bltAt ks t) ks.length) (hn : ks.length < 1000000000) :
    Calls Tryd.prog 64 #[v, .string t] w fun e w' => ∃ i : Nat, cutAt (bltAt ks t) ks.length i ∧ e = .returned (.tuple #[.int .i64 i, .bool (hitS ks t i)]) ∧ w = w' := by
  obtain ⟨h0, a, cap, rfl, h1, h2, h3⟩ := hv
  unfold maxLen at h2
  go_enter Tryd.func64, Tryd.ntmps64
  go_wp2
  go_loop [7, 8, 9] (fun x y _ => ∃ i j : Nat, x = .int .i64 i ∧ y = .int .i64 j ∧ bsInv (bltAt ks t) ks.length i j) (fun x y _ => (intOf y).toNat - (intOf x).toNat)
  case atStart => exact ⟨0, ks.length, rfl, rfl, bsInv_start _ _⟩
  case round =>
    obtain ⟨i, j, rfl, rfl, hinv⟩ := hrel
    have hij := hinv.1
    have hjn := hinv.2.1
    by_cases hlt : i < j
    · obtain ⟨b, off, rfl, hc⟩ := h3 (by omega)
      have c1 := hc _ _ (cS_at0 ks ((i + j) / 2) (by omega))
      clear hc h3
      have he := bltAt_eq (ks := ks) (t := t) (i := (i + j) / 2) (by omega)
      cases hb : blt (ks[(i + j) / 2]'(by omega)) t with
      | true =>
        have hs := bsInv_up hd hinv hlt (by rw [he, hb])
        clear he
        go_wp2_with fail
        refine (less_any _ _ _).mono ?_
        rintro e w' ⟨rfl, rfl⟩
        go_wp2
        go_round
        case rel => exact ⟨(i + j) / 2 + 1, j, by go_num, rfl, hs⟩
        case measure => simp [intOf]; omega
      | false =>
        have hs := bsInv_down hd hinv hlt (by rw [he, hb])
        clear he
        go_wp2_with fail
        refine (less_any _ _ _).mono ?_
        rintro e w' ⟨rfl, rfl⟩
        go_wp2
        go_round
        case rel => exact ⟨i, (i + j) / 2, rfl, by go_num, hs⟩
        case measure => simp [intOf]; omega
    · obtain rfl : i = j := by omega
      by_cases hin : i < ks.length
      · obtain ⟨b, off, rfl, hc⟩ := h3 (by omega)
        have c1 := hc _ _ (cS_at0 ks i hin)
        clear hc h3
        have he := hitS_eq (ks := ks) (t := t) hin
        cases hb : ks[i].toList == t.toList with
        | true =>
          go_wp2
          go_ret2
          exact ⟨i, bsInv_end hinv, rT2 rfl (vB (he.trans hb).symm), rfl⟩
        | false =>
          go_wp2
          go_ret2
          exact ⟨i, bsInv_end hinv, rT2 rfl (vB (he.trans hb).symm), rfl⟩
      · go_wp2
        go_ret2
        exact ⟨i, bsInv_end hinv, rT2 rfl (vB (hitS_out hin).symm), rfl⟩
end Go.Proofs.YtghemmmkbpfdhaaDoor

/- Contracts and lemmas for the proofs of this seat; each theorem states its own conditions. -/
namespace Go.Proofs.YtghemmmkbpfdhaaDoor
open Go.RowKit

theorem info_Str : (Tryd.prog.info? 9).map (fun i => (i.zero, i.size, i.bytes)) = some (some (.string ⟨#[]⟩), 1, 16) := by kernel_rfl
set_option maxRecDepth 10000 in
theorem clone_Str (v : Value) (n : Nat) (xs : List Value) (w : World) (hv : Seg w v 1 n xs) (h1 : ∀ u ∈ xs, u.oneCell' = true) (hb : n * 16 ≤ 140737488355328) :
    Calls Tryd.prog 98 #[v] w fun e w' => ∃ a' c', e = .returned (.slice a' n c') ∧ w'.ownsRow w.heap.size 9 1 (.slice a' n c') n xs ∧ Ext w w' := by
  have hv' := hv
  have hq := fun (w : World) (a : Option Addr) (l c : Nat) => Lib.run_eql_slice_nil (P := Tryd.prog) w 26 9 a l c 0 0 Tryd.underlying26
  obtain ⟨h0, a, cap, rfl, h2, h3, h4⟩ := hv
  cases a with
  | none =>
    obtain ⟨rfl, rfl⟩ := seg_none hv'
    go_enter Tryd.func98, Tryd.ntmps98
    go_wp2
    go_ret
    exact ⟨none, 0, rfl, World.ownsRow_nil _ _ _ _, Ext.refl _⟩
  | some ad =>
    go_enter Tryd.func98, Tryd.ntmps98
    go_wp2_with (first | (at_builtin; refine wpList_app rfl (.tmp 5) (.tmp 6) 26 rfl w.heap.size 9 (.string ⟨#[]⟩) 1 16 Tryd.underlying26 info_Str rfl (by decide) _ 0 [] rfl ?c1 _ n xs rfl ?c2 h1 ?c3 ?c4 ?c5 ?_))
    case c1 => exact World.ownsRow_lit _ _ _ (Nat.le_refl _) (by decide) rfl
    case c2 => exact hv'.ext ((Ext.refl _).alloc _)
    case c3 => simpa using hb
    case c4 => have := h3; omega
    case c5 => simp
    intro v' w1 ho hg
    obtain ⟨a', c', rfl⟩ := own_form ho
    go_wp2
    go_ret
    exact ⟨a', c', rfl, ho, Ext.grown ((Ext.refl _).alloc _) hg (by simp [Value.ownBlock])⟩

theorem info_Int : (Tryd.prog.info? 3).map (fun i => (i.zero, i.size, i.bytes)) = some (some (.int .i64 0), 1, 8) := by kernel_rfl
set_option maxRecDepth 10000 in
theorem clone_Int (v : Value) (n : Nat) (xs : List Value) (w : World) (hv : Seg w v 1 n xs) (h1 : ∀ u ∈ xs, u.oneCell' = true) (hb : n * 8 ≤ 140737488355328) :
    Calls Tryd.prog 99 #[v] w fun e w' => ∃ a' c', e = .returned (.slice a' n c') ∧ w'.ownsRow w.heap.size 3 1 (.slice a' n c') n xs ∧ Ext w w' := by
  have hv' := hv
  have hq := fun (w : World) (a : Option Addr) (l c : Nat) => Lib.run_eql_slice_nil (P := Tryd.prog) w 22 3 a l c 0 0 Tryd.underlying22
  obtain ⟨h0, a, cap, rfl, h2, h3, h4⟩ := hv
  cases a with
  | none =>
    obtain ⟨rfl, rfl⟩ := seg_none hv'
    go_enter Tryd.func99, Tryd.ntmps99
    go_wp2
    go_ret
    exact ⟨none, 0, rfl, World.ownsRow_nil _ _ _ _, Ext.refl _⟩
  | some ad =>
    go_enter Tryd.func99, Tryd.ntmps99
    go_wp2_with (first | (at_builtin; refine wpList_app rfl (.tmp 5) (.tmp 6) 22 rfl w.heap.size 3 (.int .i64 0) 1 8 Tryd.underlying22 info_Int rfl (by decide) _ 0 [] rfl ?c1 _ n xs rfl ?c2 h1 ?c3 ?c4 ?c5 ?_))
    case c1 => exact World.ownsRow_lit _ _ _ (Nat.le_refl _) (by decide) rfl
    case c2 => exact hv'.ext ((Ext.refl _).alloc _)
    case c3 => simpa using hb
    case c4 => have := h3; omega
    case c5 => simp
    intro v' w1 ho hg
    obtain ⟨a', c', rfl⟩ := own_form ho
    go_wp2
    go_ret
    exact ⟨a', c', rfl, ho, Ext.grown ((Ext.refl _).alloc _) hg (by simp [Value.ownBlock])⟩

theorem info_Pair : (Tryd.prog.info? 77).map (fun i => (i.zero, i.size, i.bytes)) = some (some (.agg #[.string ⟨#[]⟩, .int .i64 0]), 2, 24) := by kernel_rfl
set_option maxRecDepth 10000 in
theorem clone_Pair (v : Value) (n : Nat) (xs : List Value) (w : World) (hv : Seg w v 2 n xs) (h1 : ∀ u ∈ xs, u.oneCell' = true) (hb : n * 24 ≤ 140737488355328) :
    Calls Tryd.prog 77 #[v] w fun e w' => ∃ a' c', e = .returned (.slice a' n c') ∧ w'.ownsRow w.heap.size 77 2 (.slice a' n c') n xs ∧ Ext w w' := by
  have hv' := hv
  have hq := fun (w : World) (a : Option Addr) (l c : Nat) => Lib.run_eql_slice_nil (P := Tryd.prog) w 67 77 a l c 0 0 Tryd.underlying67
  obtain ⟨h0, a, cap, rfl, h2, h3, h4⟩ := hv
  cases a with
  | none =>
    obtain ⟨rfl, rfl⟩ := seg_none hv'
    go_enter Tryd.func77, Tryd.ntmps77
    go_wp2
    go_ret
    exact ⟨none, 0, rfl, World.ownsRow_nil _ _ _ _, Ext.refl _⟩
  | some ad =>
    go_enter Tryd.func77, Tryd.ntmps77
    go_wp2_with (first | (at_builtin; refine wpList_app rfl (.tmp 5) (.tmp 6) 67 rfl w.heap.size 77 (.agg #[.string ⟨#[]⟩, .int .i64 0]) 2 24 Tryd.underlying67 info_Pair rfl (by decide) _ 0 [] rfl ?c1 _ n xs rfl ?c2 h1 ?c3 ?c4 ?c5 ?_))
    case c1 => exact World.ownsRow_lit _ _ _ (Nat.le_refl _) (by decide) rfl
    case c2 => exact hv'.ext ((Ext.refl _).alloc _)
    case c3 => simpa using hb
    case c4 => have := h3; omega
    case c5 => simp
    intro v' w1 ho hg
    obtain ⟨a', c', rfl⟩ := own_form ho
    go_wp2
    go_ret
    exact ⟨a', c', rfl, ho, Ext.grown ((Ext.refl _).alloc _) hg (by simp [Value.ownBlock])⟩

theorem info_Op : (Tryd.prog.info? 138).map (fun i => (i.zero, i.size, i.bytes)) = some (some (.agg #[.int .i64 0, .string ⟨#[]⟩, .string ⟨#[]⟩, .int .i64 0]), 4, 48) := by kernel_rfl
set_option maxRecDepth 10000 in
theorem clone_Op (v : Value) (n : Nat) (xs : List Value) (w : World) (hv : Seg w v 4 n xs) (h1 : ∀ u ∈ xs, u.oneCell' = true) (hb : n * 48 ≤ 140737488355328) :
    Calls Tryd.prog 94 #[v] w fun e w' => ∃ a' c', e = .returned (.slice a' n c') ∧ w'.ownsRow w.heap.size 138 4 (.slice a' n c') n xs ∧ Ext w w' := by
  have hv' := hv
  have hq := fun (w : World) (a : Option Addr) (l c : Nat) => Lib.run_eql_slice_nil (P := Tryd.prog) w 44 138 a l c 0 0 Tryd.underlying44
  obtain ⟨h0, a, cap, rfl, h2, h3, h4⟩ := hv
  cases a with
  | none =>
    obtain ⟨rfl, rfl⟩ := seg_none hv'
    go_enter Tryd.func94, Tryd.ntmps94
    go_wp2
    go_ret
    exact ⟨none, 0, rfl, World.ownsRow_nil _ _ _ _, Ext.refl _⟩
  | some ad =>
    go_enter Tryd.func94, Tryd.ntmps94
    go_wp2_with (first | (at_builtin; refine wpList_app rfl (.tmp 5) (.tmp 6) 44 rfl w.heap.size 138 (.agg #[.int .i64 0, .string ⟨#[]⟩, .string ⟨#[]⟩, .int .i64 0]) 4 48 Tryd.underlying44 info_Op rfl (by decide) _ 0 [] rfl ?c1 _ n xs rfl ?c2 h1 ?c3 ?c4 ?c5 ?_))
    case c1 => exact World.ownsRow_lit _ _ _ (Nat.le_refl _) (by decide) rfl
    case c2 => exact hv'.ext ((Ext.refl _).alloc _)
    case c3 => simpa using hb
    case c4 => have := h3; omega
    case c5 => simp
    intro v' w1 ho hg
    obtain ⟨a', c', rfl⟩ := own_form ho
    go_wp2
    go_ret
    exact ⟨a', c', rfl, ho, Ext.grown ((Ext.refl _).alloc _) hg (by simp [Value.ownBlock])⟩
end Go.Proofs.YtghemmmkbpfdhaaDoor

/- Contracts and lemmas for the proofs of this seat; each theorem states its own conditions. -/
namespace Go.Proofs.YtghemmmkbpfdhaaDoor
open Go.RowKit
/-- v is a map with these cuts and owners -/
def IsMap (w : World) (v : Value) (cuts : List ByteArray) (owners : List Int) : Prop :=
  ∃ c o, v = .agg #[c, o] ∧ Seg w c 1 cuts.length (cS cuts) ∧ Seg w o 1 owners.length (cI owners)
theorem IsMap.ext {w w' : World} {v : Value} {cuts : List ByteArray} {owners : List Int} (h : IsMap w v cuts owners) (k : Ext w w') : IsMap w' v cuts owners := by
  obtain ⟨c, o, h1, h2, h3⟩ := h
  exact ⟨c, o, h1, h2.ext k, h3.ext k⟩
theorem IsMap.unpack {w : World} {v : Value} {cuts : List ByteArray} {owners : List Int} (h : IsMap w v cuts owners) :
    ∃ a k a' k', v = .agg #[.slice a cuts.length k, .slice a' owners.length k'] ∧ Seg w (.slice a cuts.length k) 1 cuts.length (cS cuts) ∧ Seg w (.slice a' owners.length k') 1 owners.length (cI owners) := by
  obtain ⟨c, o, rfl, h1, h2⟩ := h
  obtain ⟨a, k, rfl⟩ := seg_form h1
  obtain ⟨a', k', rfl⟩ := seg_form h2
  exact ⟨a, k, a', k', rfl, h1, h2⟩
/-- a map of the call's own -/
def OwnMap (w : World) (B : Nat) (v : Value) (cuts : List ByteArray) (owners : List Int) : Prop :=
  ∃ c o, v = .agg #[c, o] ∧ w.ownsRow B 9 1 c cuts.length (cS cuts) ∧ w.ownsRow B 3 1 o owners.length (cI owners)
theorem OwnMap.is {w : World} {B : Nat} {v : Value} {cuts : List ByteArray} {owners : List Int} (h : OwnMap w B v cuts owners) : IsMap w v cuts owners := by
  obtain ⟨c, o, h1, h2, h3⟩ := h
  exact ⟨c, o, h1, own_seg h2, own_seg h3⟩
set_option maxRecDepth 10000 in
theorem copied_any (v : Value) (cuts : List ByteArray) (owners : List Int) (w : World) (hv : IsMap w v cuts owners) (hc : cuts.length < 1000000000) (ho : owners.length < 1000000000) :
    Calls Tryd.prog 65 #[v] w fun e w' => ∃ v', e = .returned v' ∧ OwnMap w' w.heap.size v' cuts owners ∧ Ext w w' := by
  obtain ⟨c, o, rfl, h1, h2⟩ := hv
  go_enter Tryd.func65, Tryd.ntmps65
  go_wp2_with fail
  have rb0 : ((w.alloc (.cells #[c, o] 28)).alloc (.cells #[.slice none 0 0, .slice none 0 0] 28)).drew.heap[w.heap.size + 1]? = some (.cells #[.slice none 0 0, .slice none 0 0] 28 (0, 0)) := heap_2 _ _ _
  go_region_held3 (fun w' => w'.cell? ⟨w.heap.size, 0, none⟩ = some c ∧ w'.cell? ⟨w.heap.size, 1, none⟩ = some o ∧ Ext w w')
    (first
      | (refine ⟨by simp [go_sem], by simp [go_sem], ?_⟩; (repeat (first | (with_reducible assumption) | (with_reducible exact Ext.refl _) | (with_reducible refine Ext.drew ?_) | (with_reducible refine Ext.drewN ?_ _) | (with_reducible refine Ext.alloc ?_ _) | (with_reducible refine Ext.trans ?_ (by with_reducible assumption)))); done)
      | (exact keep2 (by assumption) he1)
      | (exact keep2s (keep2s (by assumption) (by simp) (by simp) (by simp)) (by simp) (by simp) (by simp)))
    (first
      | (go_at_call 98; refine (clone_Str c cuts.length (cS cuts) _ (h1.ext ?_) (cS_one _) (by omega)).mono ?_
         (apply And.right; apply And.right; assumption)
         rintro e w1 ⟨a1, k1, rfl, hc1, he1⟩
         have hE : Ext w w1 := Ext.trans (by apply And.right; apply And.right; assumption) he1
         have hz : w.heap.size + 2 ≤ w1.heap.size := by
           have := he1.size'
           first | (simp at this; omega) | omega
         have hc1 := own_base (B' := w.heap.size + 2) hc1 (by first | (simp; done) | (simp; omega) | omega)
         try (have hc2 := own_ext hc2 he1)
         have rb := he1.heap (by assumption : _ = some (.cells #[.slice none 0 0, .slice none 0 0] 28 (0, 0)))
         obtain ⟨r1, r2, r3, r4⟩ := blk2 rb)
      | (go_at_call 99; refine (clone_Int o owners.length (cI owners) _ (h2.ext ?_) (cI_one _) (by omega)).mono ?_
         (apply And.right; apply And.right; assumption)
         rintro e w1 ⟨a2, k2, rfl, hc2, he1⟩
         have hE : Ext w w1 := Ext.trans (by apply And.right; apply And.right; assumption) he1
         have hz : w.heap.size + 2 ≤ w1.heap.size := by
           have := he1.size'
           first | (simp at this; omega) | omega
         have hc2 := own_base (B' := w.heap.size + 2) hc2 (by first | (simp; done) | (simp; omega) | omega)
         try (have hc1 := own_ext hc1 he1)
         have rb := he1.heap (by assumption : _ = some (.cells #[.slice none 0 0, .slice none 0 0] 28 (0, 0)))
         obtain ⟨r1, r2, r3, r4⟩ := blk2 rb))
  all_goals
    have rB := blk2 (blk2_set2 (u := .slice a1 cuts.length k1) (v := .slice a2 owners.length k2) rb)
    have ho1 := own_set2 (p := ⟨w.heap.size + 1, 0, none⟩) (q := ⟨w.heap.size + 1, 1, none⟩) (u := .slice a1 cuts.length k1) (u' := .slice a2 owners.length k2) hc1 (by simp) (by simp)
    have ho2 := own_set2 (p := ⟨w.heap.size + 1, 0, none⟩) (q := ⟨w.heap.size + 1, 1, none⟩) (u := .slice a1 cuts.length k1) (u' := .slice a2 owners.length k2) hc2 (by simp) (by simp)
    have hx : Ext w ((w1.setCell ⟨w.heap.size + 1, 0, none⟩ (.slice a1 cuts.length k1)).setCell ⟨w.heap.size + 1, 1, none⟩ (.slice a2 owners.length k2)) := by
      exact Ext.setCell (Ext.setCell hE (by simp) _) (by simp) _
    go_wp2
    refine bodyPost_ret (v := .agg #[.slice a1 cuts.length k1, .slice a2 owners.length k2]) (by simp [results, Tryd.results65, go_sem, rB.1, rB.2.1]) rfl ⟨_, rfl, ⟨_, _, rfl, own_base ho1 (by omega), own_base ho2 (by omega)⟩, hx⟩
end Go.Proofs.YtghemmmkbpfdhaaDoor
