/- Contracts and lemmas for the proof of MergePlays; each theorem states its own conditions. -/
import Derived.Test.YtddghaoejnbkaaaDoorQMergePlaysaq
import Derived.WalkSpells
import Derived.WalkLawsBesides
import Derived.Test.YtddghaoejnbkaaaDoorQMergePlaysag
set_option linter.unusedVariables false
set_option linter.unusedSimpArgs false
/- Contracts and lemmas for the proofs of this seat; each theorem states its own conditions. -/
namespace Go.Proofs.YtddghaoejnbkaaaDoor
open Go.RowKit
theorem infoC_Ent : (Tryd.prog.info? 41).map (fun i => (i.zero, i.size, i.bytes)) = some (some (.agg #[.slice none 0 0, .bool false, .slice none 0 0, .slice none 0 0]), 4, 80) := by kernel_rfl
set_option maxHeartbeats 1000000 in
theorem grow_Ent (n : Nat) (w : World) (hn : n ≤ 1000000000) : Calls Tryd.prog 37 #[.slice none 0 0, .int .i64 n] w fun e w' => ∃ v', e = .returned v' ∧ w'.ownsRow w.heap.size 41 4 v' 0 [] ∧ Ext w w' := by
  rcases Nat.eq_zero_or_pos n with h | h
  · subst h
    go_enter Tryd.func37, Tryd.ntmps37
    go_wp2
    go_ret
    exact ⟨_, rfl, World.ownsRow_nil _ _ _ _, Ext.refl _⟩
  · obtain ⟨i, hi, hz0, hz1, hz2⟩ := info_parts infoC_Ent
    have hrz := fun ty => Lib.run_append_nil_zeros (P := Tryd.prog) w 23 3 ty 41 i _ .i64 .i64 Tryd.underlying23 Tryd.underlying3 hi hz0 n h (by rw [hz1]; decide) (by omega) (by rw [hz2]; omega)
    have hge := grownCap_ge w n 0 41
    have hle := grownCap_le_maxLen w n 0 41 (by unfold maxLen; omega)
    generalize grownCap w n 0 41 = K at hrz hge hle
    obtain ⟨R, hR⟩ : ∃ R : List Value, R = (Builtin.zeroCells (Value.cells (.agg #[.slice none 0 0, .bool false, .slice none 0 0, .slice none 0 0])) n ++ Builtin.zeroCells (Value.cells (.agg #[.slice none 0 0, .bool false, .slice none 0 0, .slice none 0 0])) (K - n)).toList := ⟨_, rfl⟩
    have hRa : Builtin.zeroCells (Value.cells (.agg #[.slice none 0 0, .bool false, .slice none 0 0, .slice none 0 0])) n ++ Builtin.zeroCells (Value.cells (.agg #[.slice none 0 0, .bool false, .slice none 0 0, .slice none 0 0])) (K - n) = R.toArray := by rw [hR]
    have hzs : ∀ m, (Builtin.zeroCells (Value.cells (.agg #[.slice none 0 0, .bool false, .slice none 0 0, .slice none 0 0])) m).size = m * 4 := fun m => by rw [size_zeroCells]; rfl
    have hRl : R.length = K * 4 := by rw [hR, Array.length_toList, Array.size_append, hzs, hzs]; omega
    rw [hRa] at hrz
    have E1 : Ext w (w.drew.alloc (.cells R.toArray 41)) := (Ext.refl w).drew.alloc _
    have hrow : RowB (w.drew.alloc (.cells R.toArray 41)) w.heap.size 41 R := heap_alloc_new w.drew _
    generalize w.drew.alloc (.cells R.toArray 41) = w1 at hrz E1 hrow
    have HL := hid hRl
    clear hRl hR hRa hzs hi hz0 hz1 hz2
    have hle' := hle
    unfold maxLen at hle'
    have hn0 : (0 : Int) < (n : Int) := by omega
    go_enter Tryd.func37, Tryd.ntmps37
    go_wp2_with (at_builtin; refine Lib.wpList_append_run _ rfl _ _ _ _ rfl _ _ rfl rfl _ _ (hrz _) ?_)
    go_ret
    exact ⟨_, rfl, own_zero _ _ R hrow (Nat.le_refl _) hle HL.out, E1⟩
set_option maxRecDepth 10000 in
set_option maxHeartbeats 1000000 in
theorem concat_Ent (v : Value) (vs : List Value) (L : List (Nat × List Value)) (w : World) (hv : Seg w v 1 vs.length vs) (hl : vs.length ≤ L.length) (hl' : L.length ≤ vs.length) (hs : ∀ (i : Nat) (u : Value) (p : Nat × List Value), vs[i]? = some u → L[i]? = some p → Seg w u 4 p.1 p.2)
    (h1 : ∀ p ∈ L, ∀ u ∈ p.2, u.oneCell' = true) (hsum : totN L ≤ 1000000000) :
    Calls Tryd.prog 26 #[v] w fun e w' => ∃ v', e = .returned v' ∧ w'.ownsRow w.heap.size 41 4 v' (totN L) (totC L) ∧ Ext w w' := by
  obtain ⟨h0, a, cap, rfl, h2, h3, h4⟩ := hv
  clear h0
  unfold maxLen at h3
  have HS := hid hs
  have H1 := hid h1
  have H4 := hid h4
  clear hs h1 h4
  go_enter Tryd.func26, Tryd.ntmps26
  go_wp2
  go_loopw [3, 5, 11] (fun n _ i wr => ∃ k : Nat, k ≤ vs.length ∧ i = .int .i64 k ∧ n = .int .i64 (totN (L.take k)) ∧ Ext w wr) (fun _ _ i _ => vs.length - (intOf i).toNat)
  case atStart => exact ⟨0, Nat.zero_le _, rfl, rfl, Ext.refl _⟩
  case round =>
    obtain ⟨k, hk, rfl, rfl, E0⟩ := hrel
    have hb := totN_le L k
    by_cases hlt : k < vs.length
    · obtain ⟨b, off, rfl, hc⟩ := H4.out (by omega)
      have c0 := E0.cell (hc k vs[k] (by simp [hlt]))
      have hsk0 := HS.out k vs[k] (L[k]'(by omega)) (by simp [hlt]) (List.getElem?_eq_getElem _)
      obtain ⟨a1, c1, hq⟩ := seg_form hsk0
      have hst := totN_step (show k < L.length by omega)
      have hb1 := totN_le L (k + 1)
      rw [hq] at c0
      rw [hst] at hb1
      have HST := hid hst
      clear hc hq hst hsk0
      go_wp2
      go_roundw
      case rel => exact ⟨k + 1, by omega, by go_num, by rw [HST.out]; rfl, E0⟩
      case measure => simp [intOf]; omega
    · obtain rfl : k = vs.length := by omega
      have ht : L.take vs.length = L := List.take_of_length_le (by omega)
      rw [ht]
      clear ht hb
      go_wp2_with fail
      refine (grow_Ent _ _ hsum).mono ?_
      rintro e w1 ⟨v1, rfl, ho, E1⟩
      replace ho := own_base ho E0.size'
      replace E1 := E0.trans E1
      clear E0
      go_wp2
      go_loopw [6, 8, 27] (fun o _ i wr => ∃ k : Nat, k ≤ vs.length ∧ i = .int .i64 k ∧ wr.ownsRow w.heap.size 41 4 o (totN (L.take k)) (totC (L.take k)) ∧ Ext w wr) (fun _ _ i _ => vs.length - (intOf i).toNat)
      case atStart => exact ⟨0, Nat.zero_le _, rfl, ho, E1⟩
      case round =>
        clear ho E1
        obtain ⟨k, hk, rfl, ho, E⟩ := hrel
        have hb := totN_le L k
        by_cases hlt : k < vs.length
        · obtain ⟨b, off, rfl, hc⟩ := H4.out (by omega)
          have c0 := E.cell (hc k vs[k] (by simp [hlt]))
          have hsk0 := HS.out k vs[k] (L[k]'(by omega)) (by simp [hlt]) (List.getElem?_eq_getElem _)
          obtain ⟨a1, c1, hq⟩ := seg_form hsk0
          have hsk := hsk0.ext E
          have hst := totN_step (show k < L.length by omega)
          have hsc := totC_step (show k < L.length by omega)
          have hb1 := totN_le L (k + 1)
          have h1k := H1.out L[k] (List.getElem_mem _)
          have hge := own_ge ho
          have hB := E.size'
          rw [hq] at c0 hsk
          rw [hst] at hb1
          have HST := hid (And.intro hst hsc)
          clear hc hq hst hsc hsk0
          go_wp2_with (first | (at_builtin; refine (wpList_app rfl _ _ 23 rfl w.heap.size 41 (.agg #[.slice none 0 0, .bool false, .slice none 0 0, .slice none 0 0]) 4 80 Tryd.underlying23 infoC_Ent rfl (by decide) _ (totN (L.take k)) (totC (L.take k)) rfl ho _ (L[k]'(by omega)).1 (L[k]'(by omega)).2 rfl hsk h1k (by omega) (by unfold maxLen; omega) hB ?_); intro v' w4 ho' hg))
          go_roundw
          case rel => exact ⟨k + 1, by omega, by go_num, by rw [HST.out.1, HST.out.2]; exact ho', E.grown hg (fun j e => hge j e)⟩
          case measure => simp [intOf]; omega
        · obtain rfl : k = vs.length := by omega
          have ht : L.take vs.length = L := List.take_of_length_le (by omega)
          rw [ht] at ho
          go_wp2
          go_ret
          exact ⟨_, rfl, ho, E⟩
end Go.Proofs.YtddghaoejnbkaaaDoor

/- Contracts and lemmas for the proofs of this seat; each theorem states its own conditions. -/
namespace Go.Proofs.YtddghaoejnbkaaaDoor
open Go.RowKit

theorem info_Ent : (Tryd.prog.info? 41).map (fun i => (i.zero, i.size, i.bytes)) = some (some (.agg #[.slice none 0 0, .bool false, .slice none 0 0, .slice none 0 0]), 4, 80) := by kernel_rfl
set_option maxRecDepth 10000 in
theorem clone_Ent (v : Value) (n : Nat) (xs : List Value) (w : World) (hv : Seg w v 4 n xs) (h1 : ∀ u ∈ xs, u.oneCell' = true) (hb : n * 80 ≤ 140737488355328) :
    Calls Tryd.prog 27 #[v] w fun e w' => ∃ a' c', e = .returned (.slice a' n c') ∧ w'.ownsRow w.heap.size 41 4 (.slice a' n c') n xs ∧ Ext w w' := by
  have hv' := hv
  have hq := fun (w : World) (a : Option Addr) (l c : Nat) => Lib.run_eql_slice_nil (P := Tryd.prog) w 23 41 a l c 0 0 Tryd.underlying23
  obtain ⟨h0, a, cap, rfl, h2, h3, h4⟩ := hv
  cases a with
  | none =>
    obtain ⟨rfl, rfl⟩ := seg_none hv'
    go_enter Tryd.func27, Tryd.ntmps27
    go_wp2
    go_ret
    exact ⟨none, 0, rfl, World.ownsRow_nil _ _ _ _, Ext.refl _⟩
  | some ad =>
    go_enter Tryd.func27, Tryd.ntmps27
    go_wp2_with (first | (at_builtin; refine wpList_app rfl (.tmp 5) (.tmp 6) 23 rfl w.heap.size 41 (.agg #[.slice none 0 0, .bool false, .slice none 0 0, .slice none 0 0]) 4 80 Tryd.underlying23 info_Ent rfl (by decide) _ 0 [] rfl ?c1 _ n xs rfl ?c2 h1 ?c3 ?c4 ?c5 ?_))
    case c1 => exact World.ownsRow_lit _ _ _ (Nat.le_refl _) (by decide) rfl
    case c2 => exact hv'.ext ((Ext.refl _).alloc _)
    case c3 => simpa using hb
    case c4 => have := h3; omega
    case c5 => simp
    intro v' w1 ho hg
    obtain ⟨a', c', rfl⟩ := own_form ho
    go_wp2
    go_ret
    exact ⟨a', c', rfl, ho, Ext.grown ((Ext.refl _).alloc _) hg (by simp [Value.ownBlock])⟩
end Go.Proofs.YtddghaoejnbkaaaDoor
