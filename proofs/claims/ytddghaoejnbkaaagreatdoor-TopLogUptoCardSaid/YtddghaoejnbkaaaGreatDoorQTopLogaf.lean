/- Contracts and lemmas for the proof of TopLog; each theorem states its own conditions. -/
import Derived.Test.YtddghaoejnbkaaaGreatDoorProg
import Derived.Test.YtddghaoejnbkaaaGreatDoorQTopLogad
import Derived.WalkSpells
import Derived.WalkLawsBesides
import Derived.Deep.QuietTactic
import Derived.BigQuiet
set_option linter.unusedVariables false
set_option linter.unusedSimpArgs false
/- Contracts and lemmas for the proofs of this seat; each theorem states its own conditions. -/
namespace Go.Proofs.YtddghaoejnbkaaaGreatDoor
open Go.RowKit
theorem less_any (a b : ByteArray) (w : World) : Calls Tryz.prog 156 #[.string a, .string b] w fun e w' => e = .returned (.bool (blt a b)) ∧ w = w' := by
  go_enter Tryz.func156, Tryz.ntmps156
  go_wp2
  go_ret
  exact ⟨rfl, rfl⟩
theorem key_any (s : ByteArray) (w : World) (hs : s.size ≤ 9223372036854775807) : Calls Tryz.prog 117 #[.string s] w fun e w' => e = .returned (.bool (keyB s)) ∧ w = w' := by
  by_cases h1 : s.toList = []
  · have h1' : s.toList.isEmpty = true := by simpa using h1
    go_enter Tryz.func117, Tryz.ntmps117
    go_wp2
    go_ret
    exact ⟨rB (key_false1 h1).symm, rfl⟩
  have h1' : s.toList.isEmpty = false := by simpa using h1
  by_cases h2 : 6 < (s.size : Int)
  · have h2' : decide (6 < (s.size : Int)) = true := by simpa using h2
    go_enter Tryz.func117, Tryz.ntmps117
    go_wp2
    go_ret
    exact ⟨rB (key_false2 h2).symm, rfl⟩
  have h2' : decide (6 < (s.size : Int)) = false := by simpa using h2
  go_enter Tryz.func117, Tryz.ntmps117
  go_wp2
  go_loop [2, 3, 13] (fun r _ i => ∃ k : Nat, k ≤ s.size ∧ i = .int .i64 k ∧ r = .bool false ∧ letTo s k) (fun _ _ i => s.size - (intOf i).toNat)
  case atStart => exact ⟨0, Nat.zero_le _, rfl, rfl, letTo_zero s⟩
  case round =>
    obtain ⟨k, hk, rfl, rfl, hall⟩ := hrel
    by_cases hlt : k < s.size
    · go_wp2
      all_goals first
        | (go_ret; exact ⟨rB (key_false3 k hlt (by omega)).symm, rfl⟩)
        | (go_round
           case rel => exact ⟨k + 1, by omega, by go_num, rfl, letTo_step hall hlt (by omega) (by omega)⟩
           case measure => simp [intOf]; omega)
    · go_wp2
      go_ret
      obtain rfl : k = s.size := by omega
      exact ⟨rB (key_true h1 (by omega) hall).symm, rfl⟩
end Go.Proofs.YtddghaoejnbkaaaGreatDoor

/- Contracts and lemmas for the proofs of this seat; each theorem states its own conditions. -/
namespace Go.Proofs.YtddghaoejnbkaaaGreatDoor
/-! the order of strings -/
theorem bl_irrefl : ∀ x : List UInt8, Op.bytesLess x x = false
  | [] => rfl
  | a :: x => by simp [Op.bytesLess, bl_irrefl x, UInt8.lt_irrefl]
theorem u8_lt {a b : UInt8} : a < b ↔ a.toNat < b.toNat := UInt8.lt_iff_toNat_lt
theorem u8_eq {a b : UInt8} : a = b ↔ a.toNat = b.toNat := ⟨fun h => by rw [h], UInt8.toNat_inj.1⟩
theorem bl_trans : ∀ x y z : List UInt8, Op.bytesLess x y = true → Op.bytesLess y z = true → Op.bytesLess x z = true
  | _, _, [] => fun _ h => by simp [Op.bytesLess] at h
  | _, [], _ :: _ => fun h _ => by simp [Op.bytesLess] at h
  | [], _ :: _, _ :: _ => fun _ _ => rfl
  | a :: x, b :: y, c :: z => by
    simp only [Op.bytesLess, Bool.or_eq_true, decide_eq_true_eq, Bool.and_eq_true, beq_iff_eq, u8_lt, u8_eq]
    rintro (h | ⟨h, h'⟩) (k | ⟨k, k'⟩)
    · exact .inl (by omega)
    · exact .inl (by omega)
    · exact .inl (by omega)
    · exact .inr ⟨by omega, bl_trans x y z h' k'⟩
theorem bl_tri : ∀ x y : List UInt8, Op.bytesLess x y = true ∨ x = y ∨ Op.bytesLess y x = true
  | [], [] => .inr (.inl rfl)
  | [], _ :: _ => .inl rfl
  | _ :: _, [] => .inr (.inr rfl)
  | a :: x, b :: y => by
    rcases bl_tri x y with h | h | h
    · rcases Nat.lt_trichotomy a.toNat b.toNat with k | k | k
      · left; simp [Op.bytesLess, u8_lt, k]
      · left; have := u8_eq.2 k; subst this; simp [Op.bytesLess, h]
      · right; right; simp [Op.bytesLess, u8_lt, k]
    · rcases Nat.lt_trichotomy a.toNat b.toNat with k | k | k
      · left; simp [Op.bytesLess, u8_lt, k]
      · right; left; have := u8_eq.2 k; rw [this, h]
      · right; right; simp [Op.bytesLess, u8_lt, k]
    · rcases Nat.lt_trichotomy a.toNat b.toNat with k | k | k
      · left; simp [Op.bytesLess, u8_lt, k]
      · right; right; have := u8_eq.2 k; subst this; simp [Op.bytesLess, h]
      · right; right; simp [Op.bytesLess, u8_lt, k]
theorem blt_irrefl (a : ByteArray) : blt a a = false := bl_irrefl _
theorem blt_trans {a b c : ByteArray} (h : blt a b = true) (k : blt b c = true) : blt a c = true := bl_trans _ _ _ h k
theorem blt_tri (a b : ByteArray) : blt a b = true ∨ a = b ∨ blt b a = true := by
  rcases bl_tri a.toList b.toList with h | h | h
  · exact .inl h
  · exact .inr (.inl (toList_inj h))
  · exact .inr (.inr h)
theorem blt_asymm {a b : ByteArray} (h : blt a b = true) : blt b a = false := by
  cases k : blt b a with
  | false => rfl
  | true => have := blt_trans h k; rw [blt_irrefl] at this; cases this
theorem blt_ne {a b : ByteArray} (h : blt a b = true) : a ≠ b := by rintro rfl; rw [blt_irrefl] at h; cases h
theorem blt_of_not {a b : ByteArray} (h : blt a b = false) : a = b ∨ blt b a = true := by
  rcases blt_tri a b with k | k | k
  · rw [h] at k; cases k
  · exact .inl k
  · exact .inr k
/-- not greater -/
theorem ble_trans {a b c : ByteArray} (h : blt b a = false) (k : blt c b = false) : blt c a = false := by
  rcases blt_of_not h with rfl | h
  · exact k
  · rcases blt_of_not k with rfl | k
    · exact blt_asymm h
    · exact blt_asymm (blt_trans h k)
/-! sorted lists of strings -/
def kAt (ks : List ByteArray) (i : Nat) : ByteArray := ks.getD i ByteArray.empty
theorem kAt_eq {ks : List ByteArray} {i : Nat} (h : i < ks.length) : kAt ks i = ks[i] := by simp [kAt, h]
/-- strictly sorted -/
def srt (ks : List ByteArray) : Prop := ∀ i j, i < j → j < ks.length → blt (kAt ks i) (kAt ks j) = true
theorem srt_adj {ks : List ByteArray} (h : ∀ i, i + 1 < ks.length → blt (kAt ks i) (kAt ks (i + 1)) = true) : srt ks := by
  intro i j hij
  induction j with
  | zero => omega
  | succ j ih =>
    intro hj
    rcases Nat.lt_succ_iff_lt_or_eq.1 hij with k | k
    · exact blt_trans (ih k (by omega)) (h j hj)
    · subst k; exact h i hj
/-- cuts not greater than a key -/
def leAt (ks : List ByteArray) (t : ByteArray) (i : Nat) : Bool := !(blt t (kAt ks i))
def bltAt (ks : List ByteArray) (t : ByteArray) (i : Nat) : Bool := blt (kAt ks i) t
def hitS (ks : List ByteArray) (t : ByteArray) (i : Nat) : Bool := decide (i < ks.length) && (kAt ks i).toList == t.toList
theorem bltAt_eq {ks : List ByteArray} {t : ByteArray} {i : Nat} (h : i < ks.length) : bltAt ks t i = blt ks[i] t := by simp [bltAt, kAt_eq h]
theorem hitS_eq {ks : List ByteArray} {t : ByteArray} {i : Nat} (h : i < ks.length) : hitS ks t i = (ks[i].toList == t.toList) := by simp [hitS, h, kAt_eq h]
theorem hitS_out {ks : List ByteArray} {t : ByteArray} {i : Nat} (h : ¬ i < ks.length) : hitS ks t i = false := by simp [hitS, h]
theorem dropsB_blt {ks : List ByteArray} (h : srt ks) (t : ByteArray) : dropsB (bltAt ks t) ks.length := fun i j hij hj hp => blt_trans (h i j hij hj) hp
theorem dropsB_le {ks : List ByteArray} (h : srt ks) (t : ByteArray) : dropsB (leAt ks t) ks.length := fun i j hij hj hp => by
  simp only [leAt, Bool.not_eq_true'] at hp ⊢
  exact ble_trans (blt_asymm (h i j hij hj)) hp
/-- where p ends -/
def idx (p : Nat → Bool) (n : Nat) : Nat := ((List.range n).takeWhile p).length
theorem idx_spec (p : Nat → Bool) (n i : Nat) (h : cutAt p n i) : idx p n = i := by
  obtain ⟨h1, h2, h3⟩ := h
  have e : List.range n = List.range i ++ (List.range (n - i)).map (i + ·) := by
    have := List.range_add (n := i) (m := n - i)
    rw [show i + (n - i) = n from by omega] at this; exact this
  unfold idx
  rw [e, List.takeWhile_append_of_pos (fun a ha => h2 a (List.mem_range.1 ha))]
  cases hn : n - i with
  | zero => simp
  | succ m =>
    rw [List.range_succ_eq_map]
    simp only [List.map_cons, List.takeWhile_cons, Nat.add_zero]
    rw [h3 i (Nat.le_refl _) (by omega)]
    simp
/-- the first cut not less, and whether it is the key: from it the number of cuts not greater -/
theorem cut_le {ks : List ByteArray} {t : ByteArray} {i : Nat} (hs : srt ks) (h : cutAt (bltAt ks t) ks.length i) : cutAt (leAt ks t) ks.length (if hitS ks t i then i + 1 else i) := by
  obtain ⟨h1, h2, h3⟩ := h
  have lo : ∀ j, j < i → leAt ks t j = true := fun j hj => by
    have := h2 j hj; simp only [bltAt] at this; simp [leAt, blt_asymm this]
  by_cases hi : i < ks.length
  · cases hh : hitS ks t i with
    | true =>
      have e : ks[i] = t := toList_inj (by rw [hitS_eq hi] at hh; simpa using hh)
      rw [if_pos rfl]
      refine ⟨by omega, fun j hj => ?_, fun j hj hjn => ?_⟩
      · rcases Nat.lt_succ_iff_lt_or_eq.1 hj with k | k
        · exact lo j k
        · subst k; simp [leAt, kAt_eq hi, e, blt_irrefl]
      · have := hs i j (by omega) hjn
        rw [kAt_eq hi, e] at this
        simp [leAt, this]
    | false =>
      rw [if_neg (by simp)]
      refine ⟨h1, lo, fun j hj hjn => ?_⟩
      have a := h3 i (Nat.le_refl _) hi
      rw [bltAt_eq hi] at a
      have hti : blt t ks[i] = true := by
        rcases blt_of_not a with k | k
        · rw [hitS_eq hi, k] at hh; simp at hh
        · exact k
      rcases Nat.eq_or_lt_of_le hj with k | k
      · subst k; simp [leAt, kAt_eq hi, hti]
      · have := blt_trans hti (by rw [← kAt_eq hi]; exact hs i j k hjn)
        simp [leAt, this]
  · rw [hitS_out hi, if_neg (by simp)]
    exact ⟨h1, lo, fun j hj hjn => absurd hjn (by omega)⟩
end Go.Proofs.YtddghaoejnbkaaaGreatDoor

/- Contracts and lemmas for the proofs of this seat; each theorem states its own conditions. -/
namespace Go.Proofs.YtddghaoejnbkaaaGreatDoor
open Go.RowKit
set_option maxRecDepth 10000 in
theorem bsearch_any (v : Value) (ks : List ByteArray) (t : ByteArray) (w : World) (hv : Seg w v 1 ks.length (cS ks)) (hd : dropsB (bltAt ks t) ks.length) (hn : ks.length < 1000000000) :
    Calls Tryz.prog 118 #[v, .string t] w fun e w' => ∃ i : Nat, cutAt (bltAt ks t) ks.length i ∧ e = .returned (.tuple #[.int .i64 i, .bool (hitS ks t i)]) ∧ w = w' := by
  obtain ⟨h0, a, cap, rfl, h1, h2, h3⟩ := hv
  unfold maxLen at h2
  go_enter Tryz.func118, Tryz.ntmps118
  go_wp2
  go_loop [7, 8, 9] (fun x y _ => ∃ i j : Nat, x = .int .i64 i ∧ y = .int .i64 j ∧ bsInv (bltAt ks t) ks.length i j) (fun x y _ => (intOf y).toNat - (intOf x).toNat)
  case atStart => exact ⟨0, ks.length, rfl, rfl, bsInv_start _ _⟩
  case round =>
    obtain ⟨i, j, rfl, rfl, hinv⟩ := hrel
    have hij := hinv.1
    have hjn := hinv.2.1
    by_cases hlt : i < j
    · obtain ⟨b, off, rfl, hc⟩ := h3 (by omega)
      have c1 := hc _ _ (cS_at0 ks ((i + j) / 2) (by omega))
      clear hc h3
      have he := bltAt_eq (ks := ks) (t := t) (i := (i + j) / 2) (by omega)
      cases hb : blt (ks[(i + j) / 2]'(by omega)) t with
      | true =>
        have hs := bsInv_up hd hinv hlt (by rw [he, hb])
        clear he
        go_wp2_with fail
        refine (less_any _ _ _).mono ?_
        rintro e w' ⟨rfl, rfl⟩
        go_wp2
        go_round
        case rel => exact ⟨(i + j) / 2 + 1, j, by go_num, rfl, hs⟩
        case measure => simp [intOf]; omega
      | false =>
        have hs := bsInv_down hd hinv hlt (by rw [he, hb])
        clear he
        go_wp2_with fail
        refine (less_any _ _ _).mono ?_
        rintro e w' ⟨rfl, rfl⟩
        go_wp2
        go_round
        case rel => exact ⟨i, (i + j) / 2, rfl, by go_num, hs⟩
        case measure => simp [intOf]; omega
    · obtain rfl : i = j := by omega
      by_cases hin : i < ks.length
      · obtain ⟨b, off, rfl, hc⟩ := h3 (by omega)
        have c1 := hc _ _ (cS_at0 ks i hin)
        clear hc h3
        have he := hitS_eq (ks := ks) (t := t) hin
        cases hb : ks[i].toList == t.toList with
        | true =>
          go_wp2
          go_ret2
          exact ⟨i, bsInv_end hinv, rT2 rfl (vB (he.trans hb).symm), rfl⟩
        | false =>
          go_wp2
          go_ret2
          exact ⟨i, bsInv_end hinv, rT2 rfl (vB (he.trans hb).symm), rfl⟩
      · go_wp2
        go_ret2
        exact ⟨i, bsInv_end hinv, rT2 rfl (vB (hitS_out hin).symm), rfl⟩
end Go.Proofs.YtddghaoejnbkaaaGreatDoor

/- Contracts and lemmas for the proofs of this seat; each theorem states its own conditions. -/
namespace Go.Proofs.YtddghaoejnbkaaaGreatDoor
open Go.RowKit

theorem info_Str : (Tryz.prog.info? 9).map (fun i => (i.zero, i.size, i.bytes)) = some (some (.string ⟨#[]⟩), 1, 16) := by kernel_rfl
set_option maxRecDepth 10000 in
theorem clone_Str (v : Value) (n : Nat) (xs : List Value) (w : World) (hv : Seg w v 1 n xs) (h1 : ∀ u ∈ xs, u.oneCell' = true) (hb : n * 16 ≤ 140737488355328) :
    Calls Tryz.prog 64 #[v] w fun e w' => ∃ a' c', e = .returned (.slice a' n c') ∧ w'.ownsRow w.heap.size 9 1 (.slice a' n c') n xs ∧ Ext w w' := by
  have hv' := hv
  have hq := fun (w : World) (a : Option Addr) (l c : Nat) => Lib.run_eql_slice_nil (P := Tryz.prog) w 32 9 a l c 0 0 Tryz.underlying32
  obtain ⟨h0, a, cap, rfl, h2, h3, h4⟩ := hv
  cases a with
  | none =>
    obtain ⟨rfl, rfl⟩ := seg_none hv'
    go_enter Tryz.func64, Tryz.ntmps64
    go_wp2
    go_ret
    exact ⟨none, 0, rfl, World.ownsRow_nil _ _ _ _, Ext.refl _⟩
  | some ad =>
    go_enter Tryz.func64, Tryz.ntmps64
    go_wp2_with (first | (at_builtin; refine wpList_app rfl (.tmp 5) (.tmp 6) 32 rfl w.heap.size 9 (.string ⟨#[]⟩) 1 16 Tryz.underlying32 info_Str rfl (by decide) _ 0 [] rfl ?c1 _ n xs rfl ?c2 h1 ?c3 ?c4 ?c5 ?_))
    case c1 => exact World.ownsRow_lit _ _ _ (Nat.le_refl _) (by decide) rfl
    case c2 => exact hv'.ext ((Ext.refl _).alloc _)
    case c3 => simpa using hb
    case c4 => have := h3; omega
    case c5 => simp
    intro v' w1 ho hg
    obtain ⟨a', c', rfl⟩ := own_form ho
    go_wp2
    go_ret
    exact ⟨a', c', rfl, ho, Ext.grown ((Ext.refl _).alloc _) hg (by simp [Value.ownBlock])⟩

theorem info_Int : (Tryz.prog.info? 3).map (fun i => (i.zero, i.size, i.bytes)) = some (some (.int .i64 0), 1, 8) := by kernel_rfl
set_option maxRecDepth 10000 in
theorem clone_Int (v : Value) (n : Nat) (xs : List Value) (w : World) (hv : Seg w v 1 n xs) (h1 : ∀ u ∈ xs, u.oneCell' = true) (hb : n * 8 ≤ 140737488355328) :
    Calls Tryz.prog 65 #[v] w fun e w' => ∃ a' c', e = .returned (.slice a' n c') ∧ w'.ownsRow w.heap.size 3 1 (.slice a' n c') n xs ∧ Ext w w' := by
  have hv' := hv
  have hq := fun (w : World) (a : Option Addr) (l c : Nat) => Lib.run_eql_slice_nil (P := Tryz.prog) w 22 3 a l c 0 0 Tryz.underlying22
  obtain ⟨h0, a, cap, rfl, h2, h3, h4⟩ := hv
  cases a with
  | none =>
    obtain ⟨rfl, rfl⟩ := seg_none hv'
    go_enter Tryz.func65, Tryz.ntmps65
    go_wp2
    go_ret
    exact ⟨none, 0, rfl, World.ownsRow_nil _ _ _ _, Ext.refl _⟩
  | some ad =>
    go_enter Tryz.func65, Tryz.ntmps65
    go_wp2_with (first | (at_builtin; refine wpList_app rfl (.tmp 5) (.tmp 6) 22 rfl w.heap.size 3 (.int .i64 0) 1 8 Tryz.underlying22 info_Int rfl (by decide) _ 0 [] rfl ?c1 _ n xs rfl ?c2 h1 ?c3 ?c4 ?c5 ?_))
    case c1 => exact World.ownsRow_lit _ _ _ (Nat.le_refl _) (by decide) rfl
    case c2 => exact hv'.ext ((Ext.refl _).alloc _)
    case c3 => simpa using hb
    case c4 => have := h3; omega
    case c5 => simp
    intro v' w1 ho hg
    obtain ⟨a', c', rfl⟩ := own_form ho
    go_wp2
    go_ret
    exact ⟨a', c', rfl, ho, Ext.grown ((Ext.refl _).alloc _) hg (by simp [Value.ownBlock])⟩

theorem info_Pair : (Tryz.prog.info? 62).map (fun i => (i.zero, i.size, i.bytes)) = some (some (.agg #[.string ⟨#[]⟩, .int .i64 0]), 2, 24) := by kernel_rfl
set_option maxRecDepth 10000 in
theorem clone_Pair (v : Value) (n : Nat) (xs : List Value) (w : World) (hv : Seg w v 2 n xs) (h1 : ∀ u ∈ xs, u.oneCell' = true) (hb : n * 24 ≤ 140737488355328) :
    Calls Tryz.prog 136 #[v] w fun e w' => ∃ a' c', e = .returned (.slice a' n c') ∧ w'.ownsRow w.heap.size 62 2 (.slice a' n c') n xs ∧ Ext w w' := by
  have hv' := hv
  have hq := fun (w : World) (a : Option Addr) (l c : Nat) => Lib.run_eql_slice_nil (P := Tryz.prog) w 36 62 a l c 0 0 Tryz.underlying36
  obtain ⟨h0, a, cap, rfl, h2, h3, h4⟩ := hv
  cases a with
  | none =>
    obtain ⟨rfl, rfl⟩ := seg_none hv'
    go_enter Tryz.func136, Tryz.ntmps136
    go_wp2
    go_ret
    exact ⟨none, 0, rfl, World.ownsRow_nil _ _ _ _, Ext.refl _⟩
  | some ad =>
    go_enter Tryz.func136, Tryz.ntmps136
    go_wp2_with (first | (at_builtin; refine wpList_app rfl (.tmp 5) (.tmp 6) 36 rfl w.heap.size 62 (.agg #[.string ⟨#[]⟩, .int .i64 0]) 2 24 Tryz.underlying36 info_Pair rfl (by decide) _ 0 [] rfl ?c1 _ n xs rfl ?c2 h1 ?c3 ?c4 ?c5 ?_))
    case c1 => exact World.ownsRow_lit _ _ _ (Nat.le_refl _) (by decide) rfl
    case c2 => exact hv'.ext ((Ext.refl _).alloc _)
    case c3 => simpa using hb
    case c4 => have := h3; omega
    case c5 => simp
    intro v' w1 ho hg
    obtain ⟨a', c', rfl⟩ := own_form ho
    go_wp2
    go_ret
    exact ⟨a', c', rfl, ho, Ext.grown ((Ext.refl _).alloc _) hg (by simp [Value.ownBlock])⟩

theorem info_Op : (Tryz.prog.info? 125).map (fun i => (i.zero, i.size, i.bytes)) = some (some (.agg #[.int .i64 0, .string ⟨#[]⟩, .string ⟨#[]⟩, .int .i64 0]), 4, 48) := by kernel_rfl
set_option maxRecDepth 10000 in
theorem clone_Op (v : Value) (n : Nat) (xs : List Value) (w : World) (hv : Seg w v 4 n xs) (h1 : ∀ u ∈ xs, u.oneCell' = true) (hb : n * 48 ≤ 140737488355328) :
    Calls Tryz.prog 150 #[v] w fun e w' => ∃ a' c', e = .returned (.slice a' n c') ∧ w'.ownsRow w.heap.size 125 4 (.slice a' n c') n xs ∧ Ext w w' := by
  have hv' := hv
  have hq := fun (w : World) (a : Option Addr) (l c : Nat) => Lib.run_eql_slice_nil (P := Tryz.prog) w 38 125 a l c 0 0 Tryz.underlying38
  obtain ⟨h0, a, cap, rfl, h2, h3, h4⟩ := hv
  cases a with
  | none =>
    obtain ⟨rfl, rfl⟩ := seg_none hv'
    go_enter Tryz.func150, Tryz.ntmps150
    go_wp2
    go_ret
    exact ⟨none, 0, rfl, World.ownsRow_nil _ _ _ _, Ext.refl _⟩
  | some ad =>
    go_enter Tryz.func150, Tryz.ntmps150
    go_wp2_with (first | (at_builtin; refine wpList_app rfl (.tmp 5) (.tmp 6) 38 rfl w.heap.size 125 (.agg #[.int .i64 0, .string ⟨#[]⟩, .string ⟨#[]⟩, .int .i64 0]) 4 48 Tryz.underlying38 info_Op rfl (by decide) _ 0 [] rfl ?c1 _ n xs rfl ?c2 h1 ?c3 ?c4 ?c5 ?_))
    case c1 => exact World.ownsRow_lit _ _ _ (Nat.le_refl _) (by decide) rfl
    case c2 => exact hv'.ext ((Ext.refl _).alloc _)
    case c3 => simpa using hb
    case c4 => have := h3; omega
    case c5 => simp
    intro v' w1 ho hg
    obtain ⟨a', c', rfl⟩ := own_form ho
    go_wp2
    go_ret
    exact ⟨a', c', rfl, ho, Ext.grown ((Ext.refl _).alloc _) hg (by simp [Value.ownBlock])⟩
end Go.Proofs.YtddghaoejnbkaaaGreatDoor
