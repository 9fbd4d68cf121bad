/- Contracts and lemmas for the proof of PlanPlays; each theorem states its own conditions. -/
import Derived.Test.YtghemmmkbpfdhaaGreatDoorQPlanPlaysav
import Derived.Test.YtghemmmkbpfdhaaGreatDoorQPlanPlaysai
import Derived.Test.YtghemmmkbpfdhaaGreatDoorQPlanPlaysao
import Derived.Test.YtghemmmkbpfdhaaGreatDoorQPlanPlaysbd
import Derived.WalkLawsBesides
import Derived.Carry
import Derived.Test.YtghemmmkbpfdhaaGreatDoorProg
import Derived.Test.YtghemmmkbpfdhaaGreatDoorQPlanPlaysac
import Derived.WalkSpells
set_option linter.unusedVariables false
set_option linter.unusedSimpArgs false
/- Contracts and lemmas for the proofs of this seat; each theorem states its own conditions. -/
namespace Go.Proofs.YtghemmmkbpfdhaaGreatDoor
open Go.RowKit
/-! Join -/
def joinE (a b : Prs) : Int := if storeErr a ≠ 0 then storeErr a else if storeErr b ≠ 0 then storeErr b else if apartB a b then 0 else 5
def apartTo (a b : Prs) (k : Nat) : Prop := ∀ j, (h : j < b.length) → j < k → valP a b[j].1 = 0
theorem apartTo_zero (a b : Prs) : apartTo a b 0 := fun _ _ h => absurd h (by omega)
theorem apartTo_succ {a b : Prs} {k : Nat} (h : apartTo a b k) (hk : k < b.length) (e : valP a b[k].1 = 0) : apartTo a b (k + 1) := by
  intro j hj hjk
  rcases Nat.lt_succ_iff_lt_or_eq.1 hjk with h3 | h3
  · exact h j hj h3
  · subst h3; exact e
theorem apartTo_all {a b : Prs} {k : Nat} (h : apartTo a b k) (hk : k = b.length) : apartB a b = true := by
  unfold apartB
  rw [List.all_eq_true]
  intro p hp
  obtain ⟨i, hi, rfl⟩ := List.mem_iff_getElem.1 hp
  simpa using h i hi (by omega)
theorem apart_hit {a b : Prs} {k : Nat} (hk : k < b.length) (e : valP a b[k].1 ≠ 0) : apartB a b = false := by
  cases h : apartB a b with
  | false => rfl
  | true =>
    unfold apartB at h
    rw [List.all_eq_true] at h
    exact absurd (by simpa using h _ (List.getElem_mem hk)) e
end Go.Proofs.YtghemmmkbpfdhaaGreatDoor

/- Contracts and lemmas for the proofs of this seat; each theorem states its own conditions. -/
namespace Go.Proofs.YtghemmmkbpfdhaaGreatDoor
open Go.RowKit Go.Maps
/-! rokeep.Pairs -/
/-- what the map of Pairs holds -/
def PF (f : ByteArray → Option Int) : Prop := ∀ k c, f k = some c → keyB k = true ∧ -20 ≤ c ∧ c ≤ 20
theorem pf_none : PF (fun _ => none) := fun _ _ h => by cases h
theorem pf_put {f : ByteArray → Option Int} (h : PF f) {k : ByteArray} {c : Int} (hk : keyB k = true) (h1 : -20 ≤ c) (h2 : c ≤ 20) : PF (fun x => if x = k then some c else f x) := fun x d hd => by
  dsimp only at hd
  split at hd
  · rename_i e; subst e; injection hd with hd; subst hd; exact ⟨hk, h1, h2⟩
  · exact h x d hd
theorem pf_store {f : ByteArray → Option Int} (h : PF f) {l : Prs} (h1 : srtP l) (h2 : nzP l) (h3 : ∀ k, valP l k = (f k).getD 0) : StoreOk l := by
  have hm : ∀ p ∈ l, f p.1 = some p.2 := fun p hp => by
    have a := h3 p.1
    rw [valP_mem h1 hp] at a
    cases hf : f p.1 with
    | none => rw [hf] at a; exact absurd a (h2 p hp)
    | some c => rw [hf] at a; simp at a; rw [a]
  exact ⟨fun p hp => (h _ _ (hm p hp)).1, fun p hp => by have := h _ _ (hm p hp); exact ⟨h2 p hp, by omega, by omega⟩, h1⟩
/-- where Pairs' loop stands -/
def PRel (w : World) (k : Nat) (wr : World) : Prop :=
  ∃ (D : DU) (f : ByteArray → Option Int), wr.ownsMap Tryz.prog 9 (plainElem Tryz.prog 3) w.heap.size k D ∧ MapF kS okS dI D f ∧ PF f ∧ Ext w wr
theorem prel_put {w w3 : World} {k : Nat} {D : DU} {f : ByteArray → Option Int} {key : ByteArray} {c : Int} (hF : MapF kS okS dI D f) (hP : PF f) (hk : keyB key = true) (h1 : -20 ≤ c) (h2 : c ≤ 20)
    (hown : w3.ownsMap Tryz.prog 9 (plainElem Tryz.prog 3) w.heap.size (k + 1) (D.put (kS key) (dI c))) (E : Ext w w3) : PRel w (k + 1) w3 :=
  ⟨_, _, hown, hF.put kS_inj kS_is (by have := keyB_size hk; unfold okS maxLen; omega) c, pf_put hP hk h1 h2, E⟩
end Go.Proofs.YtghemmmkbpfdhaaGreatDoor

/- Contracts and lemmas for the proofs of this seat; each theorem states its own conditions. -/
namespace Go.Proofs.YtghemmmkbpfdhaaGreatDoor
open Go.RowKit
def totN (L : List (Nat × List Value)) : Nat := (L.map (·.1)).sum
def totC (L : List (Nat × List Value)) : List Value := L.flatMap (·.2)
theorem totN_step {L : List (Nat × List Value)} {k : Nat} (hk : k < L.length) : totN (L.take (k + 1)) = totN (L.take k) + L[k].1 := by
  unfold totN; rw [List.take_succ_eq_append_getElem hk, List.map_append, List.sum_append]; simp only [List.map_cons, List.map_nil, List.sum_cons, List.sum_nil, Nat.add_zero]
theorem totC_step {L : List (Nat × List Value)} {k : Nat} (hk : k < L.length) : totC (L.take (k + 1)) = totC (L.take k) ++ L[k].2 := by
  unfold totC; rw [List.take_succ_eq_append_getElem hk, List.flatMap_append]; simp only [List.flatMap_cons, List.flatMap_nil, List.append_nil]
theorem totN_le (L : List (Nat × List Value)) (k : Nat) : totN (L.take k) ≤ totN L := by
  have : totN L = totN (L.take k) + totN (L.drop k) := by
    conv => lhs; rw [← List.take_append_drop k L]
    unfold totN; rw [List.map_append, List.sum_append]
  omega
theorem own_zero {w : World} {B e size : Nat} (b C : Nat) (cur : List Value) (hrow : RowB w b e cur) (hB : B ≤ b) (hC : C ≤ maxLen) (hl : cur.length = C * size) : w.ownsRow B e size (.slice (some ⟨b, 0, none⟩) 0 C) 0 [] :=
  own_of_row hrow hB (Nat.zero_le _) hC hl (by simp) (by simp)
theorem infoC_Str : (Tryz.prog.info? 9).map (fun i => (i.zero, i.size, i.bytes)) = some (some (.string ⟨#[]⟩), 1, 16) := by kernel_rfl
set_option maxHeartbeats 1000000 in
theorem grow_Str (n : Nat) (w : World) (hn : n ≤ 1000000000) : Calls Tryz.prog 59 #[.slice none 0 0, .int .i64 n] w fun e w' => ∃ v', e = .returned v' ∧ w'.ownsRow w.heap.size 9 1 v' 0 [] ∧ Ext w w' := by
  rcases Nat.eq_zero_or_pos n with h | h
  · subst h
    go_enter Tryz.func59, Tryz.ntmps59
    go_wp2
    go_ret
    exact ⟨_, rfl, World.ownsRow_nil _ _ _ _, Ext.refl _⟩
  · obtain ⟨i, hi, hz0, hz1, hz2⟩ := info_parts infoC_Str
    have hrz := fun ty => Lib.run_append_nil_zeros (P := Tryz.prog) w 48 3 ty 9 i _ .i64 .i64 Tryz.underlying48 Tryz.underlying3 hi hz0 n h (by rw [hz1]; decide) (by omega) (by rw [hz2]; omega)
    have hge := grownCap_ge w n 0 9
    have hle := grownCap_le_maxLen w n 0 9 (by unfold maxLen; omega)
    generalize grownCap w n 0 9 = K at hrz hge hle
    obtain ⟨R, hR⟩ : ∃ R : List Value, R = (Builtin.zeroCells (Value.cells (.string ⟨#[]⟩)) n ++ Builtin.zeroCells (Value.cells (.string ⟨#[]⟩)) (K - n)).toList := ⟨_, rfl⟩
    have hRa : Builtin.zeroCells (Value.cells (.string ⟨#[]⟩)) n ++ Builtin.zeroCells (Value.cells (.string ⟨#[]⟩)) (K - n) = R.toArray := by rw [hR]
    have hzs : ∀ m, (Builtin.zeroCells (Value.cells (.string ⟨#[]⟩)) m).size = m * 1 := fun m => by rw [size_zeroCells]; rfl
    have hRl : R.length = K * 1 := by rw [hR, Array.length_toList, Array.size_append, hzs, hzs]; omega
    rw [hRa] at hrz
    have E1 : Ext w (w.drew.alloc (.cells R.toArray 9)) := (Ext.refl w).drew.alloc _
    have hrow : RowB (w.drew.alloc (.cells R.toArray 9)) w.heap.size 9 R := heap_alloc_new w.drew _
    generalize w.drew.alloc (.cells R.toArray 9) = w1 at hrz E1 hrow
    have HL := hid hRl
    clear hRl hR hRa hzs hi hz0 hz1 hz2
    have hle' := hle
    unfold maxLen at hle'
    have hn0 : (0 : Int) < (n : Int) := by omega
    go_enter Tryz.func59, Tryz.ntmps59
    go_wp2_with (at_builtin; refine Lib.wpList_append_run _ rfl _ _ _ _ rfl _ _ rfl rfl _ _ (hrz _) ?_)
    go_ret
    exact ⟨_, rfl, own_zero _ _ R hrow (Nat.le_refl _) hle HL.out, E1⟩
set_option maxRecDepth 10000 in
set_option maxHeartbeats 1000000 in
theorem concat_Str (v : Value) (vs : List Value) (L : List (Nat × List Value)) (w : World) (hv : Seg w v 1 vs.length vs) (hl : vs.length ≤ L.length) (hl' : L.length ≤ vs.length) (hs : ∀ (i : Nat) (u : Value) (p : Nat × List Value), vs[i]? = some u → L[i]? = some p → Seg w u 1 p.1 p.2)
    (h1 : ∀ p ∈ L, ∀ u ∈ p.2, u.oneCell' = true) (hsum : totN L ≤ 1000000000) :
    Calls Tryz.prog 27 #[v] w fun e w' => ∃ v', e = .returned v' ∧ w'.ownsRow w.heap.size 9 1 v' (totN L) (totC L) ∧ Ext w w' := by
  obtain ⟨h0, a, cap, rfl, h2, h3, h4⟩ := hv
  clear h0
  unfold maxLen at h3
  have HS := hid hs
  have H1 := hid h1
  have H4 := hid h4
  clear hs h1 h4
  go_enter Tryz.func27, Tryz.ntmps27
  go_wp2
  go_loopw [3, 5, 11] (fun n _ i wr => ∃ k : Nat, k ≤ vs.length ∧ i = .int .i64 k ∧ n = .int .i64 (totN (L.take k)) ∧ Ext w wr) (fun _ _ i _ => vs.length - (intOf i).toNat)
  case atStart => exact ⟨0, Nat.zero_le _, rfl, rfl, Ext.refl _⟩
  case round =>
    obtain ⟨k, hk, rfl, rfl, E0⟩ := hrel
    have hb := totN_le L k
    by_cases hlt : k < vs.length
    · obtain ⟨b, off, rfl, hc⟩ := H4.out (by omega)
      have c0 := E0.cell (hc k vs[k] (by simp [hlt]))
      have hsk0 := HS.out k vs[k] (L[k]'(by omega)) (by simp [hlt]) (List.getElem?_eq_getElem _)
      obtain ⟨a1, c1, hq⟩ := seg_form hsk0
      have hst := totN_step (show k < L.length by omega)
      have hb1 := totN_le L (k + 1)
      rw [hq] at c0
      rw [hst] at hb1
      have HST := hid hst
      clear hc hq hst hsk0
      go_wp2
      go_roundw
      case rel => exact ⟨k + 1, by omega, by go_num, by rw [HST.out]; rfl, E0⟩
      case measure => simp [intOf]; omega
    · obtain rfl : k = vs.length := by omega
      have ht : L.take vs.length = L := List.take_of_length_le (by omega)
      rw [ht]
      clear ht hb
      go_wp2_with fail
      refine (grow_Str _ _ hsum).mono ?_
      rintro e w1 ⟨v1, rfl, ho, E1⟩
      replace ho := own_base ho E0.size'
      replace E1 := E0.trans E1
      clear E0
      go_wp2
      go_loopw [6, 8, 27] (fun o _ i wr => ∃ k : Nat, k ≤ vs.length ∧ i = .int .i64 k ∧ wr.ownsRow w.heap.size 9 1 o (totN (L.take k)) (totC (L.take k)) ∧ Ext w wr) (fun _ _ i _ => vs.length - (intOf i).toNat)
      case atStart => exact ⟨0, Nat.zero_le _, rfl, ho, E1⟩
      case round =>
        clear ho E1
        obtain ⟨k, hk, rfl, ho, E⟩ := hrel
        have hb := totN_le L k
        by_cases hlt : k < vs.length
        · obtain ⟨b, off, rfl, hc⟩ := H4.out (by omega)
          have c0 := E.cell (hc k vs[k] (by simp [hlt]))
          have hsk0 := HS.out k vs[k] (L[k]'(by omega)) (by simp [hlt]) (List.getElem?_eq_getElem _)
          obtain ⟨a1, c1, hq⟩ := seg_form hsk0
          have hsk := hsk0.ext E
          have hst := totN_step (show k < L.length by omega)
          have hsc := totC_step (show k < L.length by omega)
          have hb1 := totN_le L (k + 1)
          have h1k := H1.out L[k] (List.getElem_mem _)
          have hge := own_ge ho
          have hB := E.size'
          rw [hq] at c0 hsk
          rw [hst] at hb1
          have HST := hid (And.intro hst hsc)
          clear hc hq hst hsc hsk0
          go_wp2_with (first | (at_builtin; refine (wpList_app rfl _ _ 48 rfl w.heap.size 9 (.string ⟨#[]⟩) 1 16 Tryz.underlying48 infoC_Str rfl (by decide) _ (totN (L.take k)) (totC (L.take k)) rfl ho _ (L[k]'(by omega)).1 (L[k]'(by omega)).2 rfl hsk h1k (by omega) (by unfold maxLen; omega) hB ?_); intro v' w4 ho' hg))
          go_roundw
          case rel => exact ⟨k + 1, by omega, by go_num, by rw [HST.out.1, HST.out.2]; exact ho', E.grown hg (fun j e => hge j e)⟩
          case measure => simp [intOf]; omega
        · obtain rfl : k = vs.length := by omega
          have ht : L.take vs.length = L := List.take_of_length_le (by omega)
          rw [ht] at ho
          go_wp2
          go_ret
          exact ⟨_, rfl, ho, E⟩
end Go.Proofs.YtghemmmkbpfdhaaGreatDoor
