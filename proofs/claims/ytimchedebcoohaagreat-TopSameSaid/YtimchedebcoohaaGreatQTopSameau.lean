/- Contracts and lemmas for the proof of TopSame; each theorem states its own conditions. -/
import Derived.Test.YtimchedebcoohaaGreatQTopSameat
import Derived.Test.YtimchedebcoohaaGreatQTopSameah
import Derived.Test.YtimchedebcoohaaGreatQTopSameas
import Derived.Test.YtimchedebcoohaaGreatQTopSameao
import Derived.WalkLawsBesides
import Derived.Carry
import Derived.Test.YtimchedebcoohaaGreatProg
import Derived.Test.YtimchedebcoohaaGreatQTopSameak
import Derived.WalkSpells
set_option linter.unusedVariables false
set_option linter.unusedSimpArgs false
/- Contracts and lemmas for the proofs of this seat; each theorem states its own conditions. -/
namespace Go.Proofs.YtimchedebcoohaaGreat
open Go.RowKit
/-! Join -/
set_option maxRecDepth 10000 in
set_option maxHeartbeats 1000000 in
theorem join_ok (va vb : Value) (a b : Prs) (w : World) (hva : Seg w va 2 a.length (cP a)) (hvb : Seg w vb 2 b.length (cP b)) (oa : StoreOk a) (ob : StoreOk b) (hlen : a.length + b.length ≤ 1000000) (hap : apartB a b = true) :
    Calls Tryz.prog 19 #[va, vb] w fun e w' => ∃ v', e = .returned (.tuple #[v', .int .i64 0]) ∧ w'.ownsRow w.heap.size 33 2 v' (joinP a b).length (cP (joinP a b)) ∧ Ext w w' := by
  have sa := store_small oa
  have sb := store_small ob
  have ea := storeErr_ok oa
  have eb := storeErr_ok ob
  obtain ⟨h0, x, cap, rfl, h1, h2, h3⟩ := hvb
  have hvb : Seg w (.slice x b.length cap) 2 b.length (cP b) := ⟨h0, x, cap, rfl, h1, h2, h3⟩
  unfold maxLen at h2
  go_enter Tryz.func19, Tryz.ntmps19
  go_wp2_with fail
  refine (scheck_any _ a _ hva sa).mono ?_
  rw [ea]
  rintro e w1 ⟨rfl, E1⟩
  go_wp2_with fail
  refine (scheck_any _ b _ (hvb.ext E1) sb).mono ?_
  rw [eb]
  rintro e w2 ⟨rfl, E2⟩
  have EA := hid ea
  have EB := hid eb
  clear ea eb
  go_wp2_with fail
  refine (clone_Pair _ _ _ _ (hva.ext (E1.trans E2)) (cP_one _) (by omega)).mono ?_
  rintro e w3 ⟨ao, co, rfl, ho, E3⟩
  have ho := own_base ho (E1.trans E2).size'
  have E := (E1.trans E2).trans E3
  clear E1 E2 E3
  go_wp2_with fail
  go_loopw [8, 10, 11, 12, 27] (fun o _ _ _ i wr => ∃ k : Nat, k ≤ b.length ∧ i = .int .i64 k ∧ wr.ownsRow w.heap.size 33 2 o (joinP a (b.take k)).length (cP (joinP a (b.take k))) ∧ Ext w wr) (fun _ _ _ _ i _ => b.length - (intOf i).toNat)
  case atStart => exact ⟨0, Nat.zero_le _, rfl, by rw [List.take_zero, join_nil]; exact ho, E⟩
  case round =>
    clear E ho
    obtain ⟨k, hkl, rfl, ho, E⟩ := hrel
    by_cases hlt : k < b.length
    · obtain ⟨bb, off, rfl, hc⟩ := h3 (by omega)
      have c := seg_pair hc hlt
      have c0 := E.cell c.1
      have c1 := E.cell c.2
      clear hc h3 c
      have hz : valP a b[k].1 = 0 := by
        unfold apartB at hap; rw [List.all_eq_true] at hap; simpa using hap _ (List.getElem_mem hlt)
      have bx := heap_alloc_new wr (.cells #[.string b[k].1, .int .i64 b[k].2] 33)
      have EA := (Ext.refl wr).alloc (.cells #[.string b[k].1, .int .i64 b[k].2] 33)
      have xx := blk2 bx
      have hst := join_step (a := a) hlt
      have hln := join_len a (b.take k)
      have hjs := join_srt (b.take k) oa.srt
      have HST := hid hst
      have HZ := hid hz
      clear hst hz
      rw [List.length_take] at hln
      go_wp2_with fail
      refine (sfind_any _ a b[k].1 _ (hva.ext (E.trans EA)) oa.srt (by omega)).mono ?_
      rintro e w4 ⟨i, hci, rfl, E4⟩
      have hh := hit_val oa.srt oa.nz hci
      rw [HZ.out] at hh
      simp only [ne_eq, not_true_eq_false, decide_false] at hh
      rw [hh]
      clear hh hci
      have bx := E4.heap bx
      have xx := blk2 bx
      have ho := own_ext (ho.alloc (.cells #[.string b[k].1, .int .i64 b[k].2] 33)) E4
      have E := (E.trans EA).trans E4
      clear EA E4
      go_wp2_with fail
      have hlen2 : (joinP a (b.take k)).length ≤ 1000000 := by omega
      refine (with_any _ (joinP a (b.take k)) b[k].1 b[k].2 _ (own_seg ho) hjs hlen2).mono ?_
      rintro e w5 ⟨v', rfl, ho', E5⟩
      have hz := E.size'
      have ho' := own_base ho' hz
      go_wp2
      go_roundw
      case rel => exact ⟨k + 1, by omega, by go_num, by rw [HST.out]; exact ho', E.trans E5⟩
      case measure => simp [intOf]; omega
    · obtain rfl : k = b.length := by omega
      go_wp2
      go_ret2
      refine ⟨_, rfl, ?_, E⟩
      rw [List.take_of_length_le (Nat.le_refl _)] at ho
      exact ho
end Go.Proofs.YtimchedebcoohaaGreat

/- Contracts and lemmas for the proofs of this seat; each theorem states its own conditions. -/
namespace Go.Proofs.YtimchedebcoohaaGreat
open Go.RowKit Go.Maps
/-! rokeep.Pairs -/
/-- what the map of Pairs holds -/
def PF (f : ByteArray → Option Int) : Prop := ∀ k c, f k = some c → keyB k = true ∧ -20 ≤ c ∧ c ≤ 20
theorem pf_none : PF (fun _ => none) := fun _ _ h => by cases h
theorem pf_put {f : ByteArray → Option Int} (h : PF f) {k : ByteArray} {c : Int} (hk : keyB k = true) (h1 : -20 ≤ c) (h2 : c ≤ 20) : PF (fun x => if x = k then some c else f x) := fun x d hd => by
  dsimp only at hd
  split at hd
  · rename_i e; subst e; injection hd with hd; subst hd; exact ⟨hk, h1, h2⟩
  · exact h x d hd
theorem pf_store {f : ByteArray → Option Int} (h : PF f) {l : Prs} (h1 : srtP l) (h2 : nzP l) (h3 : ∀ k, valP l k = (f k).getD 0) : StoreOk l := by
  have hm : ∀ p ∈ l, f p.1 = some p.2 := fun p hp => by
    have a := h3 p.1
    rw [valP_mem h1 hp] at a
    cases hf : f p.1 with
    | none => rw [hf] at a; exact absurd a (h2 p hp)
    | some c => rw [hf] at a; simp at a; rw [a]
  exact ⟨fun p hp => (h _ _ (hm p hp)).1, fun p hp => by have := h _ _ (hm p hp); exact ⟨h2 p hp, by omega, by omega⟩, h1⟩
end Go.Proofs.YtimchedebcoohaaGreat

/- Contracts and lemmas for the proofs of this seat; each theorem states its own conditions. -/
namespace Go.Proofs.YtimchedebcoohaaGreat
open Go.RowKit
def totN (L : List (Nat × List Value)) : Nat := (L.map (·.1)).sum
def totC (L : List (Nat × List Value)) : List Value := L.flatMap (·.2)
theorem totN_step {L : List (Nat × List Value)} {k : Nat} (hk : k < L.length) : totN (L.take (k + 1)) = totN (L.take k) + L[k].1 := by
  unfold totN; rw [List.take_succ_eq_append_getElem hk, List.map_append, List.sum_append]; simp only [List.map_cons, List.map_nil, List.sum_cons, List.sum_nil, Nat.add_zero]
theorem totC_step {L : List (Nat × List Value)} {k : Nat} (hk : k < L.length) : totC (L.take (k + 1)) = totC (L.take k) ++ L[k].2 := by
  unfold totC; rw [List.take_succ_eq_append_getElem hk, List.flatMap_append]; simp only [List.flatMap_cons, List.flatMap_nil, List.append_nil]
theorem totN_le (L : List (Nat × List Value)) (k : Nat) : totN (L.take k) ≤ totN L := by
  have : totN L = totN (L.take k) + totN (L.drop k) := by
    conv => lhs; rw [← List.take_append_drop k L]
    unfold totN; rw [List.map_append, List.sum_append]
  omega
theorem own_zero {w : World} {B e size : Nat} (b C : Nat) (cur : List Value) (hrow : RowB w b e cur) (hB : B ≤ b) (hC : C ≤ maxLen) (hl : cur.length = C * size) : w.ownsRow B e size (.slice (some ⟨b, 0, none⟩) 0 C) 0 [] :=
  own_of_row hrow hB (Nat.zero_le _) hC hl (by simp) (by simp)
theorem infoC_Str : (Tryz.prog.info? 9).map (fun i => (i.zero, i.size, i.bytes)) = some (some (.string ⟨#[]⟩), 1, 16) := by kernel_rfl
set_option maxHeartbeats 1000000 in
theorem grow_Str (n : Nat) (w : World) (hn : n ≤ 1000000000) : Calls Tryz.prog 137 #[.slice none 0 0, .int .i64 n] w fun e w' => ∃ v', e = .returned v' ∧ w'.ownsRow w.heap.size 9 1 v' 0 [] ∧ Ext w w' := by
  rcases Nat.eq_zero_or_pos n with h | h
  · subst h
    go_enter Tryz.func137, Tryz.ntmps137
    go_wp2
    go_ret
    exact ⟨_, rfl, World.ownsRow_nil _ _ _ _, Ext.refl _⟩
  · obtain ⟨i, hi, hz0, hz1, hz2⟩ := info_parts infoC_Str
    have hrz := fun ty => Lib.run_append_nil_zeros (P := Tryz.prog) w 23 3 ty 9 i _ .i64 .i64 Tryz.underlying23 Tryz.underlying3 hi hz0 n h (by rw [hz1]; decide) (by omega) (by rw [hz2]; omega)
    have hge := grownCap_ge w n 0 9
    have hle := grownCap_le_maxLen w n 0 9 (by unfold maxLen; omega)
    generalize grownCap w n 0 9 = K at hrz hge hle
    obtain ⟨R, hR⟩ : ∃ R : List Value, R = (Builtin.zeroCells (Value.cells (.string ⟨#[]⟩)) n ++ Builtin.zeroCells (Value.cells (.string ⟨#[]⟩)) (K - n)).toList := ⟨_, rfl⟩
    have hRa : Builtin.zeroCells (Value.cells (.string ⟨#[]⟩)) n ++ Builtin.zeroCells (Value.cells (.string ⟨#[]⟩)) (K - n) = R.toArray := by rw [hR]
    have hzs : ∀ m, (Builtin.zeroCells (Value.cells (.string ⟨#[]⟩)) m).size = m * 1 := fun m => by rw [size_zeroCells]; rfl
    have hRl : R.length = K * 1 := by rw [hR, Array.length_toList, Array.size_append, hzs, hzs]; omega
    rw [hRa] at hrz
    have E1 : Ext w (w.drew.alloc (.cells R.toArray 9)) := (Ext.refl w).drew.alloc _
    have hrow : RowB (w.drew.alloc (.cells R.toArray 9)) w.heap.size 9 R := heap_alloc_new w.drew _
    generalize w.drew.alloc (.cells R.toArray 9) = w1 at hrz E1 hrow
    have HL := hid hRl
    clear hRl hR hRa hzs hi hz0 hz1 hz2
    have hle' := hle
    unfold maxLen at hle'
    have hn0 : (0 : Int) < (n : Int) := by omega
    go_enter Tryz.func137, Tryz.ntmps137
    go_wp2_with (at_builtin; refine Lib.wpList_append_run _ rfl _ _ _ _ rfl _ _ rfl rfl _ _ (hrz _) ?_)
    go_ret
    exact ⟨_, rfl, own_zero _ _ R hrow (Nat.le_refl _) hle HL.out, E1⟩
set_option maxRecDepth 10000 in
set_option maxHeartbeats 1000000 in
theorem concat_Str (v : Value) (vs : List Value) (L : List (Nat × List Value)) (w : World) (hv : Seg w v 1 vs.length vs) (hl : vs.length ≤ L.length) (hl' : L.length ≤ vs.length) (hs : ∀ (i : Nat) (u : Value) (p : Nat × List Value), vs[i]? = some u → L[i]? = some p → Seg w u 1 p.1 p.2)
    (h1 : ∀ p ∈ L, ∀ u ∈ p.2, u.oneCell' = true) (hsum : totN L ≤ 1000000000) :
    Calls Tryz.prog 118 #[v] w fun e w' => ∃ v', e = .returned v' ∧ w'.ownsRow w.heap.size 9 1 v' (totN L) (totC L) ∧ Ext w w' := by
  obtain ⟨h0, a, cap, rfl, h2, h3, h4⟩ := hv
  clear h0
  unfold maxLen at h3
  have HS := hid hs
  have H1 := hid h1
  have H4 := hid h4
  clear hs h1 h4
  go_enter Tryz.func118, Tryz.ntmps118
  go_wp2
  go_loopw [3, 5, 11] (fun n _ i wr => ∃ k : Nat, k ≤ vs.length ∧ i = .int .i64 k ∧ n = .int .i64 (totN (L.take k)) ∧ Ext w wr) (fun _ _ i _ => vs.length - (intOf i).toNat)
  case atStart => exact ⟨0, Nat.zero_le _, rfl, rfl, Ext.refl _⟩
  case round =>
    obtain ⟨k, hk, rfl, rfl, E0⟩ := hrel
    have hb := totN_le L k
    by_cases hlt : k < vs.length
    · obtain ⟨b, off, rfl, hc⟩ := H4.out (by omega)
      have c0 := E0.cell (hc k vs[k] (by simp [hlt]))
      have hsk0 := HS.out k vs[k] (L[k]'(by omega)) (by simp [hlt]) (List.getElem?_eq_getElem _)
      obtain ⟨a1, c1, hq⟩ := seg_form hsk0
      have hst := totN_step (show k < L.length by omega)
      have hb1 := totN_le L (k + 1)
      rw [hq] at c0
      rw [hst] at hb1
      have HST := hid hst
      clear hc hq hst hsk0
      go_wp2
      go_roundw
      case rel => exact ⟨k + 1, by omega, by go_num, by rw [HST.out]; rfl, E0⟩
      case measure => simp [intOf]; omega
    · obtain rfl : k = vs.length := by omega
      have ht : L.take vs.length = L := List.take_of_length_le (by omega)
      rw [ht]
      clear ht hb
      go_wp2_with fail
      refine (grow_Str _ _ hsum).mono ?_
      rintro e w1 ⟨v1, rfl, ho, E1⟩
      replace ho := own_base ho E0.size'
      replace E1 := E0.trans E1
      clear E0
      go_wp2
      go_loopw [6, 8, 27] (fun o _ i wr => ∃ k : Nat, k ≤ vs.length ∧ i = .int .i64 k ∧ wr.ownsRow w.heap.size 9 1 o (totN (L.take k)) (totC (L.take k)) ∧ Ext w wr) (fun _ _ i _ => vs.length - (intOf i).toNat)
      case atStart => exact ⟨0, Nat.zero_le _, rfl, ho, E1⟩
      case round =>
        clear ho E1
        obtain ⟨k, hk, rfl, ho, E⟩ := hrel
        have hb := totN_le L k
        by_cases hlt : k < vs.length
        · obtain ⟨b, off, rfl, hc⟩ := H4.out (by omega)
          have c0 := E.cell (hc k vs[k] (by simp [hlt]))
          have hsk0 := HS.out k vs[k] (L[k]'(by omega)) (by simp [hlt]) (List.getElem?_eq_getElem _)
          obtain ⟨a1, c1, hq⟩ := seg_form hsk0
          have hsk := hsk0.ext E
          have hst := totN_step (show k < L.length by omega)
          have hsc := totC_step (show k < L.length by omega)
          have hb1 := totN_le L (k + 1)
          have h1k := H1.out L[k] (List.getElem_mem _)
          have hge := own_ge ho
          have hB := E.size'
          rw [hq] at c0 hsk
          rw [hst] at hb1
          have HST := hid (And.intro hst hsc)
          clear hc hq hst hsc hsk0
          go_wp2_with (first | (at_builtin; refine (wpList_app rfl _ _ 23 rfl w.heap.size 9 (.string ⟨#[]⟩) 1 16 Tryz.underlying23 infoC_Str rfl (by decide) _ (totN (L.take k)) (totC (L.take k)) rfl ho _ (L[k]'(by omega)).1 (L[k]'(by omega)).2 rfl hsk h1k (by omega) (by unfold maxLen; omega) hB ?_); intro v' w4 ho' hg))
          go_roundw
          case rel => exact ⟨k + 1, by omega, by go_num, by rw [HST.out.1, HST.out.2]; exact ho', E.grown hg (fun j e => hge j e)⟩
          case measure => simp [intOf]; omega
        · obtain rfl : k = vs.length := by omega
          have ht : L.take vs.length = L := List.take_of_length_le (by omega)
          rw [ht] at ho
          go_wp2
          go_ret
          exact ⟨_, rfl, ho, E⟩
end Go.Proofs.YtimchedebcoohaaGreat
