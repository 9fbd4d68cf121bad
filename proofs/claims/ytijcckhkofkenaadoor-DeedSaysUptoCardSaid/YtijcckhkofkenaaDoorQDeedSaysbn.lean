/- Contracts and lemmas for the proof of DeedSays; each theorem states its own conditions. -/
import Derived.Test.YtijcckhkofkenaaDoorQDeedSaysba
import Derived.Test.YtijcckhkofkenaaDoorQDeedSaysas
import Derived.Test.YtijcckhkofkenaaDoorQDeedSaysaz
import Derived.Test.YtijcckhkofkenaaDoorQDeedSaysbl
import Derived.WalkLawsBesides
import Derived.Carry
set_option linter.unusedVariables false
set_option linter.unusedSimpArgs false
/- Contracts and lemmas for the proofs of this seat; each theorem states its own conditions. -/
namespace Go.Proofs.YtijcckhkofkenaaDoor
open Go.RowKit
/-! Join -/
def joinE (a b : Prs) : Int := if storeErr a ≠ 0 then storeErr a else if storeErr b ≠ 0 then storeErr b else if apartB a b then 0 else 5
def apartTo (a b : Prs) (k : Nat) : Prop := ∀ j, (h : j < b.length) → j < k → valP a b[j].1 = 0
theorem apartTo_zero (a b : Prs) : apartTo a b 0 := fun _ _ h => absurd h (by omega)
theorem apartTo_succ {a b : Prs} {k : Nat} (h : apartTo a b k) (hk : k < b.length) (e : valP a b[k].1 = 0) : apartTo a b (k + 1) := by
  intro j hj hjk
  rcases Nat.lt_succ_iff_lt_or_eq.1 hjk with h3 | h3
  · exact h j hj h3
  · subst h3; exact e
theorem apartTo_all {a b : Prs} {k : Nat} (h : apartTo a b k) (hk : k = b.length) : apartB a b = true := by
  unfold apartB
  rw [List.all_eq_true]
  intro p hp
  obtain ⟨i, hi, rfl⟩ := List.mem_iff_getElem.1 hp
  simpa using h i hi (by omega)
theorem apart_hit {a b : Prs} {k : Nat} (hk : k < b.length) (e : valP a b[k].1 ≠ 0) : apartB a b = false := by
  cases h : apartB a b with
  | false => rfl
  | true =>
    unfold apartB at h
    rw [List.all_eq_true] at h
    exact absurd (by simpa using h _ (List.getElem_mem hk)) e
set_option maxRecDepth 10000 in
set_option maxHeartbeats 1000000 in
theorem join_ok (va vb : Value) (a b : Prs) (w : World) (hva : Seg w va 2 a.length (cP a)) (hvb : Seg w vb 2 b.length (cP b)) (oa : StoreOk a) (ob : StoreOk b) (hlen : a.length + b.length ≤ 1000000) (hap : apartB a b = true) :
    Calls Tryd.prog 78 #[va, vb] w fun e w' => ∃ v', e = .returned (.tuple #[v', .int .i64 0]) ∧ w'.ownsRow w.heap.size 107 2 v' (joinP a b).length (cP (joinP a b)) ∧ Ext w w' := by
  have sa := store_small oa
  have sb := store_small ob
  have ea := storeErr_ok oa
  have eb := storeErr_ok ob
  obtain ⟨h0, x, cap, rfl, h1, h2, h3⟩ := hvb
  have hvb : Seg w (.slice x b.length cap) 2 b.length (cP b) := ⟨h0, x, cap, rfl, h1, h2, h3⟩
  unfold maxLen at h2
  go_enter Tryd.func78, Tryd.ntmps78
  go_wp2_with fail
  refine (scheck_any _ a _ hva sa).mono ?_
  rw [ea]
  rintro e w1 ⟨rfl, E1⟩
  go_wp2_with fail
  refine (scheck_any _ b _ (hvb.ext E1) sb).mono ?_
  rw [eb]
  rintro e w2 ⟨rfl, E2⟩
  have EA := hid ea
  have EB := hid eb
  clear ea eb
  go_wp2_with fail
  refine (clone_Pair _ _ _ _ (hva.ext (E1.trans E2)) (cP_one _) (by omega)).mono ?_
  rintro e w3 ⟨ao, co, rfl, ho, E3⟩
  have ho := own_base ho (E1.trans E2).size'
  have E := (E1.trans E2).trans E3
  clear E1 E2 E3
  go_wp2_with fail
  go_loopw [8, 10, 11, 12, 27] (fun o _ _ _ i wr => ∃ k : Nat, k ≤ b.length ∧ i = .int .i64 k ∧ wr.ownsRow w.heap.size 107 2 o (joinP a (b.take k)).length (cP (joinP a (b.take k))) ∧ Ext w wr) (fun _ _ _ _ i _ => b.length - (intOf i).toNat)
  case atStart => exact ⟨0, Nat.zero_le _, rfl, by rw [List.take_zero, join_nil]; exact ho, E⟩
  case round =>
    clear E ho
    obtain ⟨k, hkl, rfl, ho, E⟩ := hrel
    by_cases hlt : k < b.length
    · obtain ⟨bb, off, rfl, hc⟩ := h3 (by omega)
      have c := seg_pair hc hlt
      have c0 := E.cell c.1
      have c1 := E.cell c.2
      clear hc h3 c
      have hz : valP a b[k].1 = 0 := by
        unfold apartB at hap; rw [List.all_eq_true] at hap; simpa using hap _ (List.getElem_mem hlt)
      have bx := heap_alloc_new wr (.cells #[.string b[k].1, .int .i64 b[k].2] 107)
      have EA := (Ext.refl wr).alloc (.cells #[.string b[k].1, .int .i64 b[k].2] 107)
      have xx := blk2 bx
      have hst := join_step (a := a) hlt
      have hln := join_len a (b.take k)
      have hjs := join_srt (b.take k) oa.srt
      have HST := hid hst
      have HZ := hid hz
      clear hst hz
      rw [List.length_take] at hln
      go_wp2_with fail
      refine (sfind_any _ a b[k].1 _ (hva.ext (E.trans EA)) oa.srt (by omega)).mono ?_
      rintro e w4 ⟨i, hci, rfl, E4⟩
      have hh := hit_val oa.srt oa.nz hci
      rw [HZ.out] at hh
      simp only [ne_eq, not_true_eq_false, decide_false] at hh
      rw [hh]
      clear hh hci
      have bx := E4.heap bx
      have xx := blk2 bx
      have ho := own_ext (ho.alloc (.cells #[.string b[k].1, .int .i64 b[k].2] 107)) E4
      have E := (E.trans EA).trans E4
      clear EA E4
      go_wp2_with fail
      have hlen2 : (joinP a (b.take k)).length ≤ 1000000 := by omega
      refine (with_any _ (joinP a (b.take k)) b[k].1 b[k].2 _ (own_seg ho) hjs hlen2).mono ?_
      rintro e w5 ⟨v', rfl, ho', E5⟩
      have hz := E.size'
      have ho' := own_base ho' hz
      go_wp2
      go_roundw
      case rel => exact ⟨k + 1, by omega, by go_num, by rw [HST.out]; exact ho', E.trans E5⟩
      case measure => simp [intOf]; omega
    · obtain rfl : k = b.length := by omega
      go_wp2
      go_ret2
      refine ⟨_, rfl, ?_, E⟩
      rw [List.take_of_length_le (Nat.le_refl _)] at ho
      exact ho
set_option maxRecDepth 10000 in
set_option maxHeartbeats 1000000 in
theorem join_bad (va vb : Value) (a b : Prs) (w : World) (hva : Seg w va 2 a.length (cP a)) (hvb : Seg w vb 2 b.length (cP b)) (sa : ∀ p ∈ a, p.1.size ≤ 9223372036854775807) (sb : ∀ p ∈ b, p.1.size ≤ 9223372036854775807) (hlen : a.length + b.length ≤ 1000000) (hj : joinE a b ≠ 0) :
    Calls Tryd.prog 78 #[va, vb] w fun e w' => e = .returned (.tuple #[.slice none 0 0, .int .i64 (joinE a b)]) ∧ Ext w w' := by
  by_cases ea : storeErr a = 0
  · by_cases eb : storeErr b = 0
    · have oa := store_ok ea
      have ob := store_ok eb
      have hap : apartB a b = false := by
        cases h : apartB a b with
        | false => rfl
        | true => simp [joinE, ea, eb, h] at hj
      have HJ := hid (show joinE a b = 5 by simp [joinE, ea, eb, hap])
      have hex : ∃ j, ∃ h : j < b.length, valP a b[j].1 ≠ 0 := by
        unfold apartB at hap
        rw [List.all_eq_false] at hap
        obtain ⟨p, hp, hq⟩ := hap
        obtain ⟨i, hi, rfl⟩ := List.mem_iff_getElem.1 hp
        exact ⟨i, hi, by simpa using hq⟩
      have HEX := hid hex
      clear hj hap hex
      obtain ⟨h0, x, cap, rfl, h1, h2, h3⟩ := hvb
      have hvb : Seg w (.slice x b.length cap) 2 b.length (cP b) := ⟨h0, x, cap, rfl, h1, h2, h3⟩
      unfold maxLen at h2
      go_enter Tryd.func78, Tryd.ntmps78
      go_wp2_with fail
      refine (scheck_any _ a _ hva sa).mono ?_
      rw [ea]
      rintro e w1 ⟨rfl, E1⟩
      go_wp2_with fail
      refine (scheck_any _ b _ (hvb.ext E1) sb).mono ?_
      rw [eb]
      rintro e w2 ⟨rfl, E2⟩
      have EA := hid ea
      have EB := hid eb
      clear ea eb
      go_wp2_with fail
      refine (clone_Pair _ _ _ _ (hva.ext (E1.trans E2)) (cP_one _) (by omega)).mono ?_
      rintro e w3 ⟨ao, co, rfl, ho, E3⟩
      have ho := own_base ho (E1.trans E2).size'
      have E := (E1.trans E2).trans E3
      clear E1 E2 E3
      go_wp2_with fail
      go_loopw [8, 10, 11, 12, 27] (fun o _ _ _ i wr => ∃ k : Nat, k ≤ b.length ∧ i = .int .i64 k ∧ apartTo a b k ∧ wr.ownsRow w.heap.size 107 2 o (joinP a (b.take k)).length (cP (joinP a (b.take k))) ∧ Ext w wr) (fun _ _ _ _ i _ => b.length - (intOf i).toNat)
      case atStart => exact ⟨0, Nat.zero_le _, rfl, apartTo_zero _ _, by rw [List.take_zero, join_nil]; exact ho, E⟩
      case round =>
        clear E ho
        obtain ⟨k, hkl, rfl, hall, ho, E⟩ := hrel
        by_cases hlt : k < b.length
        · obtain ⟨bb, off, rfl, hc⟩ := h3 (by omega)
          have c := seg_pair hc hlt
          have c0 := E.cell c.1
          have c1 := E.cell c.2
          clear hc h3 c
          have bx := heap_alloc_new wr (.cells #[.string b[k].1, .int .i64 b[k].2] 107)
          have EA := (Ext.refl wr).alloc (.cells #[.string b[k].1, .int .i64 b[k].2] 107)
          have xx := blk2 bx
          have hst := join_step (a := a) hlt
          have hln := join_len a (b.take k)
          have hjs := join_srt (b.take k) oa.srt
          have HST := hid hst
          have HALL := hid hall
          clear hst hall
          rw [List.length_take] at hln
          go_wp2_with fail
          refine (sfind_any _ a b[k].1 _ (hva.ext (E.trans EA)) oa.srt (by omega)).mono ?_
          rintro e w4 ⟨i, hci, rfl, E4⟩
          have hh := hit_val oa.srt oa.nz hci
          clear hci
          have bx := E4.heap bx
          have xx := blk2 bx
          have ho := own_ext (ho.alloc (.cells #[.string b[k].1, .int .i64 b[k].2] 107)) E4
          have E := (E.trans EA).trans E4
          clear EA E4
          by_cases hz : valP a b[k].1 = 0
          · have HZ := hid hz
            simp only [hz, ne_eq, not_true_eq_false, decide_false] at hh
            rw [hh]
            clear hh hz
            go_wp2_with fail
            have hlen2 : (joinP a (b.take k)).length ≤ 1000000 := by omega
            refine (with_any _ (joinP a (b.take k)) b[k].1 b[k].2 _ (own_seg ho) hjs hlen2).mono ?_
            rintro e w5 ⟨v', rfl, ho', E5⟩
            have hz := E.size'
            have ho' := own_base ho' hz
            go_wp2
            go_roundw
            case rel => exact ⟨k + 1, by omega, by go_num, apartTo_succ HALL.out hlt HZ.out, by rw [HST.out]; exact ho', E.trans E5⟩
            case measure => simp [intOf]; omega
          · simp only [hz, ne_eq, not_false_eq_true, decide_true] at hh
            rw [hh]
            clear hh hz
            go_wp2
            go_ret2
            exact ⟨rT2 rfl (vI HJ.out.symm), E⟩
        · exfalso
          obtain ⟨j, hj, hne⟩ := HEX.out
          exact hne (hall j hj (by omega))
    · have q : (storeErr b != 0) = true := by simp [eb]
      have HJ := hid (show joinE a b = storeErr b by simp [joinE, ea, eb])
      clear hj eb
      go_enter Tryd.func78, Tryd.ntmps78
      go_wp2_with fail
      refine (scheck_any _ a _ hva sa).mono ?_
      rw [ea]
      rintro e w1 ⟨rfl, E1⟩
      go_wp2_with fail
      refine (scheck_any _ b _ (hvb.ext E1) sb).mono ?_
      rintro e w2 ⟨rfl, E2⟩
      go_wp2
      go_ret2
      exact ⟨rT2 rfl (vI HJ.out.symm), E1.trans E2⟩
  · have q : (storeErr a != 0) = true := by simp [ea]
    have HJ := hid (show joinE a b = storeErr a by simp [joinE, ea])
    clear hj ea
    go_enter Tryd.func78, Tryd.ntmps78
    go_wp2_with fail
    refine (scheck_any _ a _ hva sa).mono ?_
    rintro e w1 ⟨rfl, E1⟩
    go_wp2
    go_ret2
    exact ⟨rT2 rfl (vI HJ.out.symm), E1⟩
end Go.Proofs.YtijcckhkofkenaaDoor

/- Contracts and lemmas for the proofs of this seat; each theorem states its own conditions. -/
namespace Go.Proofs.YtijcckhkofkenaaDoor
open Go.RowKit Go.Maps
/-! rokeep.Pairs -/
/-- what the map of Pairs holds -/
def PF (f : ByteArray → Option Int) : Prop := ∀ k c, f k = some c → keyB k = true ∧ -20 ≤ c ∧ c ≤ 20
theorem pf_none : PF (fun _ => none) := fun _ _ h => by cases h
theorem pf_put {f : ByteArray → Option Int} (h : PF f) {k : ByteArray} {c : Int} (hk : keyB k = true) (h1 : -20 ≤ c) (h2 : c ≤ 20) : PF (fun x => if x = k then some c else f x) := fun x d hd => by
  dsimp only at hd
  split at hd
  · rename_i e; subst e; injection hd with hd; subst hd; exact ⟨hk, h1, h2⟩
  · exact h x d hd
theorem pf_store {f : ByteArray → Option Int} (h : PF f) {l : Prs} (h1 : srtP l) (h2 : nzP l) (h3 : ∀ k, valP l k = (f k).getD 0) : StoreOk l := by
  have hm : ∀ p ∈ l, f p.1 = some p.2 := fun p hp => by
    have a := h3 p.1
    rw [valP_mem h1 hp] at a
    cases hf : f p.1 with
    | none => rw [hf] at a; exact absurd a (h2 p hp)
    | some c => rw [hf] at a; simp at a; rw [a]
  exact ⟨fun p hp => (h _ _ (hm p hp)).1, fun p hp => by have := h _ _ (hm p hp); exact ⟨h2 p hp, by omega, by omega⟩, h1⟩
/-- where Pairs' loop stands -/
def PRel (w : World) (k : Nat) (wr : World) : Prop :=
  ∃ (D : DU) (f : ByteArray → Option Int), wr.ownsMap Tryd.prog 9 (plainElem Tryd.prog 3) w.heap.size k D ∧ MapF kS okS dI D f ∧ PF f ∧ Ext w wr
theorem prel_put {w w3 : World} {k : Nat} {D : DU} {f : ByteArray → Option Int} {key : ByteArray} {c : Int} (hF : MapF kS okS dI D f) (hP : PF f) (hk : keyB key = true) (h1 : -20 ≤ c) (h2 : c ≤ 20)
    (hown : w3.ownsMap Tryd.prog 9 (plainElem Tryd.prog 3) w.heap.size (k + 1) (D.put (kS key) (dI c))) (E : Ext w w3) : PRel w (k + 1) w3 :=
  ⟨_, _, hown, hF.put kS_inj kS_is (by have := keyB_size hk; unfold okS maxLen; omega) c, pf_put hP hk h1 h2, E⟩
end Go.Proofs.YtijcckhkofkenaaDoor
