/- Contracts and lemmas for the proof of TopLog; each theorem states its own conditions. -/
import Derived.Test.YtddghaoejnbkaaaGreatDoorQTopLogax
import Derived.Test.YtddghaoejnbkaaaGreatDoorQTopLogap
import Derived.Test.YtddghaoejnbkaaaGreatDoorQTopLogaw
import Derived.Test.YtddghaoejnbkaaaGreatDoorQTopLogac
import Derived.WalkLawsBesides
import Derived.Carry
import Derived.Test.YtddghaoejnbkaaaGreatDoorProg
import Derived.Test.YtddghaoejnbkaaaGreatDoorQTopLogan
import Derived.WalkSpells
import Derived.Test.YtddghaoejnbkaaaGreatDoorQTopLogaq
import Derived.Test.YtddghaoejnbkaaaGreatDoorQTopLogag
import Derived.Test.YtddghaoejnbkaaaGreatDoorQTopLogav
set_option linter.unusedVariables false
set_option linter.unusedSimpArgs false
/- Contracts and lemmas for the proofs of this seat; each theorem states its own conditions. -/
namespace Go.Proofs.YtddghaoejnbkaaaGreatDoor
open Go.RowKit Go.Maps
/-! the lock table, in memory -/
end Go.Proofs.YtddghaoejnbkaaaGreatDoor

/- Contracts and lemmas for the proofs of this seat; each theorem states its own conditions. -/
namespace Go.Proofs.YtddghaoejnbkaaaGreatDoor
open Go.RowKit Go.Maps
/-! lock.New, holds, May, Ready, Left -/
end Go.Proofs.YtddghaoejnbkaaaGreatDoor

/- Contracts and lemmas for the proofs of this seat; each theorem states its own conditions. -/
namespace Go.Proofs.YtddghaoejnbkaaaGreatDoor
open Go.RowKit
/-! plain laws of Join, Scan, Total -/
def joinP (a b : Prs) : Prs := b.foldl (fun o p => withP o p.1 p.2) a
theorem join_cons (a : Prs) (p : ByteArray × Int) (b : Prs) : joinP a (p :: b) = joinP (withP a p.1 p.2) b := rfl
theorem keyB_size {k : ByteArray} (h : keyB k = true) : k.size ≤ 6 := by
  simp [keyB] at h; exact h.1.2
theorem store_small {l : Prs} (h : StoreOk l) : ∀ p ∈ l, p.1.size ≤ 9223372036854775807 := fun p hp => by have := keyB_size (h.key p hp); omega
end Go.Proofs.YtddghaoejnbkaaaGreatDoor

/- Contracts and lemmas for the proofs of this seat; each theorem states its own conditions. -/
namespace Go.Proofs.YtddghaoejnbkaaaGreatDoor
open Go.RowKit Go.Maps
/-! May, Ready, Left -/
theorem infoI : (Tryz.prog.info? 3).map (fun i => (i.zero, i.size, i.bytes)) = some (some (.int .i64 0), 1, 8) := by kernel_rfl
end Go.Proofs.YtddghaoejnbkaaaGreatDoor

/- Contracts and lemmas for the proofs of this seat; each theorem states its own conditions. -/
namespace Go.Proofs.YtddghaoejnbkaaaGreatDoor
open Go.RowKit
/-! Join -/
end Go.Proofs.YtddghaoejnbkaaaGreatDoor

/- Contracts and lemmas for the proofs of this seat; each theorem states its own conditions. -/
namespace Go.Proofs.YtddghaoejnbkaaaGreatDoor
open Go.RowKit Go.Maps
/-! rokeep.Pairs -/
/-- what the map of Pairs holds -/
def PF (f : ByteArray → Option Int) : Prop := ∀ k c, f k = some c → keyB k = true ∧ -20 ≤ c ∧ c ≤ 20
theorem pf_none : PF (fun _ => none) := fun _ _ h => by cases h
theorem pf_put {f : ByteArray → Option Int} (h : PF f) {k : ByteArray} {c : Int} (hk : keyB k = true) (h1 : -20 ≤ c) (h2 : c ≤ 20) : PF (fun x => if x = k then some c else f x) := fun x d hd => by
  dsimp only at hd
  split at hd
  · rename_i e; subst e; injection hd with hd; subst hd; exact ⟨hk, h1, h2⟩
  · exact h x d hd
theorem pf_store {f : ByteArray → Option Int} (h : PF f) {l : Prs} (h1 : srtP l) (h2 : nzP l) (h3 : ∀ k, valP l k = (f k).getD 0) : StoreOk l := by
  have hm : ∀ p ∈ l, f p.1 = some p.2 := fun p hp => by
    have a := h3 p.1
    rw [valP_mem h1 hp] at a
    cases hf : f p.1 with
    | none => rw [hf] at a; exact absurd a (h2 p hp)
    | some c => rw [hf] at a; simp at a; rw [a]
  exact ⟨fun p hp => (h _ _ (hm p hp)).1, fun p hp => by have := h _ _ (hm p hp); exact ⟨h2 p hp, by omega, by omega⟩, h1⟩
end Go.Proofs.YtddghaoejnbkaaaGreatDoor

/- Contracts and lemmas for the proofs of this seat; each theorem states its own conditions. -/
namespace Go.Proofs.YtddghaoejnbkaaaGreatDoor
open Go.RowKit
def totN (L : List (Nat × List Value)) : Nat := (L.map (·.1)).sum
def totC (L : List (Nat × List Value)) : List Value := L.flatMap (·.2)
theorem totN_step {L : List (Nat × List Value)} {k : Nat} (hk : k < L.length) : totN (L.take (k + 1)) = totN (L.take k) + L[k].1 := by
  unfold totN; rw [List.take_succ_eq_append_getElem hk, List.map_append, List.sum_append]; simp only [List.map_cons, List.map_nil, List.sum_cons, List.sum_nil, Nat.add_zero]
theorem totC_step {L : List (Nat × List Value)} {k : Nat} (hk : k < L.length) : totC (L.take (k + 1)) = totC (L.take k) ++ L[k].2 := by
  unfold totC; rw [List.take_succ_eq_append_getElem hk, List.flatMap_append]; simp only [List.flatMap_cons, List.flatMap_nil, List.append_nil]
theorem totN_le (L : List (Nat × List Value)) (k : Nat) : totN (L.take k) ≤ totN L := by
  have : totN L = totN (L.take k) + totN (L.drop k) := by
    conv => lhs; rw [← List.take_append_drop k L]
    unfold totN; rw [List.map_append, List.sum_append]
  omega
theorem own_zero {w : World} {B e size : Nat} (b C : Nat) (cur : List Value) (hrow : RowB w b e cur) (hB : B ≤ b) (hC : C ≤ maxLen) (hl : cur.length = C * size) : w.ownsRow B e size (.slice (some ⟨b, 0, none⟩) 0 C) 0 [] :=
  own_of_row hrow hB (Nat.zero_le _) hC hl (by simp) (by simp)
theorem infoC_Str : (Tryz.prog.info? 9).map (fun i => (i.zero, i.size, i.bytes)) = some (some (.string ⟨#[]⟩), 1, 16) := by kernel_rfl
set_option maxHeartbeats 1000000 in
theorem grow_Str (n : Nat) (w : World) (hn : n ≤ 1000000000) : Calls Tryz.prog 167 #[.slice none 0 0, .int .i64 n] w fun e w' => ∃ v', e = .returned v' ∧ w'.ownsRow w.heap.size 9 1 v' 0 [] ∧ Ext w w' := by
  rcases Nat.eq_zero_or_pos n with h | h
  · subst h
    go_enter Tryz.func167, Tryz.ntmps167
    go_wp2
    go_ret
    exact ⟨_, rfl, World.ownsRow_nil _ _ _ _, Ext.refl _⟩
  · obtain ⟨i, hi, hz0, hz1, hz2⟩ := info_parts infoC_Str
    have hrz := fun ty => Lib.run_append_nil_zeros (P := Tryz.prog) w 32 3 ty 9 i _ .i64 .i64 Tryz.underlying32 Tryz.underlying3 hi hz0 n h (by rw [hz1]; decide) (by omega) (by rw [hz2]; omega)
    have hge := grownCap_ge w n 0 9
    have hle := grownCap_le_maxLen w n 0 9 (by unfold maxLen; omega)
    generalize grownCap w n 0 9 = K at hrz hge hle
    obtain ⟨R, hR⟩ : ∃ R : List Value, R = (Builtin.zeroCells (Value.cells (.string ⟨#[]⟩)) n ++ Builtin.zeroCells (Value.cells (.string ⟨#[]⟩)) (K - n)).toList := ⟨_, rfl⟩
    have hRa : Builtin.zeroCells (Value.cells (.string ⟨#[]⟩)) n ++ Builtin.zeroCells (Value.cells (.string ⟨#[]⟩)) (K - n) = R.toArray := by rw [hR]
    have hzs : ∀ m, (Builtin.zeroCells (Value.cells (.string ⟨#[]⟩)) m).size = m * 1 := fun m => by rw [size_zeroCells]; rfl
    have hRl : R.length = K * 1 := by rw [hR, Array.length_toList, Array.size_append, hzs, hzs]; omega
    rw [hRa] at hrz
    have E1 : Ext w (w.drew.alloc (.cells R.toArray 9)) := (Ext.refl w).drew.alloc _
    have hrow : RowB (w.drew.alloc (.cells R.toArray 9)) w.heap.size 9 R := heap_alloc_new w.drew _
    generalize w.drew.alloc (.cells R.toArray 9) = w1 at hrz E1 hrow
    have HL := hid hRl
    clear hRl hR hRa hzs hi hz0 hz1 hz2
    have hle' := hle
    unfold maxLen at hle'
    have hn0 : (0 : Int) < (n : Int) := by omega
    go_enter Tryz.func167, Tryz.ntmps167
    go_wp2_with (at_builtin; refine Lib.wpList_append_run _ rfl _ _ _ _ rfl _ _ rfl rfl _ _ (hrz _) ?_)
    go_ret
    exact ⟨_, rfl, own_zero _ _ R hrow (Nat.le_refl _) hle HL.out, E1⟩
set_option maxRecDepth 10000 in
set_option maxHeartbeats 1000000 in
theorem concat_Str (v : Value) (vs : List Value) (L : List (Nat × List Value)) (w : World) (hv : Seg w v 1 vs.length vs) (hl : vs.length ≤ L.length) (hl' : L.length ≤ vs.length) (hs : ∀ (i : Nat) (u : Value) (p : Nat × List Value), vs[i]? = some u → L[i]? = some p → Seg w u 1 p.1 p.2)
    (h1 : ∀ p ∈ L, ∀ u ∈ p.2, u.oneCell' = true) (hsum : totN L ≤ 1000000000) :
    Calls Tryz.prog 129 #[v] w fun e w' => ∃ v', e = .returned v' ∧ w'.ownsRow w.heap.size 9 1 v' (totN L) (totC L) ∧ Ext w w' := by
  obtain ⟨h0, a, cap, rfl, h2, h3, h4⟩ := hv
  clear h0
  unfold maxLen at h3
  have HS := hid hs
  have H1 := hid h1
  have H4 := hid h4
  clear hs h1 h4
  go_enter Tryz.func129, Tryz.ntmps129
  go_wp2
  go_loopw [3, 5, 11] (fun n _ i wr => ∃ k : Nat, k ≤ vs.length ∧ i = .int .i64 k ∧ n = .int .i64 (totN (L.take k)) ∧ Ext w wr) (fun _ _ i _ => vs.length - (intOf i).toNat)
  case atStart => exact ⟨0, Nat.zero_le _, rfl, rfl, Ext.refl _⟩
  case round =>
    obtain ⟨k, hk, rfl, rfl, E0⟩ := hrel
    have hb := totN_le L k
    by_cases hlt : k < vs.length
    · obtain ⟨b, off, rfl, hc⟩ := H4.out (by omega)
      have c0 := E0.cell (hc k vs[k] (by simp [hlt]))
      have hsk0 := HS.out k vs[k] (L[k]'(by omega)) (by simp [hlt]) (List.getElem?_eq_getElem _)
      obtain ⟨a1, c1, hq⟩ := seg_form hsk0
      have hst := totN_step (show k < L.length by omega)
      have hb1 := totN_le L (k + 1)
      rw [hq] at c0
      rw [hst] at hb1
      have HST := hid hst
      clear hc hq hst hsk0
      go_wp2
      go_roundw
      case rel => exact ⟨k + 1, by omega, by go_num, by rw [HST.out]; rfl, E0⟩
      case measure => simp [intOf]; omega
    · obtain rfl : k = vs.length := by omega
      have ht : L.take vs.length = L := List.take_of_length_le (by omega)
      rw [ht]
      clear ht hb
      go_wp2_with fail
      refine (grow_Str _ _ hsum).mono ?_
      rintro e w1 ⟨v1, rfl, ho, E1⟩
      replace ho := own_base ho E0.size'
      replace E1 := E0.trans E1
      clear E0
      go_wp2
      go_loopw [6, 8, 27] (fun o _ i wr => ∃ k : Nat, k ≤ vs.length ∧ i = .int .i64 k ∧ wr.ownsRow w.heap.size 9 1 o (totN (L.take k)) (totC (L.take k)) ∧ Ext w wr) (fun _ _ i _ => vs.length - (intOf i).toNat)
      case atStart => exact ⟨0, Nat.zero_le _, rfl, ho, E1⟩
      case round =>
        clear ho E1
        obtain ⟨k, hk, rfl, ho, E⟩ := hrel
        have hb := totN_le L k
        by_cases hlt : k < vs.length
        · obtain ⟨b, off, rfl, hc⟩ := H4.out (by omega)
          have c0 := E.cell (hc k vs[k] (by simp [hlt]))
          have hsk0 := HS.out k vs[k] (L[k]'(by omega)) (by simp [hlt]) (List.getElem?_eq_getElem _)
          obtain ⟨a1, c1, hq⟩ := seg_form hsk0
          have hsk := hsk0.ext E
          have hst := totN_step (show k < L.length by omega)
          have hsc := totC_step (show k < L.length by omega)
          have hb1 := totN_le L (k + 1)
          have h1k := H1.out L[k] (List.getElem_mem _)
          have hge := own_ge ho
          have hB := E.size'
          rw [hq] at c0 hsk
          rw [hst] at hb1
          have HST := hid (And.intro hst hsc)
          clear hc hq hst hsc hsk0
          go_wp2_with (first | (at_builtin; refine (wpList_app rfl _ _ 32 rfl w.heap.size 9 (.string ⟨#[]⟩) 1 16 Tryz.underlying32 infoC_Str rfl (by decide) _ (totN (L.take k)) (totC (L.take k)) rfl ho _ (L[k]'(by omega)).1 (L[k]'(by omega)).2 rfl hsk h1k (by omega) (by unfold maxLen; omega) hB ?_); intro v' w4 ho' hg))
          go_roundw
          case rel => exact ⟨k + 1, by omega, by go_num, by rw [HST.out.1, HST.out.2]; exact ho', E.grown hg (fun j e => hge j e)⟩
          case measure => simp [intOf]; omega
        · obtain rfl : k = vs.length := by omega
          have ht : L.take vs.length = L := List.take_of_length_le (by omega)
          rw [ht] at ho
          go_wp2
          go_ret
          exact ⟨_, rfl, ho, E⟩
end Go.Proofs.YtddghaoejnbkaaaGreatDoor

/- Contracts and lemmas for the proofs of this seat; each theorem states its own conditions. -/
namespace Go.Proofs.YtddghaoejnbkaaaGreatDoor
open Go.RowKit
/-! rokeep.run, deedBegun, deed.Serial -/
theorem run_len (l : Prs) (d : Ops) : (runS l d).length ≤ l.length + 2 * d.length := by
  unfold runS
  cases e : runP l d with
  | none => simp
  | some l' => exact len_run e
/-- deeds, in a row -/
def SegDs (w : World) (v : Value) (D : List Ops) : Prop :=
  ∃ vs : List Value, vs.length = D.length ∧ Seg w v 1 vs.length vs ∧ ∀ (i : Nat) (u : Value) (d : Ops), vs[i]? = some u → D[i]? = some d → Seg w u 4 d.length (cO d)
theorem SegDs.ext {w w' : World} {v : Value} {D : List Ops} (h : SegDs w v D) (k : Ext w w') : SegDs w' v D := by
  obtain ⟨vs, h1, h2, h3⟩ := h
  exact ⟨vs, h1, h2.ext k, fun i u d a b => (h3 i u d a b).ext k⟩
theorem OwnDs.seg {w : World} {B B' : Nat} {v : Value} {vs : List Value} {D : List Ops} (h : OwnDs w B vs D) (ho : w.ownsRow B' 40 1 v vs.length vs) : SegDs w v D :=
  ⟨vs, h.len, own_seg ho, fun i u d a b => own_seg (h.own i u d a b)⟩
end Go.Proofs.YtddghaoejnbkaaaGreatDoor

/- Contracts and lemmas for the proofs of this seat; each theorem states its own conditions. -/
namespace Go.Proofs.YtddghaoejnbkaaaGreatDoor
open Go.RowKit
variable {eB : Nat}
/-! merge: Rounds, many, Waits -/
theorem ClsSt.form {w : World} {S : Nat → Prop} {F : Value → Prop} {v : Value} {bs : List Bat} (h : ClsSt eB w S F v bs) : ∃ a c, v = .slice a bs.length c := by
  obtain ⟨us, _, o, _⟩ := h
  exact own_form o
theorem BatSt.form {w : World} {S : Nat → Prop} {v : Value} {X : Bat} (h : BatSt eB w S v X) : ∃ a c, v = .slice a X.length c := by
  obtain ⟨es, _, o, _⟩ := h
  exact own_form o
set_option maxRecDepth 100000 in
set_option maxHeartbeats 2000000 in
theorem mrounds_ok {w : World} {S : Nat → Prop} {bm : Nat} {cl : List (List Bat)} {op : List Bat} (h : MergeSt eB w S bm cl op) :
    Calls Tryz.prog 31 #[.pointer (some ⟨bm, 0, none⟩)] w fun e w' => e = .returned (.int .i64 (rdM cl)) ∧ Ext w w' := by
  obtain ⟨bc, bo, vc, vo, h⟩ := h
  have H := hid h
  have n0 := h.n0
  have n4 := h.n4
  have cb := h.cells.1
  have c0 := (h.cellC h.n0).1
  obtain ⟨a0, k0, e0⟩ := (h.cls 0 h.n0).form
  rw [e0] at c0
  clear h e0
  have HR0 := hid (show mnTo cl 0 = (cl.getD 0 []).length from rfl)
  obtain ⟨N0, hN0⟩ : ∃ N0, (cl.getD 0 []).length = N0 := ⟨_, rfl⟩
  rw [hN0] at c0 HR0
  clear hN0
  go_enter Tryz.func31, Tryz.ntmps31
  go_wp2_with fail
  go_loopw [3, 5, 18] (fun nv _ iv wr => ∃ i : Nat, i ≤ cl.length ∧ iv = .int .i64 i ∧ nv = .int .i64 (mnTo cl i) ∧ Ext w wr) (fun _ _ iv _ => cl.length - (intOf iv).toNat)
  case atStart => exact ⟨0, Nat.zero_le _, rfl, by rw [HR0.out], Ext.refl _⟩
  case round =>
    obtain ⟨i, hi, rfl, rfl, Ei⟩ := hrel
    by_cases hil : i < cl.length
    · have ci := Ei.cell (H.out.cellC hil).1
      obtain ⟨ai, ki, e1⟩ := (H.out.cls i hil).form
      rw [e1] at ci
      have HR := hid (show mnTo cl (i + 1) = min (mnTo cl i) (cl.getD i []).length from rfl)
      obtain ⟨M, hM⟩ : ∃ M, mnTo cl i = M := ⟨_, rfl⟩
      obtain ⟨N, hN⟩ : ∃ N, (cl.getD i []).length = N := ⟨_, rfl⟩
      rw [hM, hN] at HR
      rw [hN] at ci
      simp only [hM]
      clear hM hN e1
      go_wp2
      go_roundw
      case rel => exact ⟨i + 1, by omega, by go_num, by rw [HR.out]; exact vI (by omega), Ei⟩
      case measure => simp [intOf] <;> omega
    · obtain rfl : i = cl.length := by omega
      go_wp2
      go_ret
      exact ⟨rfl, Ei⟩
def sumTo (bs : List Bat) : Nat → Nat
  | 0 => 0
  | j + 1 => sumTo bs j + (bs.getD j []).length
theorem sumTo_take (bs : List Bat) : ∀ {j : Nat}, j ≤ bs.length → sumTo bs j = ((bs.take j).map List.length).sum
  | 0, _ => by simp [sumTo]
  | j + 1, h => by
    rw [sumTo, sumTo_take bs (by omega), List.take_succ_eq_append_getElem (by omega), List.map_append, List.sum_append]
    simp [show j < bs.length by omega]
theorem sumTo_all (bs : List Bat) : sumTo bs bs.length = (bs.map List.length).sum := by
  rw [sumTo_take bs (Nat.le_refl _), List.take_of_length_le (Nat.le_refl _)]
theorem sumTo_mono (bs : List Bat) : ∀ {j k : Nat}, j ≤ k → sumTo bs j ≤ sumTo bs k
  | j, 0, h => by obtain rfl : j = 0 := by omega
                  exact Nat.le_refl _
  | j, k + 1, h => by
    rcases Nat.lt_or_ge j (k + 1) with e | e
    · have := sumTo_mono bs (j := j) (k := k) (by omega)
      rw [sumTo]; omega
    · obtain rfl : j = k + 1 := by omega
      exact Nat.le_refl _
theorem manyTo_mono (cl : List (List Bat)) (op : List Bat) : ∀ {j k : Nat}, j ≤ k → manyTo cl op j ≤ manyTo cl op k
  | j, 0, h => by obtain rfl : j = 0 := by omega
                  exact Nat.le_refl _
  | j, k + 1, h => by
    rcases Nat.lt_or_ge j (k + 1) with e | e
    · have := manyTo_mono cl op (j := j) (k := k) (by omega)
      rw [manyTo]; omega
    · obtain rfl : j = k + 1 := by omega
      exact Nat.le_refl _
set_option maxRecDepth 100000 in
set_option maxHeartbeats 2000000 in
theorem mmany_ok {w : World} {S : Nat → Prop} {bm : Nat} {cl : List (List Bat)} {op : List Bat} (h : MergeSt eB w S bm cl op) (hm : manyM cl op ≤ 1000000) (hcl : ∀ i, i < cl.length → (cl.getD i []).length ≤ 1000000) :
    Calls Tryz.prog 97 #[.pointer (some ⟨bm, 0, none⟩)] w fun e w' => e = .returned (.int .i64 (manyM cl op)) ∧ Ext w w' := by
  obtain ⟨bc, bo, vc, vo, h⟩ := h
  have H := hid h
  have n0 := h.n0
  have n4 := h.n4
  have cb := h.cells.1
  have cb' := h.cells.2
  clear h
  have HM := hid (fun i (hi : i ≤ cl.length) => (Nat.le_trans (manyTo_mono cl op hi) hm : manyTo cl op i ≤ 1000000))
  clear hm
  go_enter Tryz.func97, Tryz.ntmps97
  go_wp2_with fail
  go_loopw [3, 4, 6, 12, 33] (fun nv _ _ iv _ wr => ∃ i : Nat, i ≤ cl.length ∧ iv = .int .i64 i ∧ nv = .int .i64 (manyTo cl op i) ∧ Ext w wr) (fun _ _ _ iv _ _ => cl.length - (intOf iv).toNat)
  case atStart => exact ⟨0, Nat.zero_le _, rfl, rfl, Ext.refl _⟩
  case round =>
    obtain ⟨wo, rfl⟩ : ∃ wo : World, wo = wr := ⟨_, rfl⟩
    obtain ⟨i, hi, rfl, rfl, Ei⟩ := hrel
    by_cases hil : i < cl.length
    · have cbi := Ei.cell cb
      have cbi' := Ei.cell cb'
      have ci := Ei.cell (H.out.cellC hil).1
      have oi := Ei.cell (H.out.cellO hil).1
      obtain ⟨ai, ki, e1⟩ := (H.out.cls i hil).form
      obtain ⟨ao, ko, e2⟩ := (H.out.opn i hil).form
      rw [e1] at ci
      rw [e2] at oi
      obtain ⟨us, hus, hown, _, hbs⟩ := H.out.cls i hil
      rw [e1] at hown
      replace hown := own_ext hown Ei
      have hc := hcl i hil
      have HB := hid (fun j u (hu : us[j]? = some u) (hj : j < (cl.getD i []).length) => (hbs j u _ hu (List.getElem?_eq_getElem hj)).1.form)
      have HT := hid (show manyTo cl op (i + 1) = manyTo cl op i + (op.getD i []).length + sumTo (cl.getD i []) (cl.getD i []).length by rw [sumTo_all]; rfl)
      have h1 := HM.out i hi
      have h2 := HM.out (i + 1) hil
      rw [HT.out] at h2
      obtain ⟨M, hM⟩ : ∃ M, manyTo cl op i = M := ⟨_, rfl⟩
      obtain ⟨N, hN⟩ : ∃ N, (op.getD i []).length = N := ⟨_, rfl⟩
      rw [hM, hN] at h2
      rw [hM] at h1
      rw [hN] at oi
      have HT : Hid (manyTo cl op (i + 1) = M + N + sumTo (cl.getD i []) (cl.getD i []).length) := by rw [← hM, ← hN]; exact HT
      simp only [hM]
      clear hM hN e1 e2 hbs
      generalize cl.getD i [] = bs at *
      go_wp2_with fail
      go_loopw [3, 6, 33] (fun nv _ jv wr => ∃ j : Nat, j ≤ bs.length ∧ jv = .int .i64 j ∧ nv = .int .i64 ((M + N + sumTo bs j : Nat) : Int) ∧ Ext wo wr) (fun _ _ jv _ => bs.length - (intOf jv).toNat)
      case atStart => exact ⟨0, Nat.zero_le _, rfl, vI (by simp [sumTo]), Ext.refl _⟩
      case round =>
        obtain ⟨j, hj, rfl, rfl, Ej⟩ := hrel
        by_cases hjl : j < bs.length
        · obtain ⟨bu, offu, rfl, _, q1, q2, hcu⟩ := seg_cells (own_seg hown) (by omega)
          unfold maxLen at q2
          have cu := Ej.cell (hcu j us[j] (List.getElem?_eq_getElem (by omega)))
          obtain ⟨au, ku, e3⟩ := HB.out j us[j] (List.getElem?_eq_getElem (by omega)) hjl
          rw [e3] at cu
          have HS := hid (show sumTo bs (j + 1) = sumTo bs j + bs[j].length by rw [sumTo]; simp [hjl])
          have hmo := sumTo_mono bs (show j + 1 ≤ bs.length from hjl)
          rw [HS.out] at hmo
          obtain ⟨X, hX⟩ : ∃ X, bs[j].length = X := ⟨_, rfl⟩
          rw [hX] at cu HS hmo
          generalize sumTo bs bs.length = T at h2 hmo
          obtain ⟨Y, hY⟩ : ∃ Y, sumTo bs j = Y := ⟨_, rfl⟩
          rw [hY] at HS hmo
          simp only [hY]
          clear hX hY e3 hcu HT
          go_wp2
          go_roundw
          case rel => exact ⟨j + 1, by omega, by go_num, by rw [HS.out]; exact vI (by omega), Ej⟩
          case measure => simp [intOf] <;> omega
        · obtain rfl : j = bs.length := by omega
          have HT2 := hid (HT.out.symm)
          generalize sumTo bs bs.length = T at h2 HT2 ⊢
          go_wp2
          go_roundw
          case rel => exact ⟨i + 1, by omega, by go_num, by rw [← HT2.out], Ei.trans Ej⟩
          case measure => simp [intOf] <;> omega
    · obtain rfl : i = cl.length := by omega
      go_wp2
      go_ret
      exact ⟨rfl, Ei⟩
end Go.Proofs.YtddghaoejnbkaaaGreatDoor
