/- Contracts and lemmas for the proof of PartsPlay; each theorem states its own conditions. -/
import Derived.Test.YtimchedebcoohaaGreatDoorQPartsPlayay
import Derived.Test.YtimchedebcoohaaGreatDoorQPartsPlayax
import Derived.Test.YtimchedebcoohaaGreatDoorQPartsPlayak
import Derived.Test.YtimchedebcoohaaGreatDoorQPartsPlayas
import Derived.Test.YtimchedebcoohaaGreatDoorQPartsPlayah
import Derived.Test.YtimchedebcoohaaGreatDoorQPartsPlayao
import Derived.Test.YtimchedebcoohaaGreatDoorQPartsPlayac
import Derived.Test.YtimchedebcoohaaGreatDoorQPartsPlayaa
import Derived.Laws.IdiomCopy
set_option linter.unusedVariables false
set_option linter.unusedSimpArgs false
/- Contracts and lemmas for the proofs of this seat; each theorem states its own conditions. -/
namespace Go.Proofs.YtimchedebcoohaaGreatDoor
theorem cutsOk_of {C : List ByteArray} (hp : C.Pairwise fun a b => blt a b = true) (hk : ∀ x ∈ C, keyB x = true) : allTo (cutOk C) C.length := by
  intro i hi
  have h1 := hk C[i] (List.getElem_mem hi)
  cases i with
  | zero => simp [cutOk, kAt_eq hi, h1]
  | succ i =>
    have h2 := List.pairwise_iff_getElem.1 hp i (i + 1) (by omega) hi (by omega)
    simp [cutOk, kAt_eq hi, kAt_eq (show i < C.length by omega), h1, h2]
theorem nm_key : ∀ j, (h : j < nmL.length) → keyB nmL[j] = true := by decide +kernel
theorem nm_lt : ∀ i, (hi : i < nmL.length) → ∀ j, (hj : j < nmL.length) → i < j → blt nmL[i] nmL[j] = true := by decide +kernel
theorem mkC_mem (l : List Int) : ∀ k, k ≤ 6 → ∀ x ∈ mkC l k, ∃ j, ∃ h : j < nmL.length, j < k ∧ x = nmL[j]
  | 0, _, x, hx => by simp [mkC] at hx
  | k + 1, hk, x, hx => by
    have ih := mkC_mem l k (by omega)
    have hl : k < nmL.length := by simp [nmL]; omega
    simp only [mkC] at hx
    split at hx
    · rw [List.mem_append] at hx
      rcases hx with hx | hx
      · obtain ⟨j, h, h1, h2⟩ := ih x hx; exact ⟨j, h, by omega, h2⟩
      · rw [List.mem_singleton, kAt_eq hl] at hx
        exact ⟨k, hl, by omega, hx⟩
    · obtain ⟨j, h, h1, h2⟩ := ih x hx; exact ⟨j, h, by omega, h2⟩
theorem mkC_sorted (l : List Int) : ∀ k, k ≤ 6 → (mkC l k).Pairwise fun a b => blt a b = true
  | 0, _ => by simp [mkC]
  | k + 1, hk => by
    have ih := mkC_sorted l k (by omega)
    have hl : k < nmL.length := by simp [nmL]; omega
    simp only [mkC]
    split
    · rw [List.pairwise_append]
      refine ⟨ih, by simp, fun a ha b hb => ?_⟩
      rw [List.mem_singleton, kAt_eq hl] at hb
      obtain ⟨j, h, h1, h2⟩ := mkC_mem l k (by omega) a ha
      rw [h2, hb]; exact nm_lt j h k hl h1
    · exact ih
theorem mkO_range (l : List Int) : ∀ k, ∀ n ∈ mkO l k, 0 ≤ n ∧ n < 4
  | 0, n, hn => by simp [mkO] at hn; omega
  | k + 1, n, hn => by
    simp only [mkO] at hn
    split at hn
    · rw [List.mem_append] at hn
      rcases hn with hn | hn
      · exact mkO_range l k n hn
      · rw [List.mem_singleton] at hn
        rw [hn]; exact ⟨wi_lo (by omega), wi_hi (by omega)⟩
    · exact mkO_range l k n hn
theorem ownsOk_of {O : List Int} (h : ∀ n ∈ O, 0 ≤ n ∧ n < 4) : allTo (ownOk O) O.length := by
  intro i hi
  have := h O[i] (List.getElem_mem hi)
  exact ownOk_yes hi this.1 this.2
theorem mk_ok (l : List Int) : MapOk (mkC l 6) (mkO l 6) :=
  ⟨by have := mkC_len l 6; omega, mkO_len l 6, cutsOk_of (mkC_sorted l 6 (by omega)) (fun x hx => by
    obtain ⟨j, h, _, h2⟩ := mkC_mem l 6 (by omega) x hx; rw [h2]; exact nm_key j h), ownsOk_of (mkO_range l 6)⟩
theorem mk_small (l : List Int) : ∀ x ∈ mkC l 6, x.size ≤ 9223372036854775807 := fun x hx => by
  obtain ⟨j, h, _, h2⟩ := mkC_mem l 6 (by omega) x hx
  have : ∀ j, (h : j < nmL.length) → nmL[j].size ≤ 2 := by decide +kernel
  have := this j h
  rw [h2]; omega
theorem mem_range_of {O : List Int} (h : allTo (ownOk O) O.length) : ∀ n ∈ O, 0 ≤ n ∧ n < 4 := by
  intro n hn
  obtain ⟨i, hi, rfl⟩ := List.mem_iff_getElem.1 hn
  have := h i hi
  simp [ownOk, hi] at this
  omega
theorem ok_set {C : List ByteArray} {O : List Int} (h : MapOk C O) (i : Nat) (n : Int) (h0 : 0 ≤ n) (h1 : n < 4) : MapOk C (O.set i n) :=
  ⟨h.few, by rw [List.length_set]; exact h.len, h.cut, by
    have := mem_range_of h.own
    exact ownsOk_of fun m hm => by
      rcases List.mem_or_eq_of_mem_set hm with hm | hm
      · exact this m hm
      · subst hm; exact ⟨h0, h1⟩⟩
/-- the place of a key -/
def plc (C : List ByteArray) (k : ByteArray) : Nat := idx (leAt C k) C.length
theorem plc_cut {C : List ByteArray} (hs : srt C) (k : ByteArray) : cutAt (leAt C k) C.length (plc C k) := by
  have hd := dropsB_le hs k
  have : ∃ i, cutAt (leAt C k) C.length i := by
    have key : ∀ m, m ≤ C.length → (∃ i, cutAt (leAt C k) C.length i) ∨ ∀ j, j < m → leAt C k j = true := by
      intro m
      induction m with
      | zero => intro _; right; intro j hj; omega
      | succ m ih =>
        intro hm
        rcases ih (by omega) with h | h
        · exact .inl h
        · cases hb : leAt C k m with
          | true => right; intro j hj; rcases Nat.lt_succ_iff_lt_or_eq.1 hj with h' | h'
                    · exact h j h'
                    · subst h'; exact hb
          | false =>
            left
            refine ⟨m, by omega, h, fun j hj hjn => ?_⟩
            cases hb' : leAt C k j with
            | false => rfl
            | true =>
              rcases Nat.eq_or_lt_of_le hj with h' | h'
              · subst h'; rw [hb] at hb'; cases hb'
              · have := hd m j h' hjn hb'; rw [hb] at this; cases this
    rcases key C.length (Nat.le_refl _) with h | h
    · exact h
    · exact ⟨C.length, Nat.le_refl _, h, fun j hj hjn => by omega⟩
  obtain ⟨i, hi⟩ := this
  have := idx_spec _ _ _ hi
  unfold plc; rw [this]; exact hi
theorem plc_le {C : List ByteArray} (hs : srt C) (k : ByteArray) : plc C k ≤ C.length := (plc_cut hs k).1
/-- the loop that looks for it: j is the place when it stops -/
theorem plc_stop {C : List ByteArray} (hs : srt C) {k : ByteArray} {j : Nat} (hj : j ≤ C.length) (h1 : allTo (leAt C k) j) (h2 : j < C.length → leAt C k j = false) : plc C k = j := by
  refine idx_spec _ _ _ ⟨hj, h1, fun m hm hmn => ?_⟩
  rcases Nat.eq_or_lt_of_le hm with h | h
  · subst h; exact h2 hmn
  · cases hb : leAt C k m with
    | false => rfl
    | true => have := dropsB_le hs k j m h hmn hb; rw [h2 (by omega)] at this; cases this
theorem whose_plc (C : List ByteArray) (O : List Int) (k : ByteArray) : whose C O k = O.getD (plc C k) 0 := rfl
theorem whose_set_hit {C : List ByteArray} {O : List Int} {k : ByteArray} {i : Nat} {n : Int} (hi : i < O.length) (h : plc C k = i) : whose C (O.set i n) k = n := by
  rw [whose_plc, h]; simp [hi]
theorem whose_set_miss {C : List ByteArray} {O : List Int} {k : ByteArray} {i : Nat} {n : Int} (h : plc C k ≠ i) : whose C (O.set i n) k = whose C O k := by
  rw [whose_plc, whose_plc]; simp [List.getElem?_set, Ne.symm h]
theorem OwnMap.unpack {w : World} {B : Nat} {v : Value} {cuts : List ByteArray} {owners : List Int} (h : OwnMap w B v cuts owners) :
    ∃ a k a' k', v = .agg #[.slice a cuts.length k, .slice a' owners.length k'] ∧ IsMap w (.agg #[.slice a cuts.length k, .slice a' owners.length k']) cuts owners := by
  have h' := h.is
  obtain ⟨a, k, a', k', rfl, _⟩ := h'.unpack
  exact ⟨a, k, a', k', rfl, h'⟩
theorem OwnMap.set2 {w : World} {B : Nat} {v : Value} {cuts : List ByteArray} {owners : List Int} (h : OwnMap w B v cuts owners) {p q : Addr} {u u' : Value} (hp : p.block < B) (hq : q.block < B) :
    OwnMap ((w.setCell p u).setCell q u') B v cuts owners := by
  obtain ⟨c, o, h1, h2, h3⟩ := h
  exact ⟨c, o, h1, own_set2 h2 hp hq, own_set2 h3 hp hq⟩
end Go.Proofs.YtimchedebcoohaaGreatDoor

/- Contracts and lemmas for the proofs of this seat; each theorem states its own conditions. -/
namespace Go.Proofs.YtimchedebcoohaaGreatDoor
open Go.RowKit
/-! shard.Part -/
def partP (C : List ByteArray) (O : List Int) (l : Prs) (n : Int) : Prs := l.filter fun x => !(whose C O x.1 != n)
theorem whose_rng {C : List ByteArray} {O : List Int} (h : MapOk C O) (k : ByteArray) : 0 ≤ whose C O k ∧ whose C O k < 4 := by
  have hl := h.len
  have hp := plc_le h.srt k
  rw [whose_plc]
  have hlt : plc C k < O.length := by omega
  have e : O.getD (plc C k) 0 = O[plc C k] := by simp [hlt]
  rw [e]
  exact mem_range_of h.own _ (List.getElem_mem hlt)
set_option maxRecDepth 10000 in
set_option maxHeartbeats 1000000 in
theorem part1_any (x : ByteArray × Int) (bm bo : Nat) (c o : Value) (C : List ByteArray) (O : List Int) (n : Int) (w : World) (hbm : w.heap[bm]? = some (.cells #[c, o] 25 (0, 0))) (hbo : w.cell? ⟨bo, 0, none⟩ = some (.int .i64 n)) (hm : IsMap w (.agg #[c, o]) C O) (ok : MapOk C O) :
    Calls Tryz.prog 57 #[.agg #[.string x.1, .int .i64 x.2], .pointer (some ⟨bm, 0, none⟩), .pointer (some ⟨bo, 0, none⟩)] w fun e w' => e = .returned (.bool (whose C O x.1 != n)) ∧ Ext w w' := by
  have E0 := (Ext.refl w).alloc (.cells #[.string x.1, .int .i64 x.2] 55)
  have xb := blk2 (heap_alloc_new w (.cells #[.string x.1, .int .i64 x.2] 55))
  have xm := blk2 (E0.heap hbm)
  have xo := E0.cell hbo
  have few := ok.few
  have W := fun w' (E : Ext (w.alloc (.cells #[.string x.1, .int .i64 x.2] 55)) w') => of_any (.agg #[c, o]) C O x.1 w' (hm.ext (E0.trans E)) ok.srt ok.len (by omega)
  have W := hid W
  generalize whose C O x.1 = z at W ⊢
  obtain ⟨key, u⟩ := x
  dsimp only at *
  clear hm hbm hbo
  generalize hw : w.alloc (.cells #[.string key, .int .i64 u] 55) = w0 at E0 xb xm xo W
  go_enter Tryz.func57, Tryz.ntmps57
  go_wp2_with fail
  refine wp_region_ph [.k (.agg #[c, o]), .k (.pointer (some ⟨w.heap.size, 0, none⟩)), .k (.string key), .k (.int .i64 z), .k (.int .i64 n), .k (.bool (z != n))] [] (by kernel_rfl) (by kernel_rfl) (by kernel_rfl) rfl rfl ?hs ?hC ?he
  case hC =>
    intro i hi
    simp at hi
  case hs =>
    refine ⟨?_, ?_, ?_, ?_, ?_, ?_, trivial⟩
    all_goals (
      intro x w' hE hd
      try simp [PhDeps, at_k, at_p, at_t, at_any, Region.binds] at hd
      try ((with_reducible refine Exists.elim hd ?_); clear hd; intro y hd; obtain ⟨hd, hG⟩ := hd)
      have d1 := hE.cell xb.1
      have d2 := hE.cell xm.1
      have d3 := hE.cell xm.2.1
      have d4 := hE.cell xo
      first | simp only [frL, List.length_cons, List.length_nil, List.take_succ_cons, List.take_zero, Nat.reduceAdd, Nat.zero_add, List.setIfInBounds_toArray, List.set_cons_zero, List.set_cons_succ, hd] | simp only [frL, List.length_cons, List.length_nil, List.take_succ_cons, List.take_zero, Nat.reduceAdd, Nat.zero_add, List.setIfInBounds_toArray, List.set_cons_zero, List.set_cons_succ]
      go_wp2_with (first | (go_at_call 41; refine ((W.out _ (by assumption))).mono ?_; rintro e wa ⟨rfl, hea⟩))
      all_goals first
        | ((with_reducible refine phK ?_ ?_); (focus rfl); (repeat (first | (with_reducible assumption) | (with_reducible exact Ext.refl _) | (with_reducible refine Ext.drew ?_) | (with_reducible refine Ext.drewN ?_ _) | (with_reducible refine Ext.alloc ?_ _) | (with_reducible refine Ext.trans ?_ (by with_reducible assumption)))))
        | ((with_reducible refine phT rfl hG ?_); (repeat (first | (with_reducible assumption) | (with_reducible exact Ext.refl _) | (with_reducible refine Ext.drew ?_) | (with_reducible refine Ext.drewN ?_ _) | (with_reducible refine Ext.alloc ?_ _) | (with_reducible refine Ext.trans ?_ (by with_reducible assumption)))))
        | ((with_reducible refine phU hG ?_); (repeat (first | (with_reducible assumption) | (with_reducible exact Ext.refl _) | (with_reducible refine Ext.drew ?_) | (with_reducible refine Ext.drewN ?_ _) | (with_reducible refine Ext.alloc ?_ _) | (with_reducible refine Ext.trans ?_ (by with_reducible assumption)))))
        | (with_reducible exact phBox hE)
        | (with_reducible exact phRow hE))
  case he =>
    intro x w2 E2 hd
    simp [PhEnd, at_k, at_p, at_t, at_any] at hd
    simp only [frL, List.length_cons, List.length_nil, List.take_succ_cons, List.take_zero, Nat.reduceAdd, Nat.zero_add, List.setIfInBounds_toArray, List.set_cons_zero, List.set_cons_succ, hd, List.length_cons, List.length_nil, List.drop_succ_cons, List.drop_zero]
    clear hd
    clear hw
    go_wp2
    go_ret
    exact ⟨rfl, E0.trans E2⟩
/-- Part, at what may be -/
theorem part_fun (C : List ByteArray) (O : List Int) (n : Int) (l : Prs) : (l.filter fun x => !(whose C O x.1 != n)) = partP C O l n := rfl
set_option maxRecDepth 10000 in
set_option maxHeartbeats 1000000 in
theorem part_ok (vm vl : Value) (C : List ByteArray) (O : List Int) (l : Prs) (n : Int) (w : World) (hm : IsMap w vm C O) (ok : MapOk C O) (hk : ∀ k ∈ C, k.size ≤ 9223372036854775807) (hv : Seg w vl 2 l.length (cP l)) (os : StoreOk l) (hlen : l.length ≤ 1000000) (h0 : 0 ≤ n) (h4 : n < 4) :
    Calls Tryz.prog 32 #[vm, vl, .int .i64 n] w fun e w' => ∃ v', e = .returned (.tuple #[v', .int .i64 0]) ∧ w'.ownsRow w.heap.size 55 2 v' (partP C O l n).length (cP (partP C O l n)) ∧ Ext w w' := by
  obtain ⟨a1, k1, a2, k2, rfl, m1, m2⟩ := hm.unpack
  generalize hc : Value.slice a1 C.length k1 = c at *
  generalize ho : Value.slice a2 O.length k2 = o at *
  have b1 := heap_1 w (.cells #[c, o] 25) (.cells #[.int .i64 n] 3)
  have b2 := heap_2 w (.cells #[c, o] 25) (.cells #[.int .i64 n] 3)
  have E0 := ((Ext.refl w).alloc (.cells #[c, o] 25)).alloc (.cells #[.int .i64 n] 3)
  generalize hw0 : (w.alloc (.cells #[c, o] 25)).alloc (.cells #[.int .i64 n] 3) = w0 at b1 b2 E0
  have x1 := blk2 b1
  have x2 := cell_of_one b2
  replace hm := hm.ext E0
  replace hv := hv.ext E0
  have MC := mcheck_any (.agg #[c, o]) C O w0 hm hk
  rw [mapErr_ok ok] at MC
  have MC := hid MC
  subst hc; subst ho
  go_enter Tryz.func32, Tryz.ntmps32
  go_wp2_with fail
  refine (MC.out).mono ?_
  clear MC
  rintro e w1 ⟨rfl, E1⟩
  have SC := scheck_any vl l w1 (hv.ext E1) (store_small os)
  rw [storeErr_ok os] at SC
  have SC := hid SC
  go_wp2_with fail
  refine (SC.out).mono ?_
  clear SC
  rintro e w2 ⟨rfl, E2⟩
  have EE := E1.trans E2
  have x3 := EE.cell x2
  have b1' := EE.heap b1
  have hm2 := hm.ext EE
  have hmf : ∀ (fn : Fn) (first cap : Array Value) (w : World), (Instr.makeFunc fn first cap).run Tryz.prog w = .ok (.func fn first cap) w := fun _ _ _ _ => rfl
  have CL := hid (clone_Pair vl l.length (cP l) w2 (hv.ext EE) (cP_one l) (by omega))
  clear hw0
  go_wp2_with fail
  refine (CL.out).mono ?_
  clear CL
  rintro e w3 ⟨a3, c3, rfl, o3, E3⟩
  have DF := delF_P w2.heap.size 57 #[.pointer (some ⟨w.heap.size, 0, none⟩), .pointer (some ⟨w.heap.size + 1, 0, none⟩)] (enters_of Tryz.func57 (by kernel_rfl) rfl) (fun x => whose C O x.1 != n) (.slice a3 l.length c3) l w3 o3 hlen (fun x _ w' hg => by
    have Ew : Ext w2 w' := E3.grown hg (fun k hk => own_ge o3 k hk)
    exact part1_any x w.heap.size (w.heap.size + 1) _ _ C O n w' (Ew.heap b1') (Ew.cell x3) (hm2.ext Ew) ok)
  rw [part_fun] at DF
  have DF := hid DF
  have hB := E3.size'
  have lP : (partP C O l n).length ≤ l.length := List.length_filter_le _ _
  obtain ⟨P, hP⟩ : ∃ P, partP C O l n = P := ⟨_, rfl⟩
  rw [hP] at DF lP
  have HP := hid hP
  clear hP
  go_wp2_with fail
  refine (DF.out).mono ?_
  clear DF
  rintro e w4 ⟨v4, rfl, o4, g4, _⟩
  have E4 : Ext w2 w4 := E3.grown g4 (fun k hk => own_ge o3 k hk)
  have CL := hid (clone_Pair v4 P.length (cP P) w4 (own_seg o4) (cP_one P) (by omega))
  go_wp2_with fail
  refine (CL.out).mono ?_
  rintro e w5 ⟨a5, c5, rfl, o5, E5⟩
  have EZ := (E0.trans EE).trans E4
  go_wp2
  go_ret2
  exact ⟨_, rT2 rfl rfl, by rw [HP.out]; exact own_base o5 EZ.size', EZ.trans E5⟩
end Go.Proofs.YtimchedebcoohaaGreatDoor

/- Contracts and lemmas for the proofs of this seat; each theorem states its own conditions. -/
namespace Go.Proofs.YtimchedebcoohaaGreatDoor
open Go.RowKit
/-! Many cells written in one block -/
def putL (cur : Array Value) (o : Nat) : List Value → Array Value
  | [] => cur
  | v :: r => putL (cur.setIfInBounds o v) (o + 1) r
theorem putL_size : ∀ (vs : List Value) (cur : Array Value) (o : Nat), (putL cur o vs).size = cur.size
  | [], _, _ => rfl
  | _ :: r, cur, o => by rw [putL, putL_size r]; simp
theorem putL_eq : ∀ (vs : List Value) (cur : Array Value) (o : Nat), o + vs.length ≤ cur.size → (putL cur o vs).toList = cur.toList.take o ++ vs ++ cur.toList.drop (o + vs.length)
  | [], cur, o, _ => by simp [putL]
  | v :: r, cur, o, h => by
    simp only [List.length_cons] at h
    rw [putL, putL_eq r _ _ (by simp; omega), Array.toList_setIfInBounds, List.set_eq_take_append_cons_drop, if_pos (by simp; omega)]
    have e1 : (cur.toList.take o).length = o := by simp; omega
    have e2 : o + 1 - o = 1 := by omega
    have e3 : o + 1 + r.length - o = r.length + 1 := by omega
    rw [List.take_append, List.drop_append, e1, e2, e3, List.take_of_length_le (by omega), @List.drop_eq_nil_of_le _ (cur.toList.take o) _ (by omega)]
    simp [Nat.add_assoc, Nat.add_comm 1]
theorem setCells_heap (b : Nat) (t : TypeId) (fr : Nat × Nat) : ∀ (vs : List Value) (o : Nat) (w : World) (cur : Array Value), w.heap[b]? = some (.cells cur t fr) → (w.setCells b o vs).heap[b]? = some (.cells (putL cur o vs) t fr)
  | [], _, _, _, h => h
  | v :: r, o, w, cur, h => setCells_heap b t fr r (o + 1) _ _ (by simp [World.setCell, Array.getElem?_modify, h])
theorem ext_setCells {B b : Nat} {a : World} (hb : B ≤ b) : ∀ (vs : List Value) (o : Nat) (w : World), Below B a w → Below B a (w.setCells b o vs)
  | [], _, _, h => h
  | v :: r, o, w, h => ext_setCells hb r (o + 1) _ (Below.setCell h hb v)
theorem setCells_other {b k : Nat} (hk : k ≠ b) : ∀ (vs : List Value) (o : Nat) (w : World), (w.setCells b o vs).heap[k]? = w.heap[k]?
  | [], _, _ => rfl
  | v :: r, o, w => (setCells_other hk r (o + 1) _).trans (Below.heap_setCell _ _ _ _ (fun e => hk e))
end Go.Proofs.YtimchedebcoohaaGreatDoor
