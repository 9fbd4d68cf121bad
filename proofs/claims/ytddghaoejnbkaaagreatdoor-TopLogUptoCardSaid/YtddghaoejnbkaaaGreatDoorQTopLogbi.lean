/- Contracts and lemmas for the proof of TopLog; each theorem states its own conditions. -/
import Derived.Test.YtddghaoejnbkaaaGreatDoorQTopLogbh
import Derived.Test.YtddghaoejnbkaaaGreatDoorQTopLogac
import Derived.Test.YtddghaoejnbkaaaGreatDoorQTopLogag
import Derived.Test.YtddghaoejnbkaaaGreatDoorQTopLogai
import Derived.Test.YtddghaoejnbkaaaGreatDoorQTopLogak
import Derived.Test.YtddghaoejnbkaaaGreatDoorQTopLogay
import Derived.Test.YtddghaoejnbkaaaGreatDoorQTopLogaf
import Derived.Test.YtddghaoejnbkaaaGreatDoorQTopLogax
import Derived.Test.YtddghaoejnbkaaaGreatDoorQTopLogba
set_option linter.unusedVariables false
set_option linter.unusedSimpArgs false
/- Contracts and lemmas for the proofs of this seat; each theorem states its own conditions. -/
namespace Go.Proofs.YtddghaoejnbkaaaGreatDoor
open Go.RowKit
/-! shard.Part -/
def partP (C : List ByteArray) (O : List Int) (l : Prs) (n : Int) : Prs := l.filter fun x => !(whose C O x.1 != n)
theorem whose_rng {C : List ByteArray} {O : List Int} (h : MapOk C O) (k : ByteArray) : 0 ≤ whose C O k ∧ whose C O k < 4 := by
  have hl := h.len
  have hp := plc_le h.srt k
  rw [whose_plc]
  have hlt : plc C k < O.length := by omega
  have e : O.getD (plc C k) 0 = O[plc C k] := by simp [hlt]
  rw [e]
  exact mem_range_of h.own _ (List.getElem_mem hlt)
set_option maxRecDepth 10000 in
set_option maxHeartbeats 1000000 in
theorem part1_any (x : ByteArray × Int) (bm bo : Nat) (c o : Value) (C : List ByteArray) (O : List Int) (n : Int) (w : World) (hbm : w.heap[bm]? = some (.cells #[c, o] 34 (0, 0))) (hbo : w.cell? ⟨bo, 0, none⟩ = some (.int .i64 n)) (hm : IsMap w (.agg #[c, o]) C O) (ok : MapOk C O) :
    Calls Tryz.prog 165 #[.agg #[.string x.1, .int .i64 x.2], .pointer (some ⟨bm, 0, none⟩), .pointer (some ⟨bo, 0, none⟩)] w fun e w' => e = .returned (.bool (whose C O x.1 != n)) ∧ Ext w w' := by
  have E0 := (Ext.refl w).alloc (.cells #[.string x.1, .int .i64 x.2] 62)
  have xb := blk2 (heap_alloc_new w (.cells #[.string x.1, .int .i64 x.2] 62))
  have xm := blk2 (E0.heap hbm)
  have xo := E0.cell hbo
  have few := ok.few
  have W := fun w' (E : Ext (w.alloc (.cells #[.string x.1, .int .i64 x.2] 62)) w') => of_any (.agg #[c, o]) C O x.1 w' (hm.ext (E0.trans E)) ok.srt ok.len (by omega)
  have W := hid W
  generalize whose C O x.1 = z at W ⊢
  obtain ⟨key, u⟩ := x
  dsimp only at *
  clear hm hbm hbo
  generalize hw : w.alloc (.cells #[.string key, .int .i64 u] 62) = w0 at E0 xb xm xo W
  go_enter Tryz.func165, Tryz.ntmps165
  go_wp2_with fail
  refine wp_region_ph [.k (.agg #[c, o]), .k (.pointer (some ⟨w.heap.size, 0, none⟩)), .k (.string key), .k (.int .i64 z), .k (.int .i64 n), .k (.bool (z != n))] [] (by kernel_rfl) (by kernel_rfl) (by kernel_rfl) rfl rfl ?hs ?hC ?he
  case hC =>
    intro i hi
    simp at hi
  case hs =>
    refine ⟨?_, ?_, ?_, ?_, ?_, ?_, trivial⟩
    all_goals (
      intro x w' hE hd
      try simp [PhDeps, at_k, at_p, at_t, at_any, Region.binds] at hd
      try ((with_reducible refine Exists.elim hd ?_); clear hd; intro y hd; obtain ⟨hd, hG⟩ := hd)
      have d1 := hE.cell xb.1
      have d2 := hE.cell xm.1
      have d3 := hE.cell xm.2.1
      have d4 := hE.cell xo
      first | simp only [frL, List.length_cons, List.length_nil, List.take_succ_cons, List.take_zero, Nat.reduceAdd, Nat.zero_add, List.setIfInBounds_toArray, List.set_cons_zero, List.set_cons_succ, hd] | simp only [frL, List.length_cons, List.length_nil, List.take_succ_cons, List.take_zero, Nat.reduceAdd, Nat.zero_add, List.setIfInBounds_toArray, List.set_cons_zero, List.set_cons_succ]
      go_wp2_with (first | (go_at_call 130; refine ((W.out _ (by assumption))).mono ?_; rintro e wa ⟨rfl, hea⟩))
      all_goals first
        | ((with_reducible refine phK ?_ ?_); (focus rfl); (repeat (first | (with_reducible assumption) | (with_reducible exact Ext.refl _) | (with_reducible refine Ext.drew ?_) | (with_reducible refine Ext.drewN ?_ _) | (with_reducible refine Ext.alloc ?_ _) | (with_reducible refine Ext.trans ?_ (by with_reducible assumption)))))
        | ((with_reducible refine phT rfl hG ?_); (repeat (first | (with_reducible assumption) | (with_reducible exact Ext.refl _) | (with_reducible refine Ext.drew ?_) | (with_reducible refine Ext.drewN ?_ _) | (with_reducible refine Ext.alloc ?_ _) | (with_reducible refine Ext.trans ?_ (by with_reducible assumption)))))
        | ((with_reducible refine phU hG ?_); (repeat (first | (with_reducible assumption) | (with_reducible exact Ext.refl _) | (with_reducible refine Ext.drew ?_) | (with_reducible refine Ext.drewN ?_ _) | (with_reducible refine Ext.alloc ?_ _) | (with_reducible refine Ext.trans ?_ (by with_reducible assumption)))))
        | (with_reducible exact phBox hE)
        | (with_reducible exact phRow hE))
  case he =>
    intro x w2 E2 hd
    simp [PhEnd, at_k, at_p, at_t, at_any] at hd
    simp only [frL, List.length_cons, List.length_nil, List.take_succ_cons, List.take_zero, Nat.reduceAdd, Nat.zero_add, List.setIfInBounds_toArray, List.set_cons_zero, List.set_cons_succ, hd, List.length_cons, List.length_nil, List.drop_succ_cons, List.drop_zero]
    clear hd
    clear hw
    go_wp2
    go_ret
    exact ⟨rfl, E0.trans E2⟩
/-- Part, at what may be -/
theorem part_fun (C : List ByteArray) (O : List Int) (n : Int) (l : Prs) : (l.filter fun x => !(whose C O x.1 != n)) = partP C O l n := rfl
set_option maxRecDepth 10000 in
set_option maxHeartbeats 1000000 in
theorem part_ok (vm vl : Value) (C : List ByteArray) (O : List Int) (l : Prs) (n : Int) (w : World) (hm : IsMap w vm C O) (ok : MapOk C O) (hk : ∀ k ∈ C, k.size ≤ 9223372036854775807) (hv : Seg w vl 2 l.length (cP l)) (os : StoreOk l) (hlen : l.length ≤ 1000000) (h0 : 0 ≤ n) (h4 : n < 4) :
    Calls Tryz.prog 126 #[vm, vl, .int .i64 n] w fun e w' => ∃ v', e = .returned (.tuple #[v', .int .i64 0]) ∧ w'.ownsRow w.heap.size 62 2 v' (partP C O l n).length (cP (partP C O l n)) ∧ Ext w w' := by
  obtain ⟨a1, k1, a2, k2, rfl, m1, m2⟩ := hm.unpack
  generalize hc : Value.slice a1 C.length k1 = c at *
  generalize ho : Value.slice a2 O.length k2 = o at *
  have b1 := heap_1 w (.cells #[c, o] 34) (.cells #[.int .i64 n] 3)
  have b2 := heap_2 w (.cells #[c, o] 34) (.cells #[.int .i64 n] 3)
  have E0 := ((Ext.refl w).alloc (.cells #[c, o] 34)).alloc (.cells #[.int .i64 n] 3)
  generalize hw0 : (w.alloc (.cells #[c, o] 34)).alloc (.cells #[.int .i64 n] 3) = w0 at b1 b2 E0
  have x1 := blk2 b1
  have x2 := cell_of_one b2
  replace hm := hm.ext E0
  replace hv := hv.ext E0
  have MC := mcheck_any (.agg #[c, o]) C O w0 hm hk
  rw [mapErr_ok ok] at MC
  have MC := hid MC
  subst hc; subst ho
  go_enter Tryz.func126, Tryz.ntmps126
  go_wp2_with fail
  refine (MC.out).mono ?_
  clear MC
  rintro e w1 ⟨rfl, E1⟩
  have SC := scheck_any vl l w1 (hv.ext E1) (store_small os)
  rw [storeErr_ok os] at SC
  have SC := hid SC
  go_wp2_with fail
  refine (SC.out).mono ?_
  clear SC
  rintro e w2 ⟨rfl, E2⟩
  have EE := E1.trans E2
  have x3 := EE.cell x2
  have b1' := EE.heap b1
  have hm2 := hm.ext EE
  have hmf : ∀ (fn : Fn) (first cap : Array Value) (w : World), (Instr.makeFunc fn first cap).run Tryz.prog w = .ok (.func fn first cap) w := fun _ _ _ _ => rfl
  have CL := hid (clone_Pair vl l.length (cP l) w2 (hv.ext EE) (cP_one l) (by omega))
  clear hw0
  go_wp2_with fail
  refine (CL.out).mono ?_
  clear CL
  rintro e w3 ⟨a3, c3, rfl, o3, E3⟩
  have DF := delF_P w2.heap.size 165 #[.pointer (some ⟨w.heap.size, 0, none⟩), .pointer (some ⟨w.heap.size + 1, 0, none⟩)] (enters_of Tryz.func165 (by kernel_rfl) rfl) (fun x => whose C O x.1 != n) (.slice a3 l.length c3) l w3 o3 hlen (fun x _ w' hg => by
    have Ew : Ext w2 w' := E3.grown hg (fun k hk => own_ge o3 k hk)
    exact part1_any x w.heap.size (w.heap.size + 1) _ _ C O n w' (Ew.heap b1') (Ew.cell x3) (hm2.ext Ew) ok)
  rw [part_fun] at DF
  have DF := hid DF
  have hB := E3.size'
  have lP : (partP C O l n).length ≤ l.length := List.length_filter_le _ _
  obtain ⟨P, hP⟩ : ∃ P, partP C O l n = P := ⟨_, rfl⟩
  rw [hP] at DF lP
  have HP := hid hP
  clear hP
  go_wp2_with fail
  refine (DF.out).mono ?_
  clear DF
  rintro e w4 ⟨v4, rfl, o4, g4, _⟩
  have E4 : Ext w2 w4 := E3.grown g4 (fun k hk => own_ge o3 k hk)
  have CL := hid (clone_Pair v4 P.length (cP P) w4 (own_seg o4) (cP_one P) (by omega))
  go_wp2_with fail
  refine (CL.out).mono ?_
  rintro e w5 ⟨a5, c5, rfl, o5, E5⟩
  have EZ := (E0.trans EE).trans E4
  go_wp2
  go_ret2
  exact ⟨_, rT2 rfl rfl, by rw [HP.out]; exact own_base o5 EZ.size', EZ.trans E5⟩
end Go.Proofs.YtddghaoejnbkaaaGreatDoor

/- Contracts and lemmas for the proofs of this seat; each theorem states its own conditions. -/
namespace Go.Proofs.YtddghaoejnbkaaaGreatDoor
/-! parts of a store, in plain lists -/
structure PartsOk (C : List ByteArray) (O : List Int) (V : Vls) (P : Nat → Prs) (N : Nat) : Prop where
  ok : ∀ i : Nat, i < 4 → StoreOk (P i)
  len : ∀ i : Nat, i < 4 → (P i).length ≤ N
  val : ∀ i : Nat, i < 4 → ∀ k, valP (P i) k = if whose C O k = (i : Int) then V k else 0
theorem parts_new {C : List ByteArray} {O : List Int} {S : Prs} (h : StoreOk S) : PartsOk C O (valP S) (fun i => partP C O S (i : Int)) S.length where
  ok := fun i _ => storeOk_filter h _
  len := fun i _ => List.length_filter_le _ _
  val := fun i _ k => by
    show valP (partP C O S i) k = _
    rw [partP, val_filter h.srt]
    by_cases e : whose C O k = (i : Int)
    · rw [if_pos (by simp [e]), if_pos e]
    · rw [if_neg (by simp [e]), if_neg e]
theorem PartsOk.mono {C : List ByteArray} {O : List Int} {V : Vls} {P : Nat → Prs} {N M : Nat} (h : PartsOk C O V P N) (hm : N ≤ M) : PartsOk C O V P M := ⟨h.ok, fun i hi => Nat.le_trans (h.len i hi) hm, h.val⟩
theorem PartsOk.put {C : List ByteArray} {O : List Int} {V : Vls} {P : Nat → Prs} {N : Nat} (h : PartsOk C O V P N) {i : Nat} (hi : i < 4) {k : ByteArray} {n : Int} (hw : whose C O k = (i : Int)) (hk : keyB k = true) (hn : -1000000000 ≤ n ∧ n ≤ 1000000000) :
    PartsOk C O (setV V k n) (fun j => if j = i then withP (P i) k n else P j) (N + 1) where
  ok := fun j hj => by
    try dsimp only
    split
    · exact storeOk_with (h.ok i hi) hk hn
    · exact h.ok j hj
  len := fun j hj => by
    try dsimp only
    split
    · have := with_len (P i) k n; have := h.len i hi; omega
    · have := h.len j hj; omega
  val := fun j hj x => by
    try dsimp only
    unfold setV
    by_cases e : j = i
    · subst e
      rw [if_pos rfl, val_with (h.ok j hj).srt, h.val j hj x]
      by_cases e2 : k = x
      · subst e2; rw [if_pos rfl, if_pos hw, if_pos rfl]
      · rw [if_neg e2, if_neg e2]
    · rw [if_neg e, h.val j hj x]
      by_cases e2 : k = x
      · subst e2; rw [if_pos rfl, if_neg (by rw [hw]; omega), if_neg (by rw [hw]; omega)]
      · rw [if_neg e2]
theorem PartsOk.val_at {C : List ByteArray} {O : List Int} (hm : MapOk C O) {V : Vls} {P : Nat → Prs} {N : Nat} (h : PartsOk C O V P N) (k : ByteArray) : ∃ i : Nat, i < 4 ∧ whose C O k = (i : Int) ∧ valP (P i) k = V k := by
  obtain ⟨h0, h4⟩ := whose_rng hm k
  refine ⟨(whose C O k).toNat, by omega, by omega, ?_⟩
  rw [h.val _ (by omega), if_pos (by omega)]
theorem PartsOk.bd {C : List ByteArray} {O : List Int} (hm : MapOk C O) {V : Vls} {P : Nat → Prs} {N : Nat} (h : PartsOk C O V P N) (k : ByteArray) : -1000000000 ≤ V k ∧ V k ≤ 1000000000 := by
  obtain ⟨i, hi, _, e⟩ := h.val_at hm k
  rw [← e]; exact val_bd (h.ok i hi) k
/-- each has what the store has of his -/
theorem PartsOk.eq {C : List ByteArray} {O : List Int} {P : Nat → Prs} {N : Nat} {S : Prs} (hS : StoreOk S) (h : PartsOk C O (valP S) P N) {i : Nat} (hi : i < 4) : P i = partP C O S (i : Int) := by
  refine store_ext (h.ok i hi) ((parts_new (C := C) (O := O) hS).ok i hi) fun k => ?_
  rw [h.val i hi, (parts_new (C := C) (O := O) hS).val i hi]
/-- what is told of some keys -/
def toldP (V : Vls) : List ByteArray → Prs
  | [] => []
  | k :: ks => withP (toldP V ks) k (V k)
theorem told_ok {V : Vls} (hV : ∀ k, -1000000000 ≤ V k ∧ V k ≤ 1000000000) : ∀ {ks : List ByteArray}, (∀ k ∈ ks, keyB k = true) → StoreOk (toldP V ks) ∧ (toldP V ks).length ≤ ks.length ∧ ∀ x, valP (toldP V ks) x = if memB ks x = true then V x else 0
  | [], _ => ⟨storeOk_nil, Nat.le_refl _, fun x => by simp [toldP, valP, memB]⟩
  | k :: ks, h => by
    obtain ⟨h1, h2, h3⟩ := told_ok hV (ks := ks) fun j hj => h j (by simp [hj])
    have hl := with_len (toldP V ks) k (V k)
    refine ⟨storeOk_with h1 (h k (by simp)) (hV k), by rw [toldP, List.length_cons]; omega, fun x => ?_⟩
    rw [toldP, val_with h1.srt, h3 x]
    by_cases e : k = x
    · subst e; rw [if_pos rfl, if_pos (memB_iff.2 (by simp))]
    · have : memB (k :: ks) x = memB ks x := by simp [memB, e]
      rw [if_neg e, this]
/-- the values once the first ones of w have been taken over -/
def overV (V U : Vls) (ks : List ByteArray) : Vls := fun x => if memB ks x = true then U x else V x
theorem over_step (V U : Vls) (ks : List ByteArray) (k : ByteArray) : setV (overV V U ks) k (U k) = overV V U (ks ++ [k]) := by
  funext x
  unfold setV overV
  by_cases e : k = x
  · subst e; rw [if_pos rfl, if_pos (memB_iff.2 (by simp))]
  · have : memB (ks ++ [k]) x = memB ks x := by simp [memB, e]
    rw [if_neg e, this]
theorem over_nil (V U : Vls) : overV V U [] = V := by funext x; simp [overV, memB]
/-- a deed done on what was told makes what it makes on all -/
theorem told_run {V : Vls} {T : Prs} {ks : List ByteArray} {d : Ops} (hT : StoreOk T) (hd : ∀ o ∈ d, OpOk o) (hv : ∀ x, valP T x = if memB ks x = true then V x else 0) (hr : ∀ k ∈ rds d, k ∈ ks) :
    runB T d = okV V d ∧ (runB T d = true → overV V (valP (runS T d)) (sortU (wrs d)) = stepV V d) := by
  obtain ⟨q1, q2, q3⟩ := run_val hT hd
  obtain ⟨s1, s2⟩ := step_agree hd (v := valP T) (u := V) fun k hk => by rw [hv k, if_pos (memB_iff.2 (hr k hk))]
  refine ⟨by rw [q3, s1], fun h => ?_⟩
  rw [q3] at h
  funext x
  unfold overV
  by_cases e : x ∈ wrs d
  · rw [if_pos (memB_iff.2 ((sortU_mem _ _).2 e)), q2, s2 h x e]
  · rw [if_neg fun q => e ((sortU_mem _ _).1 (memB_iff.1 q)), step_keep hd V e]
end Go.Proofs.YtddghaoejnbkaaaGreatDoor

/- Contracts and lemmas for the proofs of this seat; each theorem states its own conditions. -/
namespace Go.Proofs.YtddghaoejnbkaaaGreatDoor
open Go.RowKit Go.Maps
/-! Free -/
theorem kept_ne {w w' : World} {B e sz n b : Nat} {v : Value} {xs : List Value} (hg : w.grownBy w' (some b)) (h : w.ownsRow B e sz v n xs) (hne : v.ownBlock ≠ some b) : w'.ownsRow B e sz v n xs := grown_own hg h (.inr hne)
end Go.Proofs.YtddghaoejnbkaaaGreatDoor

/- Contracts and lemmas for the proofs of this seat; each theorem states its own conditions. -/
namespace Go.Proofs.YtddghaoejnbkaaaGreatDoor
open Go.RowKit Go.Maps
/-! the table's steps, in memory -/
end Go.Proofs.YtddghaoejnbkaaaGreatDoor

/- Contracts and lemmas for the proofs of this seat; each theorem states its own conditions. -/
namespace Go.Proofs.YtddghaoejnbkaaaGreatDoor
open Go.RowKit
/-! parts of a store, in memory -/
structure PartsSt (w : World) (bt : Nat) (C : List ByteArray) (O : List Int) (P : Nat → Prs) (vc vo : Value) (pv : Nat → Value) : Prop where
  box : w.heap[bt]? = some (.cells #[vc, vo, pv 0, pv 1, pv 2, pv 3] 182 (0, 0))
  cuts : w.ownsRow 0 9 1 vc C.length (cS C)
  owners : w.ownsRow 0 3 1 vo O.length (cI O)
  rows : ∀ i, i < 4 → w.ownsRow 0 62 2 (pv i) (P i).length (cP (P i))
theorem PartsSt.ext {w w' : World} {bt : Nat} {C : List ByteArray} {O : List Int} {P : Nat → Prs} {vc vo : Value} {pv : Nat → Value} (h : PartsSt w bt C O P vc vo pv) (E : Ext w w') : PartsSt w' bt C O P vc vo pv :=
  ⟨E.heap h.box, own_ext h.cuts E, own_ext h.owners E, fun i hi => own_ext (h.rows i hi) E⟩
theorem PartsSt.lt {w : World} {bt : Nat} {C : List ByteArray} {O : List Int} {P : Nat → Prs} {vc vo : Value} {pv : Nat → Value} (h : PartsSt w bt C O P vc vo pv) : bt < w.heap.size := (Array.getElem?_eq_some_iff.1 h.box).1
theorem PartsSt.is {w : World} {bt : Nat} {C : List ByteArray} {O : List Int} {P : Nat → Prs} {vc vo : Value} {pv : Nat → Value} (h : PartsSt w bt C O P vc vo pv) : IsMap w (.agg #[vc, vo]) C O :=
  ⟨vc, vo, rfl, own_seg h.cuts, own_seg h.owners⟩
theorem PartsSt.cell0 {w : World} {bt : Nat} {C : List ByteArray} {O : List Int} {P : Nat → Prs} {vc vo : Value} {pv : Nat → Value} (h : PartsSt w bt C O P vc vo pv) : w.cell? ⟨bt, 0, none⟩ = some vc ∧ w.cell? ⟨bt, 1, none⟩ = some vo := by
  have hb := h.box
  simp [World.cell?, hb]
theorem PartsSt.cellI {w : World} {bt : Nat} {C : List ByteArray} {O : List Int} {P : Nat → Prs} {vc vo : Value} {pv : Nat → Value} (h : PartsSt w bt C O P vc vo pv) {i : Nat} (hi : i < 4) : w.cell? ⟨bt, 2 + i, none⟩ = some (pv i) ∧ w.frozen? ⟨bt, 2 + i, none⟩ = false := by
  have hb := h.box
  have : i = 0 ∨ i = 1 ∨ i = 2 ∨ i = 3 := by omega
  rcases this with rfl | rfl | rfl | rfl <;> simp [World.cell?, World.frozen?, hb]
/-- only the box has been written -/
theorem PartsSt.beside {w w' : World} {bt b : Nat} {C : List ByteArray} {O : List Int} {P : Nat → Prs} {vc vo : Value} {pv : Nat → Value} (h : PartsSt w bt C O P vc vo pv) (hg : w.grownBy w' (some b)) {cs : Array Value} {fr : Nat × Nat} (hb : w.heap[b]? = some (.cells cs 182 fr)) (hne : b ≠ bt) : PartsSt w' bt C O P vc vo pv where
  box := by
    rw [hg.block bt h.lt (fun e => by injection e with e; exact hne e.symm)]
    exact h.box
  cuts := kept_ne hg h.cuts (own_ne h.cuts hb (by decide))
  owners := kept_ne hg h.owners (own_ne h.owners hb (by decide))
  rows := fun i hi => kept_ne hg (h.rows i hi) (own_ne (h.rows i hi) hb (by decide))
theorem grown_cell' (w : World) (g i : Nat) (u : Value) : w.grownBy (w.setCell ⟨g, i, none⟩ u) (some g) := ⟨rfl, rfl, rfl, by simp [World.setCell], fun j hj hne => by
  have : g ≠ j := fun e => hne (by rw [e])
  simp [World.setCell, Array.getElem?_modify, this]⟩
/-- another part in its place -/
theorem PartsSt.set {w : World} {bt : Nat} {C : List ByteArray} {O : List Int} {P : Nat → Prs} {vc vo : Value} {pv : Nat → Value} (h : PartsSt w bt C O P vc vo pv) {i : Nat} (hi : i < 4) {v : Value} {L : Prs} (ho : w.ownsRow 0 62 2 v L.length (cP L)) :
    PartsSt (w.setCell ⟨bt, 2 + i, none⟩ v) bt C O (fun j => if j = i then L else P j) vc vo (fun j => if j = i then v else pv j) where
  box := by
    have hb := h.box
    have : i = 0 ∨ i = 1 ∨ i = 2 ∨ i = 3 := by omega
    rcases this with rfl | rfl | rfl | rfl <;> simp [World.setCell, Array.getElem?_modify, hb]
  cuts := kept_ne (grown_cell' w bt _ v) h.cuts (own_ne h.cuts h.box (by decide))
  owners := kept_ne (grown_cell' w bt _ v) h.owners (own_ne h.owners h.box (by decide))
  rows := fun j hj => by
    try dsimp only
    by_cases e : j = i
    · subst e
      rw [if_pos rfl, if_pos rfl]
      exact kept_ne (grown_cell' w bt _ v) ho (own_ne ho h.box (by decide))
    · rw [if_neg e, if_neg e]
      exact kept_ne (grown_cell' w bt _ v) (h.rows j hj) (own_ne (h.rows j hj) h.box (by decide))
end Go.Proofs.YtddghaoejnbkaaaGreatDoor
