/- Contracts and lemmas for the proofs of this seat; each theorem states its own conditions. -/
import Derived.Test.YtijcckhkofkenaaLShardGives
import Derived.Test.YtijcckhkofkenaaW12
import Derived.Test.YtijcckhkofkenaaCon
import Derived.BigQuiet
namespace Go.Proofs.Ytijcckhkofkenaa
open Go.RowKit
theorem keyOf_is (k : Int) : keyB (keyOf k) = true ∧ (keyOf k).size ≤ 9223372036854775807 := by
  have h0 := wi_lo (k := k) (n := 8) (by omega)
  have h1 := wi_hi (k := k) (n := 8) (by omega)
  have h2 : (wi k 8).toNat < keysL.length := by simp [keysL]; omega
  have h3 : ∀ k, (h : k < keysL.length) → keyB keysL[k] = true ∧ keysL[k].size ≤ 2 := by decide +kernel
  have := h3 _ h2
  unfold keyOf
  rw [kAt_eq h2]; exact ⟨this.1, by omega⟩
theorem hit_mem {C : List ByteArray} {k : ByteArray} {i : Nat} (h : hitS C k i = true) : k ∈ C := by
  simp only [hitS, Bool.and_eq_true, decide_eq_true_eq] at h
  rw [← toList_inj (show (kAt C i).toList = k.toList by simpa using h.2), kAt_eq h.1]; exact List.getElem_mem _
set_option maxRecDepth 100000 in
set_option maxHeartbeats 1000000 in
theorem cuts_walk (v : Value) (l : List Int) (a b : Int) (w : World) (hv : Seg w v 1 l.length (cI l)) (hb : ∀ z ∈ l, -9223372036854775808 ≤ z ∧ z ≤ 9223372036854775807) :
    Calls Try.prog 7 #[v, .int .i64 a, .int .i64 b] w fun e w' => e = .returned (.bool true) ∧ Ext w w' := by
  have ok := mk_ok l
  have hsm := mk_small l
  have h6 := mkC_len l 6
  have ka := keyOf_is a
  have kb := keyOf_is b
  go_enter Try.func7, Try.ntmps7
  go_wp2_with fail
  refine (shardBegun_any _).mono ?_
  rintro e w1 ⟨rfl, E1⟩
  go_wp2_with fail
  refine (kMap_any _ l _ (hv.ext E1) hb).mono ?_
  generalize mkC l 6 = C at ok hsm h6 ⊢
  generalize mkO l 6 = O at ok ⊢
  rintro e w2 ⟨v', rfl, hm, E2⟩
  obtain ⟨a1, k1, a2, k2, rfl, m1⟩ := hm.unpack
  have b1 := heap_alloc_new w2 (.cells #[.slice a1 C.length k1, .slice a2 O.length k2] 26)
  have m1 := m1.ext ((Ext.refl w2).alloc (.cells #[.slice a1 C.length k1, .slice a2 O.length k2] 26))
  have E3 : Ext w (w2.alloc (.cells #[.slice a1 C.length k1, .slice a2 O.length k2] 26)) := by (repeat (first | (with_reducible assumption) | (with_reducible exact Ext.refl _) | (with_reducible refine Ext.drew ?_) | (with_reducible refine Ext.drewN ?_ _) | (with_reducible refine Ext.alloc ?_ _) | (with_reducible refine Ext.trans ?_ (by with_reducible assumption))))
  go_wp2_with fail
  generalize (w2.alloc (.cells #[.slice a1 C.length k1, .slice a2 O.length k2] 26)) = w3 at b1 m1 E3 ⊢
  have x1 := blk2 b1
  obtain ⟨i, hc⟩ := cut_ex _ _ (dropsB_blt ok.srt (keyOf a))
  cases hh : hitS C (keyOf a) i with
  | true =>
    have HH := hid hh
    have con := conS_yes (hit_mem hh)
    have CON := hid con
    have HC := hid hc
    clear hh con hc
    refine wp_region_ph [.k (.agg #[.slice a1 C.length k1, .slice a2 O.length k2]), .k (.int .i64 a), .k (.string (keyOf a)), .k (.tuple #[nilMap, .int .i64 5]), .k (.tuple #[nilMap, .int .i64 5]), .k (nilMap), .k (.int .i64 5), .p (BoxAt w3 #[.slice none 0 0, .slice none 0 0] 26)] [6] (by kernel_rfl) (by kernel_rfl) (by kernel_rfl) rfl rfl ?hs ?hC ?he
    case hC =>
      intro i hi
      simp only [List.mem_cons, List.not_mem_nil, or_false] at hi
      subst hi
      all_goals (
        intro o u ho hu
        simp [RS.k, RS.p, RS.t, RS.any] at ho hu
        subst ho; subst hu
        refine ⟨rfl, fun x w2 hd w3 => ?_⟩
        simp [PhDeps, at_k, at_p, at_t, at_any, Region.binds] at hd
        try ((with_reducible refine Exists.elim hd ?_); clear hd; intro y hd; obtain ⟨hd, hG⟩ := hd)
        simp [frL, hd, List.take_succ_cons, execOp, Act.eval, Frame.eval, Instr.extract])
    case hs =>
      refine ⟨?_, ?_, ?_, ?_, ?_, ?_, ?_, ?_, trivial⟩
      all_goals (
        intro x w' hE hd
        try simp [PhDeps, at_k, at_p, at_t, at_any, Region.binds] at hd
        try ((with_reducible refine Exists.elim hd ?_); clear hd; intro y hd; obtain ⟨hd, hG⟩ := hd)
        have d1 := hE.cell x1.1
        have d2 := hE.cell x1.2.1
        first | simp only [frL, List.length_cons, List.length_nil, List.take_succ_cons, List.take_zero, Nat.reduceAdd, Nat.zero_add, List.setIfInBounds_toArray, List.set_cons_zero, List.set_cons_succ, hd] | simp only [frL, List.length_cons, List.length_nil, List.take_succ_cons, List.take_zero, Nat.reduceAdd, Nat.zero_add, List.setIfInBounds_toArray, List.set_cons_zero, List.set_cons_succ]
        go_wp2_with (first | (go_at_call 29; refine (kKey_any _ _).mono ?_; rintro e wa ⟨rfl, hea⟩) | (go_at_call 42; refine (cut_hit _ C O _ i _ (m1.ext hE) hsm ok ka.2 ka.1 HC.out HH.out).mono ?_; rintro e wa ⟨rfl, hea⟩))
        all_goals first
          | ((with_reducible refine phK ?_ ?_); (focus rfl); (repeat (first | (with_reducible assumption) | (with_reducible exact Ext.refl _) | (with_reducible refine Ext.drew ?_) | (with_reducible refine Ext.drewN ?_ _) | (with_reducible refine Ext.alloc ?_ _) | (with_reducible refine Ext.trans ?_ (by with_reducible assumption)))))
          | ((with_reducible refine phT rfl hG ?_); (repeat (first | (with_reducible assumption) | (with_reducible exact Ext.refl _) | (with_reducible refine Ext.drew ?_) | (with_reducible refine Ext.drewN ?_ _) | (with_reducible refine Ext.alloc ?_ _) | (with_reducible refine Ext.trans ?_ (by with_reducible assumption)))))
          | ((with_reducible refine phU hG ?_); (repeat (first | (with_reducible assumption) | (with_reducible exact Ext.refl _) | (with_reducible refine Ext.drew ?_) | (with_reducible refine Ext.drewN ?_ _) | (with_reducible refine Ext.alloc ?_ _) | (with_reducible refine Ext.trans ?_ (by with_reducible assumption)))))
          | (with_reducible exact phBox hE)
          | (with_reducible exact phRow hE))
    case he =>
      intro x w4 E4 hd
      simp [PhEnd, at_k, at_p] at hd
      obtain ⟨e0, e1, e2, e3, e4, e5, e6, w5, g1, g2, bX, e7, g3, g4⟩ := hd
      replace g4 := g2.heap g4
      have xX := blk2 g4
      have E5 : Ext w3 ((w4.setCell ⟨bX, 0, none⟩ (.slice none 0 0)).setCell ⟨bX, 1, none⟩ (.slice none 0 0)) := (E4.setCell g3 _).setCell g3 _
      have gX := blk2_set2 g4 (u := .slice none 0 0) (v := .slice none 0 0)
      simp only [frL, List.length_cons, List.length_nil, List.take_succ_cons, List.take_zero, Nat.reduceAdd, Nat.zero_add, List.setIfInBounds_toArray, List.set_cons_zero, List.set_cons_succ, e0, e1, e2, e3, e4, e5, e6, e7, nilMap, List.length_cons, List.length_nil, List.drop_succ_cons, List.drop_zero]
      clear e0 e1 e2 e3 e4 e5 e6 e7
      go_wp2_with fail
      clear xX g4 x1
      generalize (w4.setCell ⟨bX, 0, none⟩ (.slice none 0 0)).setCell ⟨bX, 1, none⟩ (.slice none 0 0) = w6 at E5 gX ⊢
      replace m1 := IsMap.ext m1 (E5); replace b1 := (E5).heap b1
      have x1 := blk2 b1
      obtain ⟨_, _, hq, s1, _⟩ := m1
      injection hq with hq; injection hq with hq; injection hq with hq _; subst hq
      refine wp_region_ph [.k (.int .i64 5), .k (.bool true), .k (.bool true), .k (.pointer (some ⟨w2.heap.size, 0, none⟩)), .k (.slice a1 C.length k1), .k (.int .i64 a), .k (.string (keyOf a)), .k (.bool true)] [] (by kernel_rfl) (by kernel_rfl) (by kernel_rfl) rfl rfl ?hs ?hC ?he
      case hC =>
        intro i hi
        simp at hi
      case hs =>
        refine ⟨?_, ?_, ?_, ?_, ?_, ?_, ?_, ?_, trivial⟩
        all_goals (
          intro x w' hE hd
          try simp [PhDeps, at_k, at_p, at_t, at_any, Region.binds] at hd
          try ((with_reducible refine Exists.elim hd ?_); clear hd; intro y hd; obtain ⟨hd, hG⟩ := hd)
          have d1 := hE.cell x1.1
          first | simp only [frL, List.length_cons, List.length_nil, List.take_succ_cons, List.take_zero, Nat.reduceAdd, Nat.zero_add, List.setIfInBounds_toArray, List.set_cons_zero, List.set_cons_succ, hd] | simp only [frL, List.length_cons, List.length_nil, List.take_succ_cons, List.take_zero, Nat.reduceAdd, Nat.zero_add, List.setIfInBounds_toArray, List.set_cons_zero, List.set_cons_succ]
          go_wp2_with (first | (go_at_call 29; refine (kKey_any _ _).mono ?_; rintro e wa ⟨rfl, hea⟩) | (go_at_call 43; refine (conS_any _ C _ _ (s1.ext hE)).mono ?_; rintro e wa ⟨rfl, rfl⟩; rw [CON.out]))
          all_goals first
            | ((with_reducible refine phK ?_ ?_); (focus rfl); (repeat (first | (with_reducible assumption) | (with_reducible exact Ext.refl _) | (with_reducible refine Ext.drew ?_) | (with_reducible refine Ext.drewN ?_ _) | (with_reducible refine Ext.alloc ?_ _) | (with_reducible refine Ext.trans ?_ (by with_reducible assumption)))))
            | ((with_reducible refine phT rfl hG ?_); (repeat (first | (with_reducible assumption) | (with_reducible exact Ext.refl _) | (with_reducible refine Ext.drew ?_) | (with_reducible refine Ext.drewN ?_ _) | (with_reducible refine Ext.alloc ?_ _) | (with_reducible refine Ext.trans ?_ (by with_reducible assumption)))))
            | ((with_reducible refine phU hG ?_); (repeat (first | (with_reducible assumption) | (with_reducible exact Ext.refl _) | (with_reducible refine Ext.drew ?_) | (with_reducible refine Ext.drewN ?_ _) | (with_reducible refine Ext.alloc ?_ _) | (with_reducible refine Ext.trans ?_ (by with_reducible assumption)))))
            | (with_reducible exact phBox hE)
            | (with_reducible exact phRow hE))
      case he =>
        intro x w7 E7 hd
        simp [PhEnd, at_k, at_p, at_t, at_any] at hd
        simp only [frL, List.length_cons, List.length_nil, List.take_succ_cons, List.take_zero, Nat.reduceAdd, Nat.zero_add, List.setIfInBounds_toArray, List.set_cons_zero, List.set_cons_succ, hd, List.length_cons, List.length_nil, List.drop_succ_cons, List.drop_zero]
        clear hd
        go_wp2
        go_ret
        exact ⟨rB rfl, E3.trans (E5.trans E7)⟩
  | false =>
    have HH := hid hh
    have HC := hid hc
    clear hh hc
    refine wp_region_ph [.k (.agg #[.slice a1 C.length k1, .slice a2 O.length k2]), .k (.int .i64 a), .k (.string (keyOf a)), .t (.int .i64 0) (fun v w' => OwnMap w' w3.heap.size v (cutC C (keyOf a) i) (cutO O i)), .t (.int .i64 0) (fun v w' => OwnMap w' w3.heap.size v (cutC C (keyOf a) i) (cutO O i)), .p (fun v w' => OwnMap w' w3.heap.size v (cutC C (keyOf a) i) (cutO O i)), .k (.int .i64 0), .p (BoxAt w3 #[.slice none 0 0, .slice none 0 0] 26)] [6] (by kernel_rfl) (by kernel_rfl) (by kernel_rfl) rfl rfl ?hs ?hC ?he
    case hC =>
      intro i hi
      simp only [List.mem_cons, List.not_mem_nil, or_false] at hi
      subst hi
      all_goals (
        intro o u ho hu
        simp [RS.k, RS.p, RS.t, RS.any] at ho hu
        subst ho; subst hu
        refine ⟨rfl, fun x w2 hd w3 => ?_⟩
        simp [PhDeps, at_k, at_p, at_t, at_any, Region.binds] at hd
        try ((with_reducible refine Exists.elim hd ?_); clear hd; intro y hd; obtain ⟨hd, hG⟩ := hd)
        simp [frL, hd, List.take_succ_cons, execOp, Act.eval, Frame.eval, Instr.extract])
    case hs =>
      refine ⟨?_, ?_, ?_, ?_, ?_, ?_, ?_, ?_, trivial⟩
      all_goals (
        intro x w' hE hd
        try simp [PhDeps, at_k, at_p, at_t, at_any, Region.binds] at hd
        try ((with_reducible refine Exists.elim hd ?_); clear hd; intro y hd; obtain ⟨hd, hG⟩ := hd)
        have d1 := hE.cell x1.1
        have d2 := hE.cell x1.2.1
        first | simp only [frL, List.length_cons, List.length_nil, List.take_succ_cons, List.take_zero, Nat.reduceAdd, Nat.zero_add, List.setIfInBounds_toArray, List.set_cons_zero, List.set_cons_succ, hd] | simp only [frL, List.length_cons, List.length_nil, List.take_succ_cons, List.take_zero, Nat.reduceAdd, Nat.zero_add, List.setIfInBounds_toArray, List.set_cons_zero, List.set_cons_succ]
        go_wp2_with (first | (go_at_call 29; refine (kKey_any _ _).mono ?_; rintro e wa ⟨rfl, hea⟩) | (go_at_call 42; refine (cut_new _ C O _ i _ (m1.ext hE) hsm ok ka.2 ka.1 HC.out HH.out (by omega)).mono ?_; rintro e wa ⟨y, rfl, hmy, hea⟩))
        all_goals first
          | ((with_reducible refine phK ?_ ?_); (focus rfl); (repeat (first | (with_reducible assumption) | (with_reducible exact Ext.refl _) | (with_reducible refine Ext.drew ?_) | (with_reducible refine Ext.drewN ?_ _) | (with_reducible refine Ext.alloc ?_ _) | (with_reducible refine Ext.trans ?_ (by with_reducible assumption)))))
          | (exact phTN rfl (own_map_base hmy hE.size') hE hea)
          | ((with_reducible refine phT rfl hG ?_); (repeat (first | (with_reducible assumption) | (with_reducible exact Ext.refl _) | (with_reducible refine Ext.drew ?_) | (with_reducible refine Ext.drewN ?_ _) | (with_reducible refine Ext.alloc ?_ _) | (with_reducible refine Ext.trans ?_ (by with_reducible assumption)))))
          | ((with_reducible refine phU hG ?_); (repeat (first | (with_reducible assumption) | (with_reducible exact Ext.refl _) | (with_reducible refine Ext.drew ?_) | (with_reducible refine Ext.drewN ?_ _) | (with_reducible refine Ext.alloc ?_ _) | (with_reducible refine Ext.trans ?_ (by with_reducible assumption)))))
          | (with_reducible exact phBox hE)
          | (with_reducible exact phRow hE))
    case he =>
      intro x w4 E4 hd
      simp [PhEnd, at_k, at_p, at_t] at hd
      obtain ⟨e0, e1, e2, ⟨y3, e3, _⟩, ⟨y4, e4, _⟩, ⟨w5, _, g2, hmX⟩, e6, w6, _, g5, bX, e7, g3, g4⟩ := hd
      have okX := cut_ok ok ka.1 HC.out HH.out (by omega)
      have smX := cut_small (key := keyOf a) (i := i) hsm ka.2
      have whX := fun k => cut_whose (O := O) ok HC.out HH.out k
      have plX := cut_pl (key := keyOf a) ok HC.out.1
      obtain ⟨C', hC'⟩ : ∃ C', cutC C (keyOf a) i = C' := ⟨_, rfl⟩
      obtain ⟨O', hO'⟩ : ∃ O', cutO O i = O' := ⟨_, rfl⟩
      rw [hC', hO'] at hmX okX whX plX
      rw [hC'] at smX
      clear hC' hO'
      obtain ⟨a3, k3, a4, k4, e5, mX⟩ := hmX.unpack
      have E5 : Ext w3 ((w4.setCell ⟨bX, 0, none⟩ (.slice a3 C'.length k3)).setCell ⟨bX, 1, none⟩ (.slice a4 O'.length k4)) := (E4.setCell g3 _).setCell g3 _
      have gX := blk2_set2 (g5.heap g4) (u := .slice a3 C'.length k3) (v := .slice a4 O'.length k4)
      have xX := blk2 (g5.heap g4)
      have mX : IsMap ((w4.setCell ⟨bX, 0, none⟩ (.slice a3 C'.length k3)).setCell ⟨bX, 1, none⟩ (.slice a4 O'.length k4)) (.agg #[.slice a3 C'.length k3, .slice a4 O'.length k4]) C' O' := by
        obtain ⟨_, _, hq, q1, q2⟩ := hmX
        rw [e5] at hq
        injection hq with hq; injection hq with hq; injection hq with hq hq'; subst hq; injection hq' with hq' _; subst hq'
        have q1 := own_ext q1 g2
        have q2 := own_ext q2 g2
        have n1 := own_ne q1 (g5.heap g4) (by decide)
        have n2 := own_ne q2 (g5.heap g4) (by decide)
        exact ⟨_, _, rfl, own_seg (own_set_other (own_set_other q1 (p := ⟨bX, 0, none⟩) n1 _) (p := ⟨bX, 1, none⟩) n1 _), own_seg (own_set_other (own_set_other q2 (p := ⟨bX, 0, none⟩) n2 _) (p := ⟨bX, 1, none⟩) n2 _)⟩
      have WX := hid whX
      have PX := hid plX
      simp only [frL, List.length_cons, List.length_nil, List.take_succ_cons, List.take_zero, Nat.reduceAdd, Nat.zero_add, List.setIfInBounds_toArray, List.set_cons_zero, List.set_cons_succ, e0, e1, e2, e3, e4, e5, e6, e7, List.length_cons, List.length_nil, List.drop_succ_cons, List.drop_zero]
      clear e0 e1 e2 e3 e4 e5 e6 e7 whX plX hmX
      have x1n := blk2 (E5.heap b1)
      have xXn := blk2 gX
      go_wp2_with fail
      clear xX g4 x1 x1n xXn
      generalize (w4.setCell ⟨bX, 0, none⟩ (.slice a3 C'.length k3)).setCell ⟨bX, 1, none⟩ (.slice a4 O'.length k4) = w7 at E5 gX mX ⊢
      replace m1 := IsMap.ext m1 (E5); replace b1 := (E5).heap b1
      replace E3 := E3.trans E5
      refine (same_ok _ _ C C' O O' _ m1 mX hsm smX ok okX).mono ?_
      rw [PX.out, show sameB (pl C O C.length).1 (pl C O C.length).1 (pl C O C.length).2 (pl C O C.length).2 = true from by simp [sameB]]
      rintro e w8 ⟨rfl, E8⟩
      replace m1 := IsMap.ext m1 (E8); replace mX := IsMap.ext mX (E8); replace b1 := (E8).heap b1; replace gX := (E8).heap gX
      replace E3 := E3.trans E8
      have x1 := blk2 b1
      have xX := blk2 gX
      have fv : findV C' O' (keyOf b) = findV C O (keyOf b) := by simp [findV, mapErr_ok ok, mapErr_ok okX, kb.1, WX.out]
      have fe : findE C' O' (keyOf b) = 0 := by simp [findE, mapErr_ok okX, kb.1]
      have fe2 : findE C O (keyOf b) = 0 := by simp [findE, mapErr_ok ok, kb.1]
      have F1 := fun w v h => (find_any v C O (keyOf b) w h hsm kb.2)
      have F2 := fun w v h => (find_any v C' O' (keyOf b) w h smX kb.2)
      rw [fe2] at F1
      rw [fe, fv] at F2
      have F1 := hid F1
      have F2 := hid F2
      clear fv fe fe2
      generalize findV C O (keyOf b) = n at F1 F2
      go_wp2_with fail
      refine wp_region_ph [.k (.agg #[.slice a1 C.length k1, .slice a2 O.length k2]), .k (.int .i64 b), .k (.string (keyOf b)), .k (.tuple #[.int .i64 n, .int .i64 0]), .k (.tuple #[.int .i64 n, .int .i64 0]), .k (.int .i64 n), .k (.int .i64 0)] [6] (by kernel_rfl) (by kernel_rfl) (by kernel_rfl) rfl rfl ?hs ?hC ?he
      case hC =>
        intro i hi
        simp only [List.mem_cons, List.not_mem_nil, or_false] at hi
        subst hi
        all_goals (
          intro o u ho hu
          simp [RS.k, RS.p, RS.t, RS.any] at ho hu
          subst ho; subst hu
          refine ⟨rfl, fun x w2 hd w3 => ?_⟩
          simp [PhDeps, at_k, at_p, at_t, at_any, Region.binds] at hd
          try ((with_reducible refine Exists.elim hd ?_); clear hd; intro y hd; obtain ⟨hd, hG⟩ := hd)
          simp [frL, hd, List.take_succ_cons, execOp, Act.eval, Frame.eval, Instr.extract])
      case hs =>
        refine ⟨?_, ?_, ?_, ?_, ?_, ?_, ?_, trivial⟩
        all_goals (
          intro x w' hE hd
          try simp [PhDeps, at_k, at_p, at_t, at_any, Region.binds] at hd
          try ((with_reducible refine Exists.elim hd ?_); clear hd; intro y hd; obtain ⟨hd, hG⟩ := hd)
          have d1 := hE.cell x1.1
          have d2 := hE.cell x1.2.1
          first | simp only [frL, List.length_cons, List.length_nil, List.take_succ_cons, List.take_zero, Nat.reduceAdd, Nat.zero_add, List.setIfInBounds_toArray, List.set_cons_zero, List.set_cons_succ, hd] | simp only [frL, List.length_cons, List.length_nil, List.take_succ_cons, List.take_zero, Nat.reduceAdd, Nat.zero_add, List.setIfInBounds_toArray, List.set_cons_zero, List.set_cons_succ]
          go_wp2_with (first | (go_at_call 29; refine (kKey_any _ _).mono ?_; rintro e wa ⟨rfl, hea⟩) | (go_at_call 26; refine (F1.out _ _ (m1.ext hE)).mono ?_; rintro e wa ⟨rfl, hea⟩))
          all_goals first
            | ((with_reducible refine phK ?_ ?_); (focus rfl); (repeat (first | (with_reducible assumption) | (with_reducible exact Ext.refl _) | (with_reducible refine Ext.drew ?_) | (with_reducible refine Ext.drewN ?_ _) | (with_reducible refine Ext.alloc ?_ _) | (with_reducible refine Ext.trans ?_ (by with_reducible assumption)))))
            | ((with_reducible refine phT rfl hG ?_); (repeat (first | (with_reducible assumption) | (with_reducible exact Ext.refl _) | (with_reducible refine Ext.drew ?_) | (with_reducible refine Ext.drewN ?_ _) | (with_reducible refine Ext.alloc ?_ _) | (with_reducible refine Ext.trans ?_ (by with_reducible assumption)))))
            | ((with_reducible refine phU hG ?_); (repeat (first | (with_reducible assumption) | (with_reducible exact Ext.refl _) | (with_reducible refine Ext.drew ?_) | (with_reducible refine Ext.drewN ?_ _) | (with_reducible refine Ext.alloc ?_ _) | (with_reducible refine Ext.trans ?_ (by with_reducible assumption)))))
            | (with_reducible exact phBox hE)
            | (with_reducible exact phRow hE))
      case he =>
        intro x w9 E9 hd
        simp [PhEnd, at_k, at_p, at_t, at_any] at hd
        simp only [frL, List.length_cons, List.length_nil, List.take_succ_cons, List.take_zero, Nat.reduceAdd, Nat.zero_add, List.setIfInBounds_toArray, List.set_cons_zero, List.set_cons_succ, hd, List.length_cons, List.length_nil, List.drop_succ_cons, List.drop_zero]
        clear hd
        replace m1 := IsMap.ext m1 (E9); replace mX := IsMap.ext mX (E9); replace b1 := (E9).heap b1; replace gX := (E9).heap gX
        replace E3 := E3.trans E9
        have x1 := blk2 b1
        have xX := blk2 gX
        go_wp2_with fail
        refine wp_region_ph [.k (.agg #[.slice a3 C'.length k3, .slice a4 O'.length k4]), .k (.int .i64 b), .k (.string (keyOf b)), .k (.tuple #[.int .i64 n, .int .i64 0]), .k (.tuple #[.int .i64 n, .int .i64 0]), .k (.int .i64 n), .k (.int .i64 0)] [6] (by kernel_rfl) (by kernel_rfl) (by kernel_rfl) rfl rfl ?hs ?hC ?he
        case hC =>
          intro i hi
          simp only [List.mem_cons, List.not_mem_nil, or_false] at hi
          subst hi
          all_goals (
            intro o u ho hu
            simp [RS.k, RS.p, RS.t, RS.any] at ho hu
            subst ho; subst hu
            refine ⟨rfl, fun x w2 hd w3 => ?_⟩
            simp [PhDeps, at_k, at_p, at_t, at_any, Region.binds] at hd
            try ((with_reducible refine Exists.elim hd ?_); clear hd; intro y hd; obtain ⟨hd, hG⟩ := hd)
            simp [frL, hd, List.take_succ_cons, execOp, Act.eval, Frame.eval, Instr.extract])
        case hs =>
          refine ⟨?_, ?_, ?_, ?_, ?_, ?_, ?_, trivial⟩
          all_goals (
            intro x w' hE hd
            try simp [PhDeps, at_k, at_p, at_t, at_any, Region.binds] at hd
            try ((with_reducible refine Exists.elim hd ?_); clear hd; intro y hd; obtain ⟨hd, hG⟩ := hd)
            have d1 := hE.cell xX.1
            have d2 := hE.cell xX.2.1
            first | simp only [frL, List.length_cons, List.length_nil, List.take_succ_cons, List.take_zero, Nat.reduceAdd, Nat.zero_add, List.setIfInBounds_toArray, List.set_cons_zero, List.set_cons_succ, hd] | simp only [frL, List.length_cons, List.length_nil, List.take_succ_cons, List.take_zero, Nat.reduceAdd, Nat.zero_add, List.setIfInBounds_toArray, List.set_cons_zero, List.set_cons_succ]
            go_wp2_with (first | (go_at_call 29; refine (kKey_any _ _).mono ?_; rintro e wa ⟨rfl, hea⟩) | (go_at_call 26; refine (F2.out _ _ (mX.ext hE)).mono ?_; rintro e wa ⟨rfl, hea⟩))
            all_goals first
              | ((with_reducible refine phK ?_ ?_); (focus rfl); (repeat (first | (with_reducible assumption) | (with_reducible exact Ext.refl _) | (with_reducible refine Ext.drew ?_) | (with_reducible refine Ext.drewN ?_ _) | (with_reducible refine Ext.alloc ?_ _) | (with_reducible refine Ext.trans ?_ (by with_reducible assumption)))))
              | ((with_reducible refine phT rfl hG ?_); (repeat (first | (with_reducible assumption) | (with_reducible exact Ext.refl _) | (with_reducible refine Ext.drew ?_) | (with_reducible refine Ext.drewN ?_ _) | (with_reducible refine Ext.alloc ?_ _) | (with_reducible refine Ext.trans ?_ (by with_reducible assumption)))))
              | ((with_reducible refine phU hG ?_); (repeat (first | (with_reducible assumption) | (with_reducible exact Ext.refl _) | (with_reducible refine Ext.drew ?_) | (with_reducible refine Ext.drewN ?_ _) | (with_reducible refine Ext.alloc ?_ _) | (with_reducible refine Ext.trans ?_ (by with_reducible assumption)))))
              | (with_reducible exact phBox hE)
              | (with_reducible exact phRow hE))
        case he =>
          intro x w10 E10 hd
          simp [PhEnd, at_k, at_p, at_t, at_any] at hd
          simp only [frL, List.length_cons, List.length_nil, List.take_succ_cons, List.take_zero, Nat.reduceAdd, Nat.zero_add, List.setIfInBounds_toArray, List.set_cons_zero, List.set_cons_succ, hd, List.length_cons, List.length_nil, List.drop_succ_cons, List.drop_zero]
          clear hd
          replace m1 := IsMap.ext m1 (E10); replace mX := IsMap.ext mX (E10); replace b1 := (E10).heap b1; replace gX := (E10).heap gX
          replace E3 := E3.trans E10
          have x1 := blk2 b1
          have xX := blk2 gX
          go_wp2_with fail
          refine (plain_ok _ C' O' _ mX smX okX).mono ?_
          rw [PX.out]
          obtain ⟨C2, hC2⟩ : ∃ C2, (pl C O C.length).1 = C2 := ⟨_, rfl⟩
          obtain ⟨O2, hO2⟩ : ∃ O2, (pl C O C.length).2 = O2 := ⟨_, rfl⟩
          have P1 := plain_ok (.agg #[.slice a1 C.length k1, .slice a2 O.length k2]) C O
          rw [hC2, hO2] at P1 ⊢
          have P1 := hid P1
          clear hC2 hO2
          rintro e w11 ⟨v1, rfl, hm1, E11⟩
          obtain ⟨a5, k5, a6, k6, rfl, mP⟩ := hm1.unpack
          replace m1 := IsMap.ext m1 (E11); replace mX := IsMap.ext mX (E11); replace b1 := (E11).heap b1; replace gX := (E11).heap gX
          replace E3 := E3.trans E11
          have bP := heap_alloc_new w11 (.cells #[.slice a5 C2.length k5, .slice a6 O2.length k6] 26)
          have Ea : Ext w11 (w11.alloc (.cells #[.slice a5 C2.length k5, .slice a6 O2.length k6] 26)) := (Ext.refl _).alloc _
          replace m1 := IsMap.ext m1 (Ea); replace mX := IsMap.ext mX (Ea); replace b1 := (Ea).heap b1; replace gX := (Ea).heap gX; replace mP := IsMap.ext mP (Ea)
          replace E3 := E3.trans Ea
          have x1 := blk2 b1
          go_wp2_with fail
          generalize w11.alloc (.cells #[.slice a5 C2.length k5, .slice a6 O2.length k6] 26) = w12 at bP m1 mX b1 gX mP E3 ⊢
          refine (P1.out _ m1 hsm ok).mono ?_
          rintro e w13 ⟨v2, rfl, hm2, E13⟩
          obtain ⟨a7, k7, a8, k8, rfl, mQ⟩ := hm2.unpack
          have bQ := heap_alloc_new w13 (.cells #[.slice a7 C2.length k7, .slice a8 O2.length k8] 26)
          have Eb : Ext w12 (w13.alloc (.cells #[.slice a7 C2.length k7, .slice a8 O2.length k8] 26)) := E13.alloc _
          replace mX := IsMap.ext mX (Eb); replace gX := (Eb).heap gX; replace mP := IsMap.ext mP (Eb); replace bP := (Eb).heap bP
          replace mQ := mQ.ext ((Ext.refl w13).alloc (.cells #[.slice a7 C2.length k7, .slice a8 O2.length k8] 26))
          replace E3 := E3.trans Eb
          have xX := blk2 gX
          have xP := blk2 bP
          have xQ := blk2 bQ
          go_wp2_with fail
          clear xX xP xQ
          generalize w13.alloc (.cells #[.slice a7 C2.length k7, .slice a8 O2.length k8] 26) = w14 at bQ mX gX mP bP mQ E3 ⊢
          refine (sameMap_any _ _ C2 C2 O2 O2 _ mP mQ).mono ?_
          rw [show sameB C2 C2 O2 O2 = true from by simp [sameB]]
          rintro e w15 ⟨rfl, E15⟩
          replace mX := IsMap.ext mX (E15); replace gX := (E15).heap gX
          replace E3 := E3.trans E15
          have xX := blk2 gX
          go_wp2_with fail
          refine (mcheck_any _ C' O' _ mX smX).mono ?_
          rw [mapErr_ok okX]
          rintro e w16 ⟨rfl, E16⟩
          go_wp2
          go_ret
          exact ⟨rB rfl, E3.trans E16⟩
end Go.Proofs.Ytijcckhkofkenaa
