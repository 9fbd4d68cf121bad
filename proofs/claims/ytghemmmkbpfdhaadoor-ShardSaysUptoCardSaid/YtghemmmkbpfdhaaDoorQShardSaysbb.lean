/- Contracts and lemmas for the proof of ShardSays; each theorem states its own conditions. -/
import Derived.Test.YtghemmmkbpfdhaaDoorQShardSaysaz
import Derived.Test.YtghemmmkbpfdhaaDoorQShardSaysap
import Derived.Test.YtghemmmkbpfdhaaDoorQShardSaysag
import Derived.Test.YtghemmmkbpfdhaaDoorQShardSaysak
import Derived.Test.YtghemmmkbpfdhaaDoorQShardSaysau
import Derived.Test.YtghemmmkbpfdhaaDoorQShardSaysba
import Derived.Test.YtghemmmkbpfdhaaDoorQShardSaysad
set_option linter.unusedVariables false
set_option linter.unusedSimpArgs false
/- Contracts and lemmas for the proofs of this seat; each theorem states its own conditions. -/
namespace Go.Proofs.YtghemmmkbpfdhaaDoor
open Go.RowKit
/-! shard.Part -/
def partP (C : List ByteArray) (O : List Int) (l : Prs) (n : Int) : Prs := l.filter fun x => !(whose C O x.1 != n)
theorem whose_rng {C : List ByteArray} {O : List Int} (h : MapOk C O) (k : ByteArray) : 0 ≤ whose C O k ∧ whose C O k < 4 := by
  have hl := h.len
  have hp := plc_le h.srt k
  rw [whose_plc]
  have hlt : plc C k < O.length := by omega
  have e : O.getD (plc C k) 0 = O[plc C k] := by simp [hlt]
  rw [e]
  exact mem_range_of h.own _ (List.getElem_mem hlt)
set_option maxRecDepth 10000 in
set_option maxHeartbeats 1000000 in
theorem part1_any (x : ByteArray × Int) (bm bo : Nat) (c o : Value) (C : List ByteArray) (O : List Int) (n : Int) (w : World) (hbm : w.heap[bm]? = some (.cells #[c, o] 28 (0, 0))) (hbo : w.cell? ⟨bo, 0, none⟩ = some (.int .i64 n)) (hm : IsMap w (.agg #[c, o]) C O) (ok : MapOk C O) :
    Calls Tryd.prog 79 #[.agg #[.string x.1, .int .i64 x.2], .pointer (some ⟨bm, 0, none⟩), .pointer (some ⟨bo, 0, none⟩)] w fun e w' => e = .returned (.bool (whose C O x.1 != n)) ∧ Ext w w' := by
  have E0 := (Ext.refl w).alloc (.cells #[.string x.1, .int .i64 x.2] 77)
  have xb := blk2 (heap_alloc_new w (.cells #[.string x.1, .int .i64 x.2] 77))
  have xm := blk2 (E0.heap hbm)
  have xo := E0.cell hbo
  have few := ok.few
  have W := fun w' (E : Ext (w.alloc (.cells #[.string x.1, .int .i64 x.2] 77)) w') => of_any (.agg #[c, o]) C O x.1 w' (hm.ext (E0.trans E)) ok.srt ok.len (by omega)
  have W := hid W
  generalize whose C O x.1 = z at W ⊢
  obtain ⟨key, u⟩ := x
  dsimp only at *
  clear hm hbm hbo
  generalize hw : w.alloc (.cells #[.string key, .int .i64 u] 77) = w0 at E0 xb xm xo W
  go_enter Tryd.func79, Tryd.ntmps79
  go_wp2_with fail
  refine wp_region_ph [.k (.agg #[c, o]), .k (.pointer (some ⟨w.heap.size, 0, none⟩)), .k (.string key), .k (.int .i64 z), .k (.int .i64 n), .k (.bool (z != n))] [] (by kernel_rfl) (by kernel_rfl) (by kernel_rfl) rfl rfl ?hs ?hC ?he
  case hC =>
    intro i hi
    simp at hi
  case hs =>
    refine ⟨?_, ?_, ?_, ?_, ?_, ?_, trivial⟩
    all_goals (
      intro x w' hE hd
      try simp [PhDeps, at_k, at_p, at_t, at_any, Region.binds] at hd
      try ((with_reducible refine Exists.elim hd ?_); clear hd; intro y hd; obtain ⟨hd, hG⟩ := hd)
      have d1 := hE.cell xb.1
      have d2 := hE.cell xm.1
      have d3 := hE.cell xm.2.1
      have d4 := hE.cell xo
      first | simp only [frL, List.length_cons, List.length_nil, List.take_succ_cons, List.take_zero, Nat.reduceAdd, Nat.zero_add, List.setIfInBounds_toArray, List.set_cons_zero, List.set_cons_succ, hd] | simp only [frL, List.length_cons, List.length_nil, List.take_succ_cons, List.take_zero, Nat.reduceAdd, Nat.zero_add, List.setIfInBounds_toArray, List.set_cons_zero, List.set_cons_succ]
      go_wp2_with (first | (go_at_call 49; refine ((W.out _ (by assumption))).mono ?_; rintro e wa ⟨rfl, hea⟩))
      all_goals first
        | ((with_reducible refine phK ?_ ?_); (focus rfl); (repeat (first | (with_reducible assumption) | (with_reducible exact Ext.refl _) | (with_reducible refine Ext.drew ?_) | (with_reducible refine Ext.drewN ?_ _) | (with_reducible refine Ext.alloc ?_ _) | (with_reducible refine Ext.trans ?_ (by with_reducible assumption)))))
        | ((with_reducible refine phT rfl hG ?_); (repeat (first | (with_reducible assumption) | (with_reducible exact Ext.refl _) | (with_reducible refine Ext.drew ?_) | (with_reducible refine Ext.drewN ?_ _) | (with_reducible refine Ext.alloc ?_ _) | (with_reducible refine Ext.trans ?_ (by with_reducible assumption)))))
        | ((with_reducible refine phU hG ?_); (repeat (first | (with_reducible assumption) | (with_reducible exact Ext.refl _) | (with_reducible refine Ext.drew ?_) | (with_reducible refine Ext.drewN ?_ _) | (with_reducible refine Ext.alloc ?_ _) | (with_reducible refine Ext.trans ?_ (by with_reducible assumption)))))
        | (with_reducible exact phBox hE)
        | (with_reducible exact phRow hE))
  case he =>
    intro x w2 E2 hd
    simp [PhEnd, at_k, at_p, at_t, at_any] at hd
    simp only [frL, List.length_cons, List.length_nil, List.take_succ_cons, List.take_zero, Nat.reduceAdd, Nat.zero_add, List.setIfInBounds_toArray, List.set_cons_zero, List.set_cons_succ, hd, List.length_cons, List.length_nil, List.drop_succ_cons, List.drop_zero]
    clear hd
    clear hw
    go_wp2
    go_ret
    exact ⟨rfl, E0.trans E2⟩
/-- Part, at what may be -/
theorem part_fun (C : List ByteArray) (O : List Int) (n : Int) (l : Prs) : (l.filter fun x => !(whose C O x.1 != n)) = partP C O l n := rfl
set_option maxRecDepth 10000 in
set_option maxHeartbeats 1000000 in
theorem part_ok (vm vl : Value) (C : List ByteArray) (O : List Int) (l : Prs) (n : Int) (w : World) (hm : IsMap w vm C O) (ok : MapOk C O) (hk : ∀ k ∈ C, k.size ≤ 9223372036854775807) (hv : Seg w vl 2 l.length (cP l)) (os : StoreOk l) (hlen : l.length ≤ 1000000) (h0 : 0 ≤ n) (h4 : n < 4) :
    Calls Tryd.prog 41 #[vm, vl, .int .i64 n] w fun e w' => ∃ v', e = .returned (.tuple #[v', .int .i64 0]) ∧ w'.ownsRow w.heap.size 77 2 v' (partP C O l n).length (cP (partP C O l n)) ∧ Ext w w' := by
  obtain ⟨a1, k1, a2, k2, rfl, m1, m2⟩ := hm.unpack
  generalize hc : Value.slice a1 C.length k1 = c at *
  generalize ho : Value.slice a2 O.length k2 = o at *
  have b1 := heap_1 w (.cells #[c, o] 28) (.cells #[.int .i64 n] 3)
  have b2 := heap_2 w (.cells #[c, o] 28) (.cells #[.int .i64 n] 3)
  have E0 := ((Ext.refl w).alloc (.cells #[c, o] 28)).alloc (.cells #[.int .i64 n] 3)
  generalize hw0 : (w.alloc (.cells #[c, o] 28)).alloc (.cells #[.int .i64 n] 3) = w0 at b1 b2 E0
  have x1 := blk2 b1
  have x2 := cell_of_one b2
  replace hm := hm.ext E0
  replace hv := hv.ext E0
  have MC := mcheck_any (.agg #[c, o]) C O w0 hm hk
  rw [mapErr_ok ok] at MC
  have MC := hid MC
  subst hc; subst ho
  go_enter Tryd.func41, Tryd.ntmps41
  go_wp2_with fail
  refine (MC.out).mono ?_
  clear MC
  rintro e w1 ⟨rfl, E1⟩
  have SC := scheck_any vl l w1 (hv.ext E1) (store_small os)
  rw [storeErr_ok os] at SC
  have SC := hid SC
  go_wp2_with fail
  refine (SC.out).mono ?_
  clear SC
  rintro e w2 ⟨rfl, E2⟩
  have EE := E1.trans E2
  have x3 := EE.cell x2
  have b1' := EE.heap b1
  have hm2 := hm.ext EE
  have hmf : ∀ (fn : Fn) (first cap : Array Value) (w : World), (Instr.makeFunc fn first cap).run Tryd.prog w = .ok (.func fn first cap) w := fun _ _ _ _ => rfl
  have CL := hid (clone_Pair vl l.length (cP l) w2 (hv.ext EE) (cP_one l) (by omega))
  clear hw0
  go_wp2_with fail
  refine (CL.out).mono ?_
  clear CL
  rintro e w3 ⟨a3, c3, rfl, o3, E3⟩
  have DF := delF_P w2.heap.size 79 #[.pointer (some ⟨w.heap.size, 0, none⟩), .pointer (some ⟨w.heap.size + 1, 0, none⟩)] (enters_of Tryd.func79 (by kernel_rfl) rfl) (fun x => whose C O x.1 != n) (.slice a3 l.length c3) l w3 o3 hlen (fun x _ w' hg => by
    have Ew : Ext w2 w' := E3.grown hg (fun k hk => own_ge o3 k hk)
    exact part1_any x w.heap.size (w.heap.size + 1) _ _ C O n w' (Ew.heap b1') (Ew.cell x3) (hm2.ext Ew) ok)
  rw [part_fun] at DF
  have DF := hid DF
  have hB := E3.size'
  have lP : (partP C O l n).length ≤ l.length := List.length_filter_le _ _
  obtain ⟨P, hP⟩ : ∃ P, partP C O l n = P := ⟨_, rfl⟩
  rw [hP] at DF lP
  have HP := hid hP
  clear hP
  go_wp2_with fail
  refine (DF.out).mono ?_
  clear DF
  rintro e w4 ⟨v4, rfl, o4, g4, _⟩
  have E4 : Ext w2 w4 := E3.grown g4 (fun k hk => own_ge o3 k hk)
  have CL := hid (clone_Pair v4 P.length (cP P) w4 (own_seg o4) (cP_one P) (by omega))
  go_wp2_with fail
  refine (CL.out).mono ?_
  rintro e w5 ⟨a5, c5, rfl, o5, E5⟩
  have EZ := (E0.trans EE).trans E4
  go_wp2
  go_ret2
  exact ⟨_, rT2 rfl rfl, by rw [HP.out]; exact own_base o5 EZ.size', EZ.trans E5⟩
end Go.Proofs.YtghemmmkbpfdhaaDoor
