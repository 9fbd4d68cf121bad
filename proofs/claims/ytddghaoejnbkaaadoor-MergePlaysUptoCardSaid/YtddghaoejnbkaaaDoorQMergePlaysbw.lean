/- Contracts and lemmas for the proof of MergePlays; each theorem states its own conditions. -/
import Derived.Test.YtddghaoejnbkaaaDoorQMergePlaysbu
import Derived.Test.YtddghaoejnbkaaaDoorQMergePlaysbv
import Derived.Test.YtddghaoejnbkaaaDoorQMergePlaysbc
import Derived.BigQuiet
set_option linter.unusedVariables false
set_option linter.unusedSimpArgs false
/- Contracts and lemmas for the proofs of this seat; each theorem states its own conditions. -/
namespace Go.Proofs.YtddghaoejnbkaaaDoor
open Go.RowKit
theorem cN_cI (l : List Nat) : cN l = cI (l.map fun (n : Nat) => (n : Int)) := by simp [cN, cI]
theorem equal_N (v u : Value) (l : List Nat) (w : World) (hv : Seg w v 1 l.length (cN l)) (hu : Seg w u 1 l.length (cN l)) :
    Calls Tryd.prog 5 #[v, u] w fun e w' => e = .returned (.bool true) ∧ Ext w w' := by
  rw [cN_cI] at hv hu
  have hl : (l.map fun (n : Nat) => (n : Int)).length = l.length := List.length_map _
  rw [← hl] at hv hu
  have q := equal_Int v u _ _ w hv hu
  rw [decide_eq_true rfl] at q
  refine q.mono ?_
  rintro e w1 ⟨rfl, n, rfl⟩
  exact ⟨rfl, (Ext.refl w).drewN n⟩
theorem wt_one : wtM (List.replicate 1 []) = [0] := by decide
set_option maxRecDepth 100000 in
set_option maxHeartbeats 16000000 in
theorem mplays_walk (z0 : Int) (v vx : Value) (ls : List (List Int)) (X : List Ent) (w : World) (hv : SegLL w v ls) (hx : EntsSeg w vx X) (hsz : ∀ x ∈ X, EntSz x) :
    Calls Tryd.prog 3 #[.int .i64 z0, v, vx] w fun e w' => e = .returned (.bool true) ∧ Ext w w' := by
  obtain ⟨vs, hvl, ⟨h0, a0, c0, rfl, m1, m2, hcell⟩, hrow⟩ := hv
  rw [hvl] at m1 h0 hcell ⊢
  unfold maxLen at m2
  have HC := hid hcell
  have HR := hid hrow
  have HVL := hid hvl
  have HX := hid hx
  have HSZ := hid hsz
  obtain ⟨ax, cx, e0⟩ : ∃ ax cx, vx = .slice ax X.length cx := by
    obtain ⟨es, _, h2, _⟩ := hx
    exact seg_form h2
  subst e0
  clear hcell hrow hvl h0 hx hsz
  go_enter Tryd.func3, Tryd.ntmps3
  go_wp2_with fail
  refine (mnew_ok 1 (by omega) (by omega) _).mono ?_
  rintro e w1 ⟨bm1, S1, rfl, hM, _, E1⟩
  have MW := mwaits_ok hM
  rw [wt_one] at MW
  have MW := hid MW
  have HE1 := hid E1
  clear hM E1
  go_wp2_with fail
  refine (MW.out).mono ?_
  clear MW
  rintro e w2 ⟨v2, rfl, o2, E2⟩
  have EB := (Ext.refl w2).alloc (.cells #[.int .i64 0] 3)
  have bb := heap_alloc_new w2 (.cells #[.int .i64 0] 3)
  have EQ := hid (equal_N v2 (.slice (some ⟨w2.heap.size, 0, none⟩) 1 1) [0] (w2.alloc (.cells #[.int .i64 0] 3)) ((own_seg o2).ext EB) (seg_one bb))
  obtain ⟨a2, k2, rfl⟩ := own_form o2
  have HE2 := hid ((HE1.out.trans E2).trans EB)
  clear o2 E2 EB bb HE1
  go_wp2_with fail
  refine (EQ.out).mono ?_
  clear EQ
  rintro e w3 ⟨rfl, E3⟩
  have HE3 := hid (HE2.out.trans E3)
  clear E3 HE2
  go_wp2_with fail
  by_cases hn : 1 ≤ z0 ∧ z0 ≤ 4
  · obtain ⟨n, rfl⟩ : ∃ n : Nat, z0 = (n : Int) := ⟨z0.toNat, by omega⟩
    have n1 : 1 ≤ n := by omega
    have n4 : n ≤ 4 := by omega
    refine (mnew_ok n n1 n4 _).mono ?_
    rintro e w4 ⟨bm, S1', rfl, hM, hS1, E4⟩
    have E04 := HE3.out.trans E4
    have RN := hid (rmnew_any n (by omega) n4 w4 (fun q => q < w.heap.size) (fun q hq => Nat.lt_of_lt_of_le hq E04.size'))
    have HM := hid hM
    have HS1 := hid (fun q (hq : S1' q) => Nat.le_trans HE3.out.size' (hS1 q hq))
    have HE4 := hid E04
    have qa : ¬ ((n : Int) < 1) := by omega
    have qb : ¬ ((n : Int) > 4) := by omega
    have qc : decide ((4 : Int) < (n : Int)) = false := decide_eq_false (by omega)
    have qd : decide ((n : Int) < 1) = false := decide_eq_false (by omega)
    clear hM hS1 E4 E04 HE3
    go_wp2_with fail
    refine (RN.out).mono ?_
    clear RN
    rintro e w5 ⟨br, S2, rfl, hR, hS2, E5⟩
    have HP0 := hid (show MPI w n bm br w5 from ⟨S1', S2, _, _, _, ⟨HM.out.ext E5, by rw [batM_nil]; exact hR, fun q hq hs => by have := HM.out.ty.lt hq; have := hS2 q hs; omega, fun q hq hp => by have := HS1.out q hq; omega, HE4.out.trans E5, HS1.out, fun q hq => Nat.le_trans HE4.out.size' (hS2 q hq), fun q hq => hq⟩, MPL.nil⟩)
    clear hR hS2 E5 HM HS1 HE4
    go_wp2_with fail
    go_loopw [13, 14, 15, 16, 17, 18, 19, 64] (fun _ _ _ _ _ _ _ iv wr => ∃ i : Nat, i ≤ ls.length ∧ iv = .int .i64 i ∧ Hid (MPI w n bm br wr)) (fun _ _ _ _ _ _ _ iv _ => ls.length - (intOf iv).toNat)
    case atStart => exact ⟨0, Nat.zero_le _, rfl, HP0⟩
    case round =>
      clear HP0
      obtain ⟨wo, rfl⟩ : ∃ wo : World, wo = wr := ⟨_, rfl⟩
      obtain ⟨i, hi, rfl, HP⟩ := hrel
      have EW := HP.out.E
      by_cases hil : i < ls.length
      · obtain ⟨b, off, rfl, hc⟩ := HC.out (by omega)
        have hvi : i < vs.length := by have := HVL.out; omega
        have cu := EW.cell (hc i _ (List.getElem?_eq_getElem hvi))
        have hs := (HR.out i vs[i] ls[i] (List.getElem?_eq_getElem hvi) (List.getElem?_eq_getElem hil)).ext EW
        obtain ⟨au, ku, hu⟩ := seg_form hs
        rw [hu] at cu hs
        have A1 := hid (rat_any _ ls[i] 1 wo hs (by omega))
        have A0 := hid (rat_any _ ls[i] 0 wo hs (by omega))
        have A2 := hid (rat_any _ ls[i] 2 wo hs (by omega))
        rw [show ((1 : Int)).toNat = 1 from rfl] at A1
        rw [show ((0 : Int)).toNat = 0 from rfl] at A0
        rw [show ((2 : Int)).toNat = 2 from rfl] at A2
        clear hc hs hu
        generalize ls[i].length = nl at A1 A0 A2 cu
        generalize ls[i].getD 1 0 = z at A1
        generalize ls[i].getD 0 0 = zk at A0
        generalize ls[i].getD 2 0 = zx at A2
        have HEW := hid EW
        clear EW
        go_wp2_with fail
        refine (A1.out).mono ?_
        rintro e wa ⟨rfl, rfl⟩
        go_wp2_with fail
        refine (A0.out).mono ?_
        rintro e wa ⟨rfl, rfl⟩
        obtain ⟨wo, rfl⟩ : ∃ wo : World, wo = wa := ⟨_, rfl⟩
        go_upto_block 2 with fail
        clear A1 A0 cu
        go_cut [] from 65 to 130 (fun wx => Hid (MPI w n bm br wx))
        case first =>
          obtain ⟨S1, S2, P, cl, op, HG, HL⟩ := HP.out
          by_cases q1 : zk = 1
          · subst q1
            have PK := hid (pickE_any (.slice ax X.length cx) X zx w wo HX.out HEW.out)
            have PS := pickE_mem (X := X) (z := zx) EntSz ⟨fun o ho => by simp [entZ0] at ho, fun k hk => by simp [entZ0] at hk⟩ HSZ.out
            have HGG := hid HG
            have HLL := hid HL
            clear HP HG HL
            go_wp2_with fail
            refine (A2.out).mono ?_
            clear A2
            rintro e wa ⟨rfl, rfl⟩
            obtain ⟨wo, rfl⟩ : ∃ wo : World, wo = wa := ⟨_, rfl⟩
            go_wp2_with fail
            refine (PK.out).mono ?_
            clear PK
            rintro e w5 ⟨y, he, hy, E5⟩
            obtain ⟨r, cl', op', HL', HA, HB⟩ := mp_add (w := w) (bm := bm) (br := br) n1 HLL.out z y _ hy PS
            generalize pickE X zx = xe at hy PS HA HB
            obtain ⟨v1, b1, v2, v3⟩ := y
            obtain ⟨f1, g1, e1⟩ := seg_form hy.ops
            obtain ⟨f2, g2, e2⟩ := seg_form hy.cuts
            obtain ⟨f3, g3, e3⟩ := seg_form hy.own
            dsimp only at e1 e2 e3
            subst e1; subst e2; subst e3
            have he : e = .returned (.agg #[.slice f1 xe.ops.length g1, .bool b1, .slice f2 xe.cuts.length g2, .slice f3 xe.own.length g3]) := he
            subst he
            have HA := hid (show ∀ (wr : World) (S1 S2 P : Nat → Prop), MPG w wr S1 S2 P bm br cl op (batM cl op) → Calls Tryd.prog 10 #[.pointer (some ⟨bm, 0, none⟩), .int .i64 z, .agg #[.slice f1 xe.ops.length g1, .bool b1, .slice f2 xe.cuts.length g2, .slice f3 xe.own.length g3]] wr fun q w' => q = .returned (.int .i64 r) ∧ ∃ S1', MPG w w' S1' S2 P bm br cl' op' (batM cl op) ∧ Kp S1 wr w' S1' from HA)
            have HB := hid (show ∀ (wr : World) (S1 S2 P : Nat → Prop), MPG w wr S1 S2 P bm br cl' op' (batM cl op) → Calls Tryd.prog 11 #[.pointer (some ⟨br, 0, none⟩), .int .i64 z, .agg #[.slice f1 xe.ops.length g1, .bool b1, .slice f2 xe.cuts.length g2, .slice f3 xe.own.length g3]] wr fun q w' => q = .returned (.int .i64 r) ∧ ∃ S2' P', MPG w w' S1 S2' P' bm br cl' op' (batM cl' op') ∧ Kp S2 wr w' S2' from HB)
            have EB := (Ext.refl w5).alloc (.cells #[.slice f1 xe.ops.length g1, .bool b1, .slice f2 xe.cuts.length g2, .slice f3 xe.own.length g3] 41)
            have bx := heap_alloc_new w5 (.cells #[.slice f1 xe.ops.length g1, .bool b1, .slice f2 xe.cuts.length g2, .slice f3 xe.own.length g3] 41)
            obtain ⟨W, hW⟩ : ∃ W, w5.alloc (.cells #[.slice f1 xe.ops.length g1, .bool b1, .slice f2 xe.cuts.length g2, .slice f3 xe.own.length g3] 41) = W := ⟨_, rfl⟩
            obtain ⟨bb, hbb⟩ : ∃ bb, w5.heap.size = bb := ⟨_, rfl⟩
            rw [hW] at EB bx
            rw [hbb] at bx
            have HMB := hid (show MPB w bm br bb #[.slice f1 xe.ops.length g1, .bool b1, .slice f2 xe.cuts.length g2, .slice f3 xe.own.length g3] cl op (batM cl op) W from ⟨S1, S2, P, (HGG.out.ext E5).ext EB, fun q => by have := HGG.out.mer.ty.lt q; have := E5.size'; omega, fun q => by have := HGG.out.ref.ty.lt q; have := E5.size'; omega, bx⟩)
            have HLN := hid HL'
            have k8 := blk4 bx
            have qr : (r != r) = false := by simp
            clear hy PS EB E5 HL' HGG HLL bx
            go_wp2_with fail
            refine wp_region_two (by kernel_rfl) (by kernel_rfl) (fun ii => match ii with | 0 => some (.pointer (some ⟨bm, 0, none⟩)) | 1 => some (.int .i64 z) | 2 => some (.agg #[.slice f1 xe.ops.length g1, .bool b1, .slice f2 xe.cuts.length g2, .slice f3 xe.own.length g3]) | 3 => some (.int .i64 r) | 4 => some (.pointer (some ⟨br, 0, none⟩)) | 5 => some (.int .i64 z) | 6 => some (.agg #[.slice f1 xe.ops.length g1, .bool b1, .slice f2 xe.cuts.length g2, .slice f3 xe.own.length g3]) | 7 => some (.int .i64 r) | 8 => some (.bool false) | _ => none) 3 7 (by decide) (by kernel_rfl) (by kernel_rfl) (by kernel_rfl) (fun w' => w'.heap[bb]? = some (.cells #[.slice f1 xe.ops.length g1, .bool b1, .slice f2 xe.cuts.length g2, .slice f3 xe.own.length g3] 41 (0, 0))) (fun w' => MPB w bm br bb #[.slice f1 xe.ops.length g1, .bool b1, .slice f2 xe.cuts.length g2, .slice f3 xe.own.length g3] cl op (batM cl op) w') (fun w' => MPB w bm br bb #[.slice f1 xe.ops.length g1, .bool b1, .slice f2 xe.cuts.length g2, .slice f3 xe.own.length g3] cl' op' (batM cl op) w') (fun w' => MPB w bm br bb #[.slice f1 xe.ops.length g1, .bool b1, .slice f2 xe.cuts.length g2, .slice f3 xe.own.length g3] cl' op' (batM cl' op') w') ?st0 ?st1 ?st2 ?k0 ?k1 ?k2 ?h0 ?hs ?he
            case hs =>
              refine ⟨?s0, ?s1, ?s2, ?sm, ?s4, ?s5, ?s6, ?sn, ?s8, trivial⟩
              case s0 =>
                intro x w' hd
                try simp [Region.binds] at hd
                refine ⟨fun _ _ hK => ?_, fun h => absurd h (by decide), fun h => absurd h (by decide)⟩
                obtain ⟨d1, d2, d3, d4⟩ := blk4 (show w'.heap[bb]? = some (.cells #[.slice f1 xe.ops.length g1, .bool b1, .slice f2 xe.cuts.length g2, .slice f3 xe.own.length g3] 41 (0, 0)) from hK)
                unfold TPost
                first | simp only [frL, List.length_cons, List.length_nil, List.take_succ_cons, List.take_zero, Nat.reduceAdd, Nat.zero_add, List.setIfInBounds_toArray, List.set_cons_zero, List.set_cons_succ, hd] | simp only [frL, List.length_cons, List.length_nil, List.take_succ_cons, List.take_zero, Nat.reduceAdd, Nat.zero_add, List.setIfInBounds_toArray, List.set_cons_zero, List.set_cons_succ]
                go_wp2
                all_goals first | (with_reducible exact Ext.refl _) | exact ⟨rfl, _, rfl, (fun u hu => by simpa using hu), (by (repeat (first | (with_reducible assumption) | (with_reducible exact Ext.refl _) | (with_reducible refine Ext.drew ?_) | (with_reducible refine Ext.drewN ?_ _) | (with_reducible refine Ext.alloc ?_ _) | (with_reducible refine Ext.trans ?_ (by with_reducible assumption)))))⟩ | (with_reducible exact (by (repeat (first | (with_reducible assumption) | (with_reducible exact Ext.refl _) | (with_reducible refine Ext.drew ?_) | (with_reducible refine Ext.drewN ?_ _) | (with_reducible refine Ext.alloc ?_ _) | (with_reducible refine Ext.trans ?_ (by with_reducible assumption))))))
              case s1 =>
                intro x w' hd
                try simp [Region.binds] at hd
                refine ⟨fun _ _ hK => ?_, fun h => absurd h (by decide), fun h => absurd h (by decide)⟩
                obtain ⟨d1, d2, d3, d4⟩ := blk4 (show w'.heap[bb]? = some (.cells #[.slice f1 xe.ops.length g1, .bool b1, .slice f2 xe.cuts.length g2, .slice f3 xe.own.length g3] 41 (0, 0)) from hK)
                unfold TPost
                first | simp only [frL, List.length_cons, List.length_nil, List.take_succ_cons, List.take_zero, Nat.reduceAdd, Nat.zero_add, List.setIfInBounds_toArray, List.set_cons_zero, List.set_cons_succ, hd] | simp only [frL, List.length_cons, List.length_nil, List.take_succ_cons, List.take_zero, Nat.reduceAdd, Nat.zero_add, List.setIfInBounds_toArray, List.set_cons_zero, List.set_cons_succ]
                go_wp2
                all_goals first | (with_reducible exact Ext.refl _) | exact ⟨rfl, _, rfl, (fun u hu => by simpa using hu), (by (repeat (first | (with_reducible assumption) | (with_reducible exact Ext.refl _) | (with_reducible refine Ext.drew ?_) | (with_reducible refine Ext.drewN ?_ _) | (with_reducible refine Ext.alloc ?_ _) | (with_reducible refine Ext.trans ?_ (by with_reducible assumption)))))⟩ | (with_reducible exact (by (repeat (first | (with_reducible assumption) | (with_reducible exact Ext.refl _) | (with_reducible refine Ext.drew ?_) | (with_reducible refine Ext.drewN ?_ _) | (with_reducible refine Ext.alloc ?_ _) | (with_reducible refine Ext.trans ?_ (by with_reducible assumption))))))
              case s2 =>
                intro x w' hd
                try simp [Region.binds] at hd
                refine ⟨fun _ _ hK => ?_, fun h => absurd h (by decide), fun h => absurd h (by decide)⟩
                obtain ⟨d1, d2, d3, d4⟩ := blk4 (show w'.heap[bb]? = some (.cells #[.slice f1 xe.ops.length g1, .bool b1, .slice f2 xe.cuts.length g2, .slice f3 xe.own.length g3] 41 (0, 0)) from hK)
                unfold TPost
                first | simp only [frL, List.length_cons, List.length_nil, List.take_succ_cons, List.take_zero, Nat.reduceAdd, Nat.zero_add, List.setIfInBounds_toArray, List.set_cons_zero, List.set_cons_succ, hd] | simp only [frL, List.length_cons, List.length_nil, List.take_succ_cons, List.take_zero, Nat.reduceAdd, Nat.zero_add, List.setIfInBounds_toArray, List.set_cons_zero, List.set_cons_succ]
                go_wp2
                all_goals first | (with_reducible exact Ext.refl _) | exact ⟨rfl, _, rfl, (fun u hu => by simpa using hu), (by (repeat (first | (with_reducible assumption) | (with_reducible exact Ext.refl _) | (with_reducible refine Ext.drew ?_) | (with_reducible refine Ext.drewN ?_ _) | (with_reducible refine Ext.alloc ?_ _) | (with_reducible refine Ext.trans ?_ (by with_reducible assumption)))))⟩ | (with_reducible exact (by (repeat (first | (with_reducible assumption) | (with_reducible exact Ext.refl _) | (with_reducible refine Ext.drew ?_) | (with_reducible refine Ext.drewN ?_ _) | (with_reducible refine Ext.alloc ?_ _) | (with_reducible refine Ext.trans ?_ (by with_reducible assumption))))))
              case s4 =>
                intro x w' hd
                try simp [Region.binds] at hd
                refine ⟨fun _ _ hK => ?_, fun h => absurd h (by decide), fun h => absurd h (by decide)⟩
                obtain ⟨d1, d2, d3, d4⟩ := blk4 (show w'.heap[bb]? = some (.cells #[.slice f1 xe.ops.length g1, .bool b1, .slice f2 xe.cuts.length g2, .slice f3 xe.own.length g3] 41 (0, 0)) from hK)
                unfold TPost
                first | simp only [frL, List.length_cons, List.length_nil, List.take_succ_cons, List.take_zero, Nat.reduceAdd, Nat.zero_add, List.setIfInBounds_toArray, List.set_cons_zero, List.set_cons_succ, hd] | simp only [frL, List.length_cons, List.length_nil, List.take_succ_cons, List.take_zero, Nat.reduceAdd, Nat.zero_add, List.setIfInBounds_toArray, List.set_cons_zero, List.set_cons_succ]
                go_wp2
                all_goals first | (with_reducible exact Ext.refl _) | exact ⟨rfl, _, rfl, (fun u hu => by simpa using hu), (by (repeat (first | (with_reducible assumption) | (with_reducible exact Ext.refl _) | (with_reducible refine Ext.drew ?_) | (with_reducible refine Ext.drewN ?_ _) | (with_reducible refine Ext.alloc ?_ _) | (with_reducible refine Ext.trans ?_ (by with_reducible assumption)))))⟩ | (with_reducible exact (by (repeat (first | (with_reducible assumption) | (with_reducible exact Ext.refl _) | (with_reducible refine Ext.drew ?_) | (with_reducible refine Ext.drewN ?_ _) | (with_reducible refine Ext.alloc ?_ _) | (with_reducible refine Ext.trans ?_ (by with_reducible assumption))))))
              case s5 =>
                intro x w' hd
                try simp [Region.binds] at hd
                refine ⟨fun _ _ hK => ?_, fun h => absurd h (by decide), fun h => absurd h (by decide)⟩
                obtain ⟨d1, d2, d3, d4⟩ := blk4 (show w'.heap[bb]? = some (.cells #[.slice f1 xe.ops.length g1, .bool b1, .slice f2 xe.cuts.length g2, .slice f3 xe.own.length g3] 41 (0, 0)) from hK)
                unfold TPost
                first | simp only [frL, List.length_cons, List.length_nil, List.take_succ_cons, List.take_zero, Nat.reduceAdd, Nat.zero_add, List.setIfInBounds_toArray, List.set_cons_zero, List.set_cons_succ, hd] | simp only [frL, List.length_cons, List.length_nil, List.take_succ_cons, List.take_zero, Nat.reduceAdd, Nat.zero_add, List.setIfInBounds_toArray, List.set_cons_zero, List.set_cons_succ]
                go_wp2
                all_goals first | (with_reducible exact Ext.refl _) | exact ⟨rfl, _, rfl, (fun u hu => by simpa using hu), (by (repeat (first | (with_reducible assumption) | (with_reducible exact Ext.refl _) | (with_reducible refine Ext.drew ?_) | (with_reducible refine Ext.drewN ?_ _) | (with_reducible refine Ext.alloc ?_ _) | (with_reducible refine Ext.trans ?_ (by with_reducible assumption)))))⟩ | (with_reducible exact (by (repeat (first | (with_reducible assumption) | (with_reducible exact Ext.refl _) | (with_reducible refine Ext.drew ?_) | (with_reducible refine Ext.drewN ?_ _) | (with_reducible refine Ext.alloc ?_ _) | (with_reducible refine Ext.trans ?_ (by with_reducible assumption))))))
              case s6 =>
                intro x w' hd
                try simp [Region.binds] at hd
                refine ⟨fun _ _ hK => ?_, fun h => absurd h (by decide), fun h => absurd h (by decide)⟩
                obtain ⟨d1, d2, d3, d4⟩ := blk4 (show w'.heap[bb]? = some (.cells #[.slice f1 xe.ops.length g1, .bool b1, .slice f2 xe.cuts.length g2, .slice f3 xe.own.length g3] 41 (0, 0)) from hK)
                unfold TPost
                first | simp only [frL, List.length_cons, List.length_nil, List.take_succ_cons, List.take_zero, Nat.reduceAdd, Nat.zero_add, List.setIfInBounds_toArray, List.set_cons_zero, List.set_cons_succ, hd] | simp only [frL, List.length_cons, List.length_nil, List.take_succ_cons, List.take_zero, Nat.reduceAdd, Nat.zero_add, List.setIfInBounds_toArray, List.set_cons_zero, List.set_cons_succ]
                go_wp2
                all_goals first | (with_reducible exact Ext.refl _) | exact ⟨rfl, _, rfl, (fun u hu => by simpa using hu), (by (repeat (first | (with_reducible assumption) | (with_reducible exact Ext.refl _) | (with_reducible refine Ext.drew ?_) | (with_reducible refine Ext.drewN ?_ _) | (with_reducible refine Ext.alloc ?_ _) | (with_reducible refine Ext.trans ?_ (by with_reducible assumption)))))⟩ | (with_reducible exact (by (repeat (first | (with_reducible assumption) | (with_reducible exact Ext.refl _) | (with_reducible refine Ext.drew ?_) | (with_reducible refine Ext.drewN ?_ _) | (with_reducible refine Ext.alloc ?_ _) | (with_reducible refine Ext.trans ?_ (by with_reducible assumption))))))
              case s8 =>
                intro x w' hd
                try simp [Region.binds] at hd
                refine ⟨fun _ _ hK => ?_, fun h => absurd h (by decide), fun h => absurd h (by decide)⟩
                obtain ⟨d1, d2, d3, d4⟩ := blk4 (show w'.heap[bb]? = some (.cells #[.slice f1 xe.ops.length g1, .bool b1, .slice f2 xe.cuts.length g2, .slice f3 xe.own.length g3] 41 (0, 0)) from hK)
                unfold TPost
                first | simp only [frL, List.length_cons, List.length_nil, List.take_succ_cons, List.take_zero, Nat.reduceAdd, Nat.zero_add, List.setIfInBounds_toArray, List.set_cons_zero, List.set_cons_succ, hd] | simp only [frL, List.length_cons, List.length_nil, List.take_succ_cons, List.take_zero, Nat.reduceAdd, Nat.zero_add, List.setIfInBounds_toArray, List.set_cons_zero, List.set_cons_succ]
                go_wp2
                all_goals first | (with_reducible exact Ext.refl _) | exact ⟨rfl, _, rfl, (fun u hu => by simpa using hu), (by (repeat (first | (with_reducible assumption) | (with_reducible exact Ext.refl _) | (with_reducible refine Ext.drew ?_) | (with_reducible refine Ext.drewN ?_ _) | (with_reducible refine Ext.alloc ?_ _) | (with_reducible refine Ext.trans ?_ (by with_reducible assumption)))))⟩ | (with_reducible exact (by (repeat (first | (with_reducible assumption) | (with_reducible exact Ext.refl _) | (with_reducible refine Ext.drew ?_) | (with_reducible refine Ext.drewN ?_ _) | (with_reducible refine Ext.alloc ?_ _) | (with_reducible refine Ext.trans ?_ (by with_reducible assumption))))))
              case sm =>
                intro x' w' hd
                try simp [Region.binds] at hd
                refine ⟨fun h => absurd rfl h, fun _ hS => ?_, fun h => absurd h (by decide)⟩
                obtain ⟨S1, S2, P, hG, m1, m2, hb⟩ := hS
                have AD1 := HA.out w' S1 S2 P hG
                unfold TPost
                first | simp only [frL, List.length_cons, List.length_nil, List.take_succ_cons, List.take_zero, Nat.reduceAdd, Nat.zero_add, List.setIfInBounds_toArray, List.set_cons_zero, List.set_cons_succ, hd] | simp only [frL, List.length_cons, List.length_nil, List.take_succ_cons, List.take_zero, Nat.reduceAdd, Nat.zero_add, List.setIfInBounds_toArray, List.set_cons_zero, List.set_cons_succ]
                go_wp2_with fail
                refine AD1.mono ?_
                rintro q w9 ⟨rfl, S1', hG', k⟩
                go_wp2
                exact ⟨S1', S2, P, hG', k.out (Array.getElem?_eq_some_iff.1 hb).1 m1, m2, k.heap hb m1⟩
              case sn =>
                intro x' w' hd
                try simp [Region.binds] at hd
                refine ⟨fun _ h => absurd rfl h, fun h => absurd h (by decide), fun _ hS => ?_⟩
                obtain ⟨S1, S2, P, hG, m1, m2, hb⟩ := hS
                have AD1 := HB.out w' S1 S2 P hG
                unfold TPost
                first | simp only [frL, List.length_cons, List.length_nil, List.take_succ_cons, List.take_zero, Nat.reduceAdd, Nat.zero_add, List.setIfInBounds_toArray, List.set_cons_zero, List.set_cons_succ, hd] | simp only [frL, List.length_cons, List.length_nil, List.take_succ_cons, List.take_zero, Nat.reduceAdd, Nat.zero_add, List.setIfInBounds_toArray, List.set_cons_zero, List.set_cons_succ]
                go_wp2_with fail
                refine AD1.mono ?_
                rintro q w9 ⟨rfl, S2', P', hG', k⟩
                go_wp2
                exact ⟨S1, S2', P', hG', m1, k.out (Array.getElem?_eq_some_iff.1 hb).1 m2, k.heap hb m2⟩
            case st0 => intro a b E h; exact MPB.ext h E
            case st1 => intro a b E h; exact MPB.ext h E
            case st2 => intro a b E h; exact MPB.ext h E
            case k0 => rintro a ⟨_, _, _, _, _, _, h⟩; exact h
            case k1 => rintro a ⟨_, _, _, _, _, _, h⟩; exact h
            case k2 => rintro a ⟨_, _, _, _, _, _, h⟩; exact h
            case h0 => exact HMB.out.ext ((Ext.refl _).drew)
            case he =>
              intro x' w6 hd hS
              have e8 := hd 8 (by decide) _ rfl
              have HQ := hid (show MPI w n bm br w6 by
                obtain ⟨S1, S2, P, hG, _, _, _⟩ := hS
                exact ⟨S1, S2, P, cl', op', hG, HLN.out⟩)
              simp only [frL, List.length_cons, List.length_nil, List.take_succ_cons, List.take_zero, Nat.reduceAdd, Nat.zero_add, List.setIfInBounds_toArray, List.set_cons_zero, List.set_cons_succ, e8]
              clear hd hS e8 HMB HA HB k8
              go_wp2_with fail
              go_meet
              case rel => exact HQ
          · have d1 : (zk == 1) = false := by simpa using q1
            by_cases q2 : zk = 2
            · subst q2
              obtain ⟨a, r, cl', op', HL', HA, HB⟩ := mp_cls (w := w) (bm := bm) (br := br) n1 HL z
              have CA := hid (HA wo S1 S2 P HG)
              have HB := hid HB
              have HLN := hid HL'
              have qr : (r != r) = false := by simp
              have qa' : (a != a) = false := by simp
              clear HP HG HL HA HL' A2 q1
              go_wp2_with fail
              refine (CA.out).mono ?_
              clear CA
              rintro e w6 ⟨rfl, S1', hG⟩
              have CB := hid (HB.out w6 S1' S2 P hG)
              clear HB hG
              go_wp2_with fail
              refine (CB.out).mono ?_
              clear CB
              rintro e w7 ⟨rfl, S2', hG⟩
              have HQ := hid (show MPI w n bm br w7 from ⟨S1', S2', P, cl', op', hG, HLN.out⟩)
              clear hG
              go_wp2_with fail
              go_meet
              case rel => exact HQ
            · have d2 : (zk == 2) = false := by simpa using q2
              clear HG HL A2 q1 q2
              go_wp2_with fail
              go_meet
              case rel => exact HP
        case rest =>
          obtain ⟨S1, S2, P, cl, op, HG, HL⟩ := hcut.out
          have R1 := hid (mrounds_ok HG.mer)
          have R2 := fun w' (q : Ext wc w') => rmrounds_any (HG.ref.ext q)
          have W1 := hid (fun w' (q : Ext wc w') => mwaits_ok (HG.mer.ext q))
          have W2 := fun w' (q : Ext wc w') => rmwaits_any (HG.ref.ext q)
          have L1 := hid (fun w' (q : Ext wc w') => mlog_ok (HG.mer.ext q) HL.sm (by have := HL.logl; omega) (fun i hi => by have := HL.few i hi; omega))
          have L2 := fun w' (q : Ext wc w') => rmlog_any (HG.ref.ext q) (HL.logb n1)
          rw [HL.log n1] at L2
          rw [HL.waits n1] at W2
          rw [HL.rounds n1] at R2
          have R2 := hid R2
          have W2 := hid W2
          have L2 := hid L2
          have HMI := hid hcut.out
          generalize wtM cl = ww at W1 W2
          generalize logM cl = ll at L1 L2
          generalize rdM cl = rr at R1 R2
          have qr : ((rr : Int) != (rr : Int)) = false := by simp
          clear HG HL hcut
          go_wp2_with fail
          refine (R1.out).mono ?_
          clear R1
          rintro e w1 ⟨rfl, E1⟩
          have HE1 := hid E1
          have R21 := hid (R2.out w1 E1)
          clear R2 E1
          go_wp2_with fail
          refine (R21.out).mono ?_
          clear R21
          rintro e w2 ⟨rfl, rfl⟩
          obtain ⟨w1, rfl⟩ : ∃ wz : World, wz = w2 := ⟨_, rfl⟩
          have W11 := hid (W1.out _ HE1.out)
          clear W1
          go_wp2_with fail
          refine (W11.out).mono ?_
          clear W11
          rintro e w3 ⟨v3, rfl, o3, E3⟩
          have HE3 := hid (HE1.out.trans E3)
          have W21 := hid (W2.out _ HE3.out)
          have HS3 := hid (own_seg o3)
          obtain ⟨a3, k3, rfl⟩ := own_form o3
          clear W2 o3 E3 HE1
          go_wp2_with fail
          refine (W21.out).mono ?_
          clear W21
          rintro e w4 ⟨v4, rfl, o4, E4⟩
          have HE4 := hid (HE3.out.trans E4)
          have EQ := hid (equal_N _ v4 ww w4 (HS3.out.ext E4) (own_seg o4))
          obtain ⟨a4, k4, rfl⟩ := own_form o4
          clear o4 E4 HE3 HS3
          go_wp2_with fail
          refine (EQ.out).mono ?_
          clear EQ
          rintro e w5 ⟨rfl, E5⟩
          have HE5 := hid (HE4.out.trans E5)
          have L11 := hid (L1.out _ HE5.out)
          clear L1 E5 HE4
          go_wp2_with fail
          refine (L11.out).mono ?_
          clear L11
          rintro e w6 ⟨v6, rfl, hl6⟩
          have HE6 := hid (HE5.out.trans hl6.E)
          have HS6 := hid hl6.seg
          obtain ⟨a6, k6, rfl⟩ := hl6.form
          have L21 := hid (L2.out _ HE6.out)
          clear L2 hl6 HE5
          go_wp2_with fail
          refine (L21.out).mono ?_
          clear L21
          rintro e w7 ⟨v7, rfl, hl7⟩
          have hE7 : Ext w6 w7 := by
            obtain ⟨_, _, _, _, E⟩ := hl7
            exact E
          have EQ := equalE_any _ v7 ll ll w7 (HS6.out.ext hE7) hl7.seg
          rw [eqEs_refl] at EQ
          have EQ := hid EQ
          have HE7 := hid (HE6.out.trans hE7)
          obtain ⟨a7, k7, rfl⟩ := hl7.form
          clear hl7 hE7 HE6 HS6
          go_wp2_with fail
          refine (EQ.out).mono ?_
          clear EQ
          rintro e w8 ⟨rfl, E8⟩
          have HQ := hid (HMI.out.ext (HE7.out.trans E8))
          clear E8 HE7 HMI
          go_wp2_with fail
          go_roundw
          case rel => exact ⟨i + 1, by omega, by go_num, HQ⟩
          case measure => simp [intOf] <;> omega
      · have HR' := hid HP.out.E
        clear HP
        go_wp2
        go_ret
        exact ⟨rfl, HR'.out⟩
  · have hz : z0 < 1 ∨ 4 < z0 := by omega
    have MB := hid (fun w => mnew_bad z0 hz w)
    by_cases h1 : z0 < 1
    · have q1 : decide (z0 < 1) = true := decide_eq_true h1
      clear hn hz
      refine (MB.out _).mono ?_
      clear MB
      rintro e w4 ⟨rfl, rfl⟩
      go_wp2
      go_ret
      exact ⟨rfl, HE3.out⟩
    · have h4 : 4 < z0 := by omega
      have q1 : decide (z0 < 1) = false := decide_eq_false h1
      have q4 : decide (4 < z0) = true := decide_eq_true h4
      clear hn hz
      refine (MB.out _).mono ?_
      clear MB
      rintro e w4 ⟨rfl, rfl⟩
      go_wp2
      go_ret
      exact ⟨rfl, HE3.out⟩
end Go.Proofs.YtddghaoejnbkaaaDoor
