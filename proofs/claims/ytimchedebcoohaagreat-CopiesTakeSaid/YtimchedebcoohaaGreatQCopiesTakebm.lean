/- Contracts and lemmas for the proof of CopiesTake; each theorem states its own conditions. -/
import Derived.Test.YtimchedebcoohaaGreatQCopiesTakebl
set_option linter.unusedVariables false
set_option linter.unusedSimpArgs false
/- Contracts and lemmas for the proofs of this seat; each theorem states its own conditions. -/
namespace Go.Proofs.YtimchedebcoohaaGreat
open Go.RowKit
/-! parts.New -/
theorem PartsSt.congr {w : World} {bt : Nat} {C : List ByteArray} {O : List Int} {P P' : Nat → Prs} {vc vo : Value} {pv : Nat → Value} (h : PartsSt w bt C O P vc vo pv) (e : ∀ j, j < 4 → P j = P' j) : PartsSt w bt C O P' vc vo pv :=
  ⟨h.box, h.cuts, h.owners, fun i hi => by rw [← e i hi]; exact h.rows i hi⟩
def untilP (P : Nat → Prs) (i : Nat) (j : Nat) : Prs := if j < i then P j else []
theorem until_step (P : Nat → Prs) (i : Nat) : (fun j => if j = i then P i else untilP P i j) = untilP P (i + 1) := by
  funext j
  unfold untilP
  by_cases e : j = i
  · subst e; rw [if_pos rfl, if_pos (by omega)]
  · rw [if_neg e]
    by_cases h : j < i
    · rw [if_pos h, if_pos (by omega)]
    · rw [if_neg h, if_neg (by omega)]
theorem until_all (P : Nat → Prs) : ∀ j, j < 4 → untilP P 4 j = P j := fun j hj => by unfold untilP; rw [if_pos hj]
theorem parts_empty {w : World} {bt B : Nat} {C : List ByteArray} {O : List Int} {P : Nat → Prs} {vc vo : Value} (hb : w.heap[bt]? = some (.cells #[vc, vo, .slice none 0 0, .slice none 0 0, .slice none 0 0, .slice none 0 0] 189 (0, 0))) (h1 : w.ownsRow B 9 1 vc C.length (cS C)) (h2 : w.ownsRow B 3 1 vo O.length (cI O)) :
    PartsSt w bt C O (untilP P 0) vc vo (fun _ => .slice none 0 0) :=
  ⟨hb, own_base h1 (Nat.zero_le _), own_base h2 (Nat.zero_le _), fun i hi => by
    have : untilP P 0 i = [] := by unfold untilP; rw [if_neg (by omega)]
    rw [this]; exact World.ownsRow_nil _ _ _ _⟩
set_option maxRecDepth 100000 in
set_option maxHeartbeats 2000000 in
theorem pnew_ok' (vm vl : Value) (C : List ByteArray) (O : List Int) (S : Prs) (w : World) (hm : IsMap w vm C O) (ok : MapOk C O) (hk : ∀ k ∈ C, k.size ≤ 9223372036854775807) (hv : Seg w vl 2 S.length (cP S)) (oS : StoreOk S) (hl : S.length ≤ 450000) :
    Calls Tryz.prog 84 #[vm, vl] w fun e w' => ∃ bt vc vo pv, e = .returned (.tuple #[.pointer (some ⟨bt, 0, none⟩), .int .i64 0]) ∧ w.heap.size ≤ bt ∧ (∀ k, vo.ownBlock = some k → w.heap.size ≤ k) ∧ PartsSt w' bt C O (parP C O S) vc vo pv ∧ Ext w w' := by
  obtain ⟨a1, k1, a2, k2, rfl, m1, m2⟩ := hm.unpack
  have xb := heap_alloc_new w (.cells #[.slice a1 C.length k1, .slice a2 O.length k2] 26)
  have E0 := (Ext.refl w).alloc (.cells #[.slice a1 C.length k1, .slice a2 O.length k2] 26)
  have x := blk2 xb
  have few := ok.few
  have MC := hid (mcheck_any (.agg #[.slice a1 C.length k1, .slice a2 O.length k2]) C O _ (hm.ext E0) hk)
  have e0 := hid (mapErr_ok ok)
  have s0 := hid (storeErr_ok oS)
  have hm0 := hm.ext E0
  have hv0 := hv.ext E0
  have hlO : O.length < 1000000000 := by have := ok.len; omega
  clear m1 m2 hm hv
  go_enter Tryz.func84, Tryz.ntmps84
  go_wp2_with fail
  refine (MC.out).mono ?_
  rw [e0.out]
  rintro e w1 ⟨rfl, E1⟩
  have SC := hid (scheck_any vl S w1 (hv0.ext E1) (store_small oS))
  go_wp2_with fail
  refine (SC.out).mono ?_
  rw [s0.out]
  rintro e w2 ⟨rfl, E2⟩
  have E02 := hid (E0.trans (E1.trans E2))
  have x' := blk2 ((E1.trans E2).heap xb)
  have hm2 := hid (hm0.ext (E1.trans E2))
  have hv2 := hid (hv0.ext (E1.trans E2))
  have xb2 := hid ((E1.trans E2).heap xb)
  clear xb x E0 hm0 hv0 MC SC E1 E2
  go_wp2_with fail
  refine (copied_any _ C O _ hm2.out (by omega) (by omega)).mono ?_
  rintro e w3 ⟨v3, rfl, hO3, E3⟩
  obtain ⟨vc, vo, rfl, o1, o2⟩ := hO3
  have HNO := hid (fun k (hk : vo.ownBlock = some k) => Nat.le_trans E02.out.size' (own_ge o2 k hk))
  have E4 := (Ext.refl w3).alloc (.cells #[vc, vo, .slice none 0 0, .slice none 0 0, .slice none 0 0, .slice none 0 0] 189)
  have P0 := hid (parts_empty (P := parP C O S) (heap_alloc_new w3 _) (own_ext o1 E4) (own_ext o2 E4))
  have hm4 := hid (hm2.out.ext E3)
  have hv4 := hid (hv2.out.ext E3)
  have xb4 := hid (E3.heap xb2.out)
  have E34 := hid E4
  have E04 := hid (E02.out.trans (E3.trans E4))
  have hbt : w.heap.size ≤ w3.heap.size := (E02.out.trans E3).size'
  obtain ⟨bt, hbe⟩ : ∃ bt, w3.heap.size = bt := ⟨_, rfl⟩
  rw [hbe] at P0 hbt
  have hb3 : w3.heap.size ≤ bt := by omega
  obtain ⟨a3, k3, rfl⟩ := own_form o1
  obtain ⟨a4, k4, rfl⟩ := own_form o2
  clear o1 o2 E3 E4 E02 hm2 hv2 xb2 x'
  obtain ⟨wN, hwN⟩ : ∃ wN, w3.alloc (.cells #[.slice a3 C.length k3, .slice a4 O.length k4, .slice none 0 0, .slice none 0 0, .slice none 0 0, .slice none 0 0] 189) = wN := ⟨_, rfl⟩
  rw [hwN] at P0 E04 E34
  go_wp2_with fail
  go_loopw [9, 24] (fun _ iv wr => ∃ (i : Nat) (pv : Nat → Value), i ≤ 4 ∧ iv = .int .i64 i ∧ PartsSt wr bt C O (untilP (parP C O S) i) (.slice a3 C.length k3) (.slice a4 O.length k4) pv ∧ Ext w3 wr ∧ Ext w wr) (fun _ iv _ => 4 - (intOf iv).toNat)
  case atStart => exact ⟨0, _, by omega, rfl, P0.out, E34.out, E04.out⟩
  case round =>
    clear P0 E04 E34
    obtain ⟨wo, rfl⟩ : ∃ wo : World, wo = wr := ⟨_, rfl⟩
    obtain ⟨i, pv, hi, rfl, hP, EN, E⟩ := hrel
    by_cases hi4 : i < 4
    · have hi4' : ((i : Int) < 4) := by omega
      have xm := blk2 (EN.heap xb4.out)
      have PK := hid (fun w' (E' : Ext wo w') => part_ok (.agg #[.slice a1 C.length k1, .slice a2 O.length k2]) vl C O S (i : Int) w' ((hm4.out.ext EN).ext E') ok hk ((hv4.out.ext EN).ext E') oS (by omega) (by omega) (by omega))
      have HP := hid hP
      clear hP
      go_wp2_with fail
      refine wp_region_ph [.k (.pointer (some ⟨bt, 0, none⟩)), .k (.int .i64 i), .k (.agg #[.slice a1 C.length k1, .slice a2 O.length k2]), .k (vl), .k (.int .i64 i), .t (.int .i64 0) (fun v w' => w'.ownsRow wo.heap.size 33 2 v (parP C O S i).length (cP (parP C O S i))), .t (.int .i64 0) (fun v w' => w'.ownsRow wo.heap.size 33 2 v (parP C O S i).length (cP (parP C O S i))), .p (fun v w' => w'.ownsRow wo.heap.size 33 2 v (parP C O S i).length (cP (parP C O S i))), .k (.int .i64 0), .k (.pointer (some ⟨bt, 0, none⟩)), .k (.pointer (some ⟨bt, 2, none⟩)), .k (.pointer (some ⟨bt, 2 + i, none⟩))] [8] (by kernel_rfl) (by kernel_rfl) (by kernel_rfl) rfl rfl ?hs ?hC ?he
      case hC =>
        intro i hi
        simp only [List.mem_cons, List.not_mem_nil, or_false] at hi
        subst hi
        all_goals (
          intro o u ho hu
          simp [RS.k, RS.p, RS.t, RS.any] at ho hu
          subst ho; subst hu
          refine ⟨rfl, fun x w2 hd w3 => ?_⟩
          simp [PhDeps, at_k, at_p, at_t, at_any, Region.binds] at hd
          try ((with_reducible refine Exists.elim hd ?_); clear hd; intro y hd; obtain ⟨hd, hG⟩ := hd)
          simp [frL, hd, List.take_succ_cons, execOp, Act.eval, Frame.eval, Instr.extract])
      case hs =>
        refine ⟨?_, ?_, ?_, ?_, ?_, ?_, ?_, ?_, ?_, ?_, ?_, ?_, trivial⟩
        all_goals (
          intro x w' hE hd
          try simp [PhDeps, at_k, at_p, at_t, at_any, Region.binds] at hd
          try ((with_reducible refine Exists.elim hd ?_); clear hd; intro y hd; obtain ⟨hd, hG⟩ := hd)
          have d1 := hE.cell xm.1
          have d2 := hE.cell xm.2.1
          first | simp only [frL, List.length_cons, List.length_nil, List.take_succ_cons, List.take_zero, Nat.reduceAdd, Nat.zero_add, List.setIfInBounds_toArray, List.set_cons_zero, List.set_cons_succ, hd] | simp only [frL, List.length_cons, List.length_nil, List.take_succ_cons, List.take_zero, Nat.reduceAdd, Nat.zero_add, List.setIfInBounds_toArray, List.set_cons_zero, List.set_cons_succ]
          go_wp2_with (first | (go_at_call 23; refine (PK.out _ hE).mono ?_; rintro e wa ⟨y, rfl, hy, hea⟩))
          all_goals first
            | ((with_reducible refine phK ?_ ?_); (focus rfl); (repeat (first | (with_reducible assumption) | (with_reducible exact Ext.refl _) | (with_reducible refine Ext.drew ?_) | (with_reducible refine Ext.drewN ?_ _) | (with_reducible refine Ext.alloc ?_ _) | (with_reducible refine Ext.trans ?_ (by with_reducible assumption)))))
            | (exact phTN rfl (own_base hy hE.size') hE hea)
            | ((with_reducible refine phT rfl hG ?_); (repeat (first | (with_reducible assumption) | (with_reducible exact Ext.refl _) | (with_reducible refine Ext.drew ?_) | (with_reducible refine Ext.drewN ?_ _) | (with_reducible refine Ext.alloc ?_ _) | (with_reducible refine Ext.trans ?_ (by with_reducible assumption)))))
            | ((with_reducible refine phU hG ?_); (repeat (first | (with_reducible assumption) | (with_reducible exact Ext.refl _) | (with_reducible refine Ext.drew ?_) | (with_reducible refine Ext.drewN ?_ _) | (with_reducible refine Ext.alloc ?_ _) | (with_reducible refine Ext.trans ?_ (by with_reducible assumption)))))
            | (with_reducible exact phBox hE)
            | (with_reducible exact phRow hE))
      case he =>
        intro x w4 E4 hd
        simp [PhEnd, at_k, at_p, at_t] at hd
        obtain ⟨e0, e1, e2, e3, e4, ⟨y5, e5, _⟩, ⟨y6, e6, _⟩, ⟨w5, _, g2, hX⟩, e8, e9, e10, e11⟩ := hd
        have oX := own_ext hX g2
        obtain ⟨aX, cX, e7⟩ := own_form oX
        rw [e7] at oX
        have HP4 := HP.out.ext E4
        obtain ⟨ci, fi⟩ := HP4.cellI hi4
        have HPN := HP4.set hi4 (own_base oX (Nat.zero_le _))
        rw [until_step] at HPN
        have ES := (EN.trans E4).setCell (p := ⟨bt, 2 + i, none⟩) hb3 (.slice aX (parP C O S i).length cX)
        have EW := (E.trans E4).setCell (p := ⟨bt, 2 + i, none⟩) hbt (.slice aX (parP C O S i).length cX)
        have HPN := hid HPN
        simp only [frL, List.length_cons, List.length_nil, List.take_succ_cons, List.take_zero, Nat.reduceAdd, Nat.zero_add, List.setIfInBounds_toArray, List.set_cons_zero, List.set_cons_succ, e0, e1, e2, e3, e4, e5, e6, e7, e8, e9, e10, e11, List.length_cons, List.length_nil, List.drop_succ_cons, List.drop_zero]
        clear e0 e1 e2 e3 e4 e5 e6 e7 e8 e9 e10 e11 oX hX g2 HP4 PK
        go_wp2
        go_roundw
        case rel => exact ⟨i + 1, _, by omega, by go_num, HPN.out, ES, EW⟩
        case measure => simp [intOf] <;> omega
    · obtain rfl : i = 4 := by omega
      have HP := hid (hP.congr (until_all _))
      clear hP
      go_wp2
      go_ret2
      exact ⟨bt, _, _, _, rT2 rfl rfl, hbt, HNO.out, HP.out, E⟩
end Go.Proofs.YtimchedebcoohaaGreat
