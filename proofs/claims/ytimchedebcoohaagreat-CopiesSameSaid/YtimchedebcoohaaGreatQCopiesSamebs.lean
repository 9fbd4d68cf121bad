/- Contracts and lemmas for the proof of CopiesSame; each theorem states its own conditions. -/
import Derived.Test.YtimchedebcoohaaGreatQCopiesSamebr
set_option linter.unusedVariables false
set_option linter.unusedSimpArgs false
/- Contracts and lemmas for the proofs of this seat; each theorem states its own conditions. -/
namespace Go.Proofs.YtimchedebcoohaaGreat
open Go.RowKit
/-! plan.Rounds -/
theorem rndTo_le (A : List Ops) {i k : Nat} (h : k < i) : (rndTo A i).getD k 0 ≤ k := by
  rw [rndTo_at A i k h]; exact rnd_le A k
theorem rnd1_le (A : List Ops) (i : Nat) : ∀ k, k ≤ i → rnd1 A (rndTo A i) i k ≤ k
  | 0, _ => Nat.le_refl _
  | k + 1, h => by
    have h1 := rnd1_le A i k (by omega)
    have h2 := rndTo_le A (i := i) (k := k) (by omega)
    simp only [rnd1]
    split
    · omega
    · omega
set_option maxRecDepth 100000 in
set_option maxHeartbeats 2000000 in
theorem rounds_ok (vd : Value) (D : List Ops) (w : World) (hvd : SegDs w vd D) (dok : ∀ d ∈ D, DeedOk d) (dsm : ∀ d ∈ D, ∀ o ∈ d, o.from_.size ≤ 9223372036854775807) (hdl : D.length ≤ 60) :
    Calls Tryz.prog 25 #[vd] w fun e w' => ∃ v', e = .returned (.tuple #[v', .int .i64 0]) ∧ w'.ownsRow w.heap.size 3 1 v' D.length (cI (iN (rndTo D D.length))) ∧ Ext w w' := by
  have LD := hid (laid_ok vd D w hvd dok dsm hdl)
  obtain ⟨aD, cD, rfl, hc1, hc2, hcell⟩ := hvd.form
  have HC := hid hcell
  clear hcell hvd
  unfold maxLen at hc2
  go_enter Tryz.func25, Tryz.ntmps25
  go_wp2_with fail
  refine (LD.out).mono ?_
  rintro e w1 ⟨bt, bk, bd, F, G, rfl, _, E1⟩
  clear LD
  go_wp2_with (first | (at_make; refine wpList_make_int _ rfl _ _ rfl D.length rfl rfl (by omega) ?_; intro v' w2 ho hf hE; obtain ⟨cA, rfl⟩ := hf))
  obtain ⟨gA, hgA⟩ : ∃ gA, w1.heap.size = gA := ⟨_, rfl⟩
  rw [hgA] at ho
  simp only [hgA]
  have hgl : w.heap.size ≤ gA := by have := E1.size'; omega
  replace E1 := E1.trans hE
  clear hgA hE
  go_loopw [7, 8, 9, 10, 24, 28] (fun _ _ _ _ iv _ wr => ∃ i : Nat, i ≤ D.length ∧ iv = .int .i64 i ∧ wr.ownsRow gA 3 1 (.slice (some ⟨gA, 0, none⟩) D.length cA) D.length (cI (oL D D.length i)) ∧ Ext w wr) (fun _ _ _ _ iv _ _ => D.length - (intOf iv).toNat)
  case atStart => exact ⟨0, Nat.zero_le _, rfl, by rw [oL_zero]; exact ho, E1⟩
  case round =>
    clear ho E1
    obtain ⟨wq, rfl⟩ : ∃ wq : World, wq = wr := ⟨_, rfl⟩
    obtain ⟨i, hi, rfl, ho, E1⟩ := hrel
    by_cases hil : i < D.length
    · obtain ⟨bD, oD, rfl, hcc⟩ := HC.out (by omega)
      obtain ⟨x2, y2, c2, s2⟩ := hcc i D[i] (List.getElem?_eq_getElem hil)
      have d2 := dok _ (List.getElem_mem hil)
      have f2 := dsm _ (List.getElem_mem hil)
      have hq := hid (show D.getD i [] = D[i] by simp [hil])
      generalize D[i] = q at c2 s2 d2 f2 hq
      clear hcc
      rw [← rL_start hil] at ho
      go_wp2_with fail
      go_loopw [8, 9, 10, 28] (fun _ _ _ iv wr => ∃ k : Nat, k ≤ i ∧ iv = .int .i64 k ∧ wr.ownsRow gA 3 1 (.slice (some ⟨gA, 0, none⟩) D.length cA) D.length (cI (rL D D.length i (rnd1 D (rndTo D i) i k))) ∧ Ext w wr) (fun _ _ _ iv _ => i - (intOf iv).toNat)
      case atStart => exact ⟨0, Nat.zero_le _, rfl, ho, E1⟩
      case round =>
        clear ho E1
        obtain ⟨wz, rfl⟩ : ∃ wz : World, wz = wr := ⟨_, rfl⟩
        obtain ⟨k, hk, rfl, ho, Ek⟩ := hrel
        by_cases hki : k < i
        · have hkl : k < D.length := by omega
          obtain ⟨_, _, he, hcc⟩ := HC.out (by omega)
          injection he with he; injection he with he1 he2
          subst he1; subst he2
          obtain ⟨x1, y1, c1, s1⟩ := hcc k D[k] (List.getElem?_eq_getElem hkl)
          replace c1 := Ek.cell c1
          replace s1 := s1.ext Ek
          have c2' := Ek.cell c2
          have d1 := dok _ (List.getElem_mem hkl)
          have f1 := dsm _ (List.getElem_mem hkl)
          have hp := hid (show D.getD k [] = D[k] by simp [hkl])
          generalize D[k] = p at c1 s1 d1 f1 hp
          have CL := fun w' (E : Ext wz w') => clash_ok (.slice x1 p.length y1) (.slice x2 q.length y2) p q w' (s1.ext E) ((s2.ext Ek).ext E) d1 d2 f1 f2
          have hr1 : rnd1 D (rndTo D i) i (k + 1) = if clashB p q = true then max (rnd1 D (rndTo D i) i k) ((rndTo D i).getD k 0 + 1) else rnd1 D (rndTo D i) i k := by
            rw [← hp.out, ← hq.out]; rfl
          have b1 := rnd1_le D i k (by omega)
          have b2 := rndTo_le D hki
          have li : i < (rL D D.length i (rnd1 D (rndTo D i) i k)).length := by rw [rL_len hil]; exact hil
          have lk : k < (rL D D.length i (rnd1 D (rndTo D i) i k)).length := by rw [rL_len hil]; exact hkl
          obtain ⟨ci, fi⟩ := own_int ho li
          have ck := (own_int ho lk).1
          rw [rL_self] at ci
          rw [rL_at hki] at ck
          have hst := fun (y : Nat) (w' : World) (E : Ext wz w') => own_int_set (own_ext ho E) li (y : Int)
          simp only [rL_set] at hst
          generalize clashB p q = cl at CL hr1
          generalize rnd1 D (rndTo D i) i k = X at *
          generalize (rndTo D i).getD k 0 = Y at *
          have CL := hid CL
          have HR1 := hid hr1
          have HST := hid hst
          clear hcc hr1 hst li lk
          go_wp2_with fail
          refine wp_region_ph [.k (.slice (some ⟨bD, oD, none⟩) D.length cD), .k (.int .i64 k), .k (.pointer (some ⟨bD, oD + k, none⟩)), .k (.agg #[.slice x1 p.length y1]), .k (.slice (some ⟨bD, oD, none⟩) D.length cD), .k (.int .i64 i), .k (.pointer (some ⟨bD, oD + i, none⟩)), .k (.agg #[.slice x2 q.length y2]), .k (.tuple #[.bool cl, .int .i64 0]), .k (.tuple #[.bool cl, .int .i64 0]), .k (.bool cl), .k (.int .i64 0), .k (.bool cl), .k (.int .i64 0)] [] (by kernel_rfl) (by kernel_rfl) (by kernel_rfl) rfl rfl ?hs ?hC ?he
          case hC =>
            intro i hi
            simp at hi
          case hs =>
            refine ⟨?_, ?_, ?_, ?_, ?_, ?_, ?_, ?_, ?_, ?_, ?_, ?_, ?_, ?_, trivial⟩
            all_goals (
              intro x w' hE hd
              try simp [PhDeps, at_k, at_p, at_t, at_any, Region.binds] at hd
              try ((with_reducible refine Exists.elim hd ?_); clear hd; intro y hd; obtain ⟨hd, hG⟩ := hd)
              have e1 := hE.cell c1
              have e2 := hE.cell c2'
              first | simp only [frL, List.length_cons, List.length_nil, List.take_succ_cons, List.take_zero, Nat.reduceAdd, Nat.zero_add, List.setIfInBounds_toArray, List.set_cons_zero, List.set_cons_succ, hd] | simp only [frL, List.length_cons, List.length_nil, List.take_succ_cons, List.take_zero, Nat.reduceAdd, Nat.zero_add, List.setIfInBounds_toArray, List.set_cons_zero, List.set_cons_succ]
              go_wp2_with (first | (go_at_call 80; refine (CL.out w' hE).mono ?_; rintro e wa ⟨rfl, hea⟩))
              all_goals first
                | ((with_reducible refine phK ?_ ?_); (focus rfl); (repeat (first | (with_reducible assumption) | (with_reducible exact Ext.refl _) | (with_reducible refine Ext.drew ?_) | (with_reducible refine Ext.drewN ?_ _) | (with_reducible refine Ext.alloc ?_ _) | (with_reducible refine Ext.trans ?_ (by with_reducible assumption)))))
                | ((with_reducible refine phT rfl hG ?_); (repeat (first | (with_reducible assumption) | (with_reducible exact Ext.refl _) | (with_reducible refine Ext.drew ?_) | (with_reducible refine Ext.drewN ?_ _) | (with_reducible refine Ext.alloc ?_ _) | (with_reducible refine Ext.trans ?_ (by with_reducible assumption)))))
                | ((with_reducible refine phU hG ?_); (repeat (first | (with_reducible assumption) | (with_reducible exact Ext.refl _) | (with_reducible refine Ext.drew ?_) | (with_reducible refine Ext.drewN ?_ _) | (with_reducible refine Ext.alloc ?_ _) | (with_reducible refine Ext.trans ?_ (by with_reducible assumption)))))
                | (with_reducible exact phBox hE)
                | (with_reducible exact phRow hE))
          case he =>
            intro x w6 E6 hd
            simp [PhEnd, at_k, at_p, at_t, at_any] at hd
            simp only [frL, List.length_cons, List.length_nil, List.take_succ_cons, List.take_zero, Nat.reduceAdd, Nat.zero_add, List.setIfInBounds_toArray, List.set_cons_zero, List.set_cons_succ, hd, List.length_cons, List.length_nil, List.drop_succ_cons, List.drop_zero]
            clear hd
            replace ci := E6.cell ci
            replace ck := E6.cell ck
            replace fi := own_free (own_ext ho E6) i
            clear CL
            cases cl with
            | false =>
              go_wp2
              go_roundw
              case rel => exact ⟨k + 1, by omega, by go_num, by rw [HR1.out]; exact own_ext ho E6, Ek.trans E6⟩
              case measure => simp [intOf] <;> omega
            | true =>
              have hmx := hid (show max (X : Int) ((Y : Int) + 1) = ((max X (Y + 1) : Nat) : Int) by omega)
              have HS6 := HST.out (max X (Y + 1)) w6 E6
              go_wp2_with fail
              refine wp_region_ph [.k (.slice (some ⟨gA, 0, none⟩) D.length cA), .k (.int .i64 i), .k (.slice (some ⟨gA, 0, none⟩) D.length cA), .k (.int .i64 i), .k (.pointer (some ⟨gA, i, none⟩)), .k (.int .i64 X), .k (.slice (some ⟨gA, 0, none⟩) D.length cA), .k (.int .i64 k), .k (.pointer (some ⟨gA, k, none⟩)), .k (.int .i64 Y), .k (.int .i64 ((Y : Int) + 1)), .k (.int .i64 (max (X : Int) ((Y : Int) + 1))), .k (.pointer (some ⟨gA, i, none⟩))] [] (by kernel_rfl) (by kernel_rfl) (by kernel_rfl) rfl rfl ?hs ?hC ?he
              case hC =>
                intro i hi
                simp at hi
              case hs =>
                refine ⟨?_, ?_, ?_, ?_, ?_, ?_, ?_, ?_, ?_, ?_, ?_, ?_, ?_, trivial⟩
                all_goals (
                  intro x w' hE hd
                  try simp [PhDeps, at_k, at_p, at_t, at_any, Region.binds] at hd
                  try ((with_reducible refine Exists.elim hd ?_); clear hd; intro y hd; obtain ⟨hd, hG⟩ := hd)
                  have e1 := hE.cell ci
                  have e2 := hE.cell ck
                  first | simp only [frL, List.length_cons, List.length_nil, List.take_succ_cons, List.take_zero, Nat.reduceAdd, Nat.zero_add, List.setIfInBounds_toArray, List.set_cons_zero, List.set_cons_succ, hd] | simp only [frL, List.length_cons, List.length_nil, List.take_succ_cons, List.take_zero, Nat.reduceAdd, Nat.zero_add, List.setIfInBounds_toArray, List.set_cons_zero, List.set_cons_succ]
                  go_wp2
                  all_goals first
                    | ((with_reducible refine phK ?_ ?_); (focus rfl); (repeat (first | (with_reducible assumption) | (with_reducible exact Ext.refl _) | (with_reducible refine Ext.drew ?_) | (with_reducible refine Ext.drewN ?_ _) | (with_reducible refine Ext.alloc ?_ _) | (with_reducible refine Ext.trans ?_ (by with_reducible assumption)))))
                    | ((with_reducible refine phT rfl hG ?_); (repeat (first | (with_reducible assumption) | (with_reducible exact Ext.refl _) | (with_reducible refine Ext.drew ?_) | (with_reducible refine Ext.drewN ?_ _) | (with_reducible refine Ext.alloc ?_ _) | (with_reducible refine Ext.trans ?_ (by with_reducible assumption)))))
                    | ((with_reducible refine phU hG ?_); (repeat (first | (with_reducible assumption) | (with_reducible exact Ext.refl _) | (with_reducible refine Ext.drew ?_) | (with_reducible refine Ext.drewN ?_ _) | (with_reducible refine Ext.alloc ?_ _) | (with_reducible refine Ext.trans ?_ (by with_reducible assumption)))))
                    | (with_reducible exact phBox hE)
                    | (with_reducible exact phRow hE))
              case he =>
                intro x w7 E7 hd
                simp [PhEnd, at_k, at_p, at_t, at_any] at hd
                simp only [frL, List.length_cons, List.length_nil, List.take_succ_cons, List.take_zero, Nat.reduceAdd, Nat.zero_add, List.setIfInBounds_toArray, List.set_cons_zero, List.set_cons_succ, hd, List.length_cons, List.length_nil, List.drop_succ_cons, List.drop_zero]
                clear hd
                have HS7 := HST.out (max X (Y + 1)) w7 (E6.trans E7)
                have f7 := own_free (own_ext ho (E6.trans E7)) i
                replace ci := E7.cell ci
                have H7 := hid HS7
                clear HS6 HS7
                rw [hmx.out]
                go_wp2
                go_roundw
                case rel => exact ⟨k + 1, by omega, by go_num, by rw [HR1.out]; exact H7.out, ((Ek.trans E6).trans E7).setCell hgl _⟩
                case measure => simp [intOf] <;> omega
        · obtain rfl : k = i := by omega
          rw [rL_end] at ho
          go_wp2
          go_roundw
          case rel => exact ⟨k + 1, by omega, by go_num, ho, Ek⟩
          case measure => simp [intOf] <;> omega
    · obtain rfl : i = D.length := by omega
      rw [oL_all] at ho
      go_wp2
      go_ret2
      exact ⟨_, rT2 rfl rfl, own_base ho hgl, E1⟩
end Go.Proofs.YtimchedebcoohaaGreat
