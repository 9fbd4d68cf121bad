/- Contracts and lemmas for the proof of PlanSays; each theorem states its own conditions. -/
import Derived.Test.YtomgeolmfpijoaaDoorQPlanSaysbn
import Derived.BigQuiet
set_option linter.unusedVariables false
set_option linter.unusedSimpArgs false
/- Contracts and lemmas for the proofs of this seat; each theorem states its own conditions. -/
namespace Go.Proofs.YtomgeolmfpijoaaDoor
open Go.RowKit
/-! plan.Order -/
theorem cN_at (l : List Nat) {j : Nat} (h : j < l.length) : (cN l)[j]? = some (.int .i64 ((l[j] : Nat) : Int)) := by simp [cN, h]
theorem atL_new {n : Nat} {ord : List Nat} (hn : ord.Nodup) {j : Nat} (hj : j < ord.length) (hk : ord[j] < n) : (atL n ord j).getD ord[j] 0 = -1 := by
  have hno : ord[j] ∉ ord.take j := fun hm => by
    obtain ⟨i, hi, he⟩ := List.mem_iff_getElem.1 hm
    rw [List.length_take] at hi
    rw [List.getElem_take] at he
    have := nd_inj hn he
    omega
  have := (atL_at hn j (Nat.le_of_lt hj) ord[j] hk).1 hno
  simp [List.getD, this]
theorem ordB_no {A : List Ops} {at_ : List Int} {n i k : Nat} (hi : i < n) (hk : k < i) (hc : clashB (A.getD k []) (A.getD i []) = true) (h : at_.getD i 0 < at_.getD k 0) : ordB A at_ n = false := by
  cases e : ordB A at_ n with
  | false => rfl
  | true => have := ordB_iff.1 e i hi k hk hc; omega
theorem getD_atO {D : List Ops} {i : Nat} (h : i < D.length) : D.getD i [] = D[i] := by simp [h]
set_option maxRecDepth 100000 in
set_option maxHeartbeats 2000000 in
theorem order_ok (vd vo : Value) (D : List Ops) (ord : List Nat) (w : World) (hvd : SegDs w vd D) (dok : ∀ d ∈ D, DeedOk d) (dsm : ∀ d ∈ D, ∀ o ∈ d, o.from_.size ≤ 9223372036854775807) (hdl : D.length ≤ 60)
    (hvo : Seg w vo 1 ord.length (cN ord)) (hlo : ord.length = D.length) (hnd : ord.Nodup) (hlt0 : ∀ i ∈ ord, i < D.length) :
    Calls Tryd.prog 54 #[vd, vo] w fun e w' => e = .returned (.tuple #[.bool (ordB D (atL D.length ord D.length) D.length), .int .i64 0]) ∧ Ext w w' := by
  obtain ⟨AT, hAT⟩ : ∃ AT, atL D.length ord D.length = AT := ⟨_, rfl⟩
  rw [hAT]
  obtain ⟨OB, hOB⟩ : ∃ OB, ordB D AT D.length = OB := ⟨_, rfl⟩
  rw [hOB]
  have HAT := hid hAT
  have HOB := hid hOB
  clear hAT hOB
  have LD := hid (laid_ok vd D w hvd dok dsm hdl)
  obtain ⟨aD, cD, rfl, hc1, hc2, hcell⟩ := hvd.form
  have HC := hid hcell
  clear hcell hvd
  unfold maxLen at hc2
  obtain ⟨_, ao, co, rfl, ho1, ho2, ho3⟩ := hvo
  rw [hlo] at ho1 ho3 ⊢
  unfold maxLen at ho2
  have HO := hid ho3
  have HLO := hid hlo
  clear ho3 hlo
  go_enter Tryd.func54, Tryd.ntmps54
  go_wp2_with fail
  refine (LD.out).mono ?_
  rintro e w1 ⟨bt, bk, bd, F, G, rfl, _, E1⟩
  clear LD
  have qn : ((D.length : Int) != (D.length : Int)) = false := by simp
  go_wp2_with (first | (at_make; refine wpList_make_int _ rfl _ _ rfl D.length rfl rfl (by omega) ?_; intro v' w2 ho hf hE; obtain ⟨cA, rfl⟩ := hf))
  obtain ⟨gA, hgA⟩ : ∃ gA, w1.heap.size = gA := ⟨_, rfl⟩
  rw [hgA] at ho
  simp only [hgA]
  have hgl : w.heap.size ≤ gA := by have := E1.size'; omega
  replace E1 := E1.trans hE
  clear hgA hE
  go_loopw [9, 34] (fun _ iv wr => ∃ i : Nat, i ≤ D.length ∧ iv = .int .i64 i ∧ wr.ownsRow gA 3 1 (.slice (some ⟨gA, 0, none⟩) D.length cA) D.length (cI (mL D.length i)) ∧ Ext w wr) (fun _ iv _ => D.length - (intOf iv).toNat)
  case atStart => exact ⟨0, Nat.zero_le _, rfl, by rw [mL_zero]; exact ho, E1⟩
  case round =>
    clear ho E1
    obtain ⟨i, hi, rfl, ho, E1⟩ := hrel
    by_cases hlt : i < D.length
    · have hil : i < (mL D.length i).length := by rw [mL_len hi]; exact hlt
      obtain ⟨c1, f1⟩ := own_int ho hil
      have hs := own_int_set ho hil (-1)
      rw [mL_set hlt] at hs
      go_wp2
      go_roundw
      case rel => exact ⟨i + 1, by omega, by go_num, hs, E1.setCell hgl _⟩
      case measure => simp [intOf] <;> omega
    · obtain rfl : i = D.length := by omega
      rw [mL_all] at ho
      go_wp2_with fail
      go_loopw [10, 11, 43] (fun _ _ iv wr => ∃ j : Nat, j ≤ D.length ∧ iv = .int .i64 j ∧ wr.ownsRow gA 3 1 (.slice (some ⟨gA, 0, none⟩) D.length cA) D.length (cI (atL D.length ord j)) ∧ Ext w wr) (fun _ _ iv _ => D.length - (intOf iv).toNat)
      case atStart => exact ⟨0, Nat.zero_le _, rfl, ho, E1⟩
      case round =>
        clear ho E1
        obtain ⟨j, hj, rfl, ho, E1⟩ := hrel
        by_cases hlt : j < D.length
        · obtain ⟨bo, oo, rfl, hco⟩ := HO.out (by omega)
          have hjo : j < ord.length := by rw [HLO.out]; exact hlt
          have co1 := E1.cell (hco j _ (cN_at ord hjo))
          have hkn := hlt0 _ (List.getElem_mem hjo)
          have hkl : ord[j] < (atL D.length ord j).length := by rw [atL_len]; exact hkn
          obtain ⟨c1, f1⟩ := own_int ho hkl
          rw [atL_new hnd hjo hkn] at c1
          have hs := own_int_set ho hkl (j : Int)
          have hst : (atL D.length ord j).set ord[j] (j : Int) = atL D.length ord (j + 1) := by
            rw [atL, show ord.getD j 0 = ord[j] by simp [hjo]]
          rw [hst] at hs
          have HS := hid hs
          clear hco hs hst hkl
          generalize ord[j] = k at co1 hkn c1 f1 HS
          have qa : ¬ ((k : Int) < 0) := by omega
          have qb : ¬ ((k : Int) ≥ (D.length : Int)) := by omega
          go_wp2
          go_roundw
          case rel => exact ⟨j + 1, by omega, by go_num, HS.out, E1.setCell hgl _⟩
          case measure => simp [intOf] <;> omega
        · obtain rfl : j = D.length := by omega
          have hATl : AT.length = D.length := by rw [← HAT.out, atL_len]
          rw [HAT.out] at ho
          have HATL := hid hATl
          clear hATl
          obtain ⟨wA, rfl⟩ : ∃ wA : World, wA = wr := ⟨_, rfl⟩
          have hAi := hid (fun (i : Nat) (hi : i < D.length) (w' : World) (E : Ext wA w') => (own_int (own_ext ho E) (i := i) (by rw [HATL.out]; exact hi)).1)
          go_wp2_with fail
          go_loopw [12, 13, 14, 15, 68, 72] (fun _ _ _ _ iv _ wr => ∃ i : Nat, i ≤ D.length ∧ iv = .int .i64 i ∧ Hid (∀ i', i' < i → ∀ k, k < i' → clashB (D.getD k []) (D.getD i' []) = true → AT.getD k 0 ≤ AT.getD i' 0) ∧ Ext wA wr) (fun _ _ _ _ iv _ _ => D.length - (intOf iv).toNat)
          case atStart => exact ⟨0, Nat.zero_le _, rfl, hid (fun i' h => by omega), Ext.refl _⟩
          case round =>
            obtain ⟨wq, rfl⟩ : ∃ wq : World, wq = wr := ⟨_, rfl⟩
            obtain ⟨i, hi, rfl, hok, Ei⟩ := hrel
            by_cases hil : i < D.length
            · obtain ⟨bD, oD, rfl, hcc⟩ := HC.out (by omega)
              obtain ⟨x2, y2, c2, s2⟩ := hcc i D[i] (List.getElem?_eq_getElem hil)
              replace c2 := Ei.cell (E1.cell c2)
              replace s2 := (s2.ext E1).ext Ei
              have d2 := dok _ (List.getElem_mem hil)
              have f2 := dsm _ (List.getElem_mem hil)
              have hq := hid (getD_atO hil)
              generalize D[i] = q at c2 s2 d2 f2 hq
              clear hcc
              go_wp2_with fail
              go_loopw [13, 14, 15, 72] (fun _ _ _ iv wr => ∃ k : Nat, k ≤ i ∧ iv = .int .i64 k ∧ Hid (∀ k', k' < k → clashB (D.getD k' []) q = true → AT.getD k' 0 ≤ AT.getD i 0) ∧ Ext wq wr) (fun _ _ _ iv _ => i - (intOf iv).toNat)
              case atStart => exact ⟨0, Nat.zero_le _, rfl, hid (fun k' h => by omega), Ext.refl _⟩
              case round =>
                obtain ⟨wz, rfl⟩ : ∃ wz : World, wz = wr := ⟨_, rfl⟩
                obtain ⟨k, hk, rfl, hok2, Ek⟩ := hrel
                by_cases hki : k < i
                · have hkl : k < D.length := by omega
                  obtain ⟨_, _, he, hcc⟩ := HC.out (by omega)
                  injection he with he; injection he with he1 he2
                  subst he1; subst he2
                  obtain ⟨x1, y1, c1, s1⟩ := hcc k D[k] (List.getElem?_eq_getElem hkl)
                  replace c1 := Ek.cell (Ei.cell (E1.cell c1))
                  replace s1 := ((s1.ext E1).ext Ei).ext Ek
                  have c2' := Ek.cell c2
                  have d1 := dok _ (List.getElem_mem hkl)
                  have f1 := dsm _ (List.getElem_mem hkl)
                  have hp := hid (getD_atO hkl)
                  generalize D[k] = p at c1 s1 d1 f1 hp
                  have CL := fun w' (E : Ext wz w') => clash_ok (.slice x1 p.length y1) (.slice x2 q.length y2) p q w' (s1.ext E) ((s2.ext Ek).ext E) d1 d2 f1 f2
                  obtain ⟨cl, hcl⟩ : ∃ cl, clashB p q = cl := ⟨_, rfl⟩
                  have HCL := hid hcl
                  rw [hcl] at CL
                  have CL := hid CL
                  have ck := hAi.out k hkl wz (Ei.trans Ek)
                  have ci := hAi.out i hil wz (Ei.trans Ek)
                  clear hcc hcl
                  obtain ⟨tk, htk⟩ : ∃ tk, AT.getD k 0 = tk := ⟨_, rfl⟩
                  obtain ⟨ti, hti⟩ : ∃ ti, AT.getD i 0 = ti := ⟨_, rfl⟩
                  rw [htk] at ck
                  rw [hti] at ci
                  have HTK := hid htk
                  have HTI := hid hti
                  clear htk hti
                  go_wp2_with fail
                  refine wp_region_ph [.k (.slice (some ⟨bD, oD, none⟩) D.length cD), .k (.int .i64 k), .k (.pointer (some ⟨bD, oD + k, none⟩)), .k (.agg #[.slice x1 p.length y1]), .k (.slice (some ⟨bD, oD, none⟩) D.length cD), .k (.int .i64 i), .k (.pointer (some ⟨bD, oD + i, none⟩)), .k (.agg #[.slice x2 q.length y2]), .k (.tuple #[.bool cl, .int .i64 0]), .k (.tuple #[.bool cl, .int .i64 0]), .k (.bool cl), .k (.int .i64 0), .k (.bool cl), .k (.int .i64 0)] [] (by kernel_rfl) (by kernel_rfl) (by kernel_rfl) rfl rfl ?hs ?hC ?he
                  case hC =>
                    intro i hi
                    simp at hi
                  case hs =>
                    refine ⟨?_, ?_, ?_, ?_, ?_, ?_, ?_, ?_, ?_, ?_, ?_, ?_, ?_, ?_, trivial⟩
                    all_goals (
                      intro x w' hE hd
                      try simp [PhDeps, at_k, at_p, at_t, at_any, Region.binds] at hd
                      try ((with_reducible refine Exists.elim hd ?_); clear hd; intro y hd; obtain ⟨hd, hG⟩ := hd)
                      have e1 := hE.cell c1
                      have e2 := hE.cell c2'
                      first | simp only [frL, List.length_cons, List.length_nil, List.take_succ_cons, List.take_zero, Nat.reduceAdd, Nat.zero_add, List.setIfInBounds_toArray, List.set_cons_zero, List.set_cons_succ, hd] | simp only [frL, List.length_cons, List.length_nil, List.take_succ_cons, List.take_zero, Nat.reduceAdd, Nat.zero_add, List.setIfInBounds_toArray, List.set_cons_zero, List.set_cons_succ]
                      go_wp2_with (first | (go_at_call 111; refine (CL.out w' hE).mono ?_; rintro e wa ⟨rfl, hea⟩))
                      all_goals first
                        | ((with_reducible refine phK ?_ ?_); (focus rfl); (repeat (first | (with_reducible assumption) | (with_reducible exact Ext.refl _) | (with_reducible refine Ext.drew ?_) | (with_reducible refine Ext.drewN ?_ _) | (with_reducible refine Ext.alloc ?_ _) | (with_reducible refine Ext.trans ?_ (by with_reducible assumption)))))
                        | ((with_reducible refine phT rfl hG ?_); (repeat (first | (with_reducible assumption) | (with_reducible exact Ext.refl _) | (with_reducible refine Ext.drew ?_) | (with_reducible refine Ext.drewN ?_ _) | (with_reducible refine Ext.alloc ?_ _) | (with_reducible refine Ext.trans ?_ (by with_reducible assumption)))))
                        | ((with_reducible refine phU hG ?_); (repeat (first | (with_reducible assumption) | (with_reducible exact Ext.refl _) | (with_reducible refine Ext.drew ?_) | (with_reducible refine Ext.drewN ?_ _) | (with_reducible refine Ext.alloc ?_ _) | (with_reducible refine Ext.trans ?_ (by with_reducible assumption)))))
                        | (with_reducible exact phBox hE)
                        | (with_reducible exact phRow hE))
                  case he =>
                    intro x w6 E6 hd
                    simp [PhEnd, at_k, at_p, at_t, at_any] at hd
                    simp only [frL, List.length_cons, List.length_nil, List.take_succ_cons, List.take_zero, Nat.reduceAdd, Nat.zero_add, List.setIfInBounds_toArray, List.set_cons_zero, List.set_cons_succ, hd, List.length_cons, List.length_nil, List.drop_succ_cons, List.drop_zero]
                    clear hd
                    replace ck := E6.cell ck
                    replace ci := E6.cell ci
                    clear CL
                    cases cl with
                    | false =>
                      have HN := hid (fun (k' : Nat) (h : k' < k + 1) (hc : clashB (D.getD k' []) q = true) => (by
                        by_cases e : k' = k
                        · subst e; rw [hp.out, HCL.out] at hc; cases hc
                        · exact hok2.out k' (by omega) hc : AT.getD k' 0 ≤ AT.getD i 0))
                      go_wp2_with fail
                      go_quiet (fail)
                      go_wp2
                      go_roundw
                      case rel => exact ⟨k + 1, by omega, by go_num, HN, (Ek.trans E6).drewN _⟩
                      case measure => simp [intOf] <;> omega
                    | true =>
                      by_cases hgt : ti < tk
                      · have hd : decide (ti < tk) = true := by simp [hgt]
                        have HF := hid (ordB_no (A := D) (at_ := AT) hil hki (by rw [hp.out, hq.out]; exact HCL.out) (by rw [HTK.out, HTI.out]; exact hgt))
                        go_wp2_with fail
                        go_quiet (fail)
                        go_wp2
                        go_ret2
                        exact ⟨rT2 (vB (by rw [← HOB.out, HF.out])) rfl, (((E1.trans Ei).trans Ek).trans E6).drewN _⟩
                      · have hd : decide (ti < tk) = false := by simp [hgt]
                        have HN := hid (fun (k' : Nat) (h : k' < k + 1) (hc : clashB (D.getD k' []) q = true) => (by
                          by_cases e : k' = k
                          · subst e; rw [HTK.out, HTI.out]; omega
                          · exact hok2.out k' (by omega) hc : AT.getD k' 0 ≤ AT.getD i 0))
                        go_wp2_with fail
                        go_quiet (fail)
                        go_wp2
                        go_roundw
                        case rel => exact ⟨k + 1, by omega, by go_num, HN, (Ek.trans E6).drewN _⟩
                        case measure => simp [intOf] <;> omega
                · obtain rfl : k = i := by omega
                  have HN := hid (fun (i' : Nat) (h : i' < k + 1) (k' : Nat) (hk' : k' < i') (hc : clashB (D.getD k' []) (D.getD i' []) = true) => (by
                    by_cases e : i' = k
                    · subst e; rw [hq.out] at hc; exact hok2.out k' hk' hc
                    · exact hok.out i' (by omega) k' hk' hc : AT.getD k' 0 ≤ AT.getD i' 0))
                  go_wp2
                  go_roundw
                  case rel => exact ⟨k + 1, by omega, by go_num, HN, Ei.trans Ek⟩
                  case measure => simp [intOf] <;> omega
            · obtain rfl : i = D.length := by omega
              have HT := hid (ordB_iff.2 hok.out)
              go_wp2
              go_ret2
              exact ⟨rT2 (vB (by rw [← HOB.out, HT.out])) rfl, E1.trans Ei⟩
end Go.Proofs.YtomgeolmfpijoaaDoor
