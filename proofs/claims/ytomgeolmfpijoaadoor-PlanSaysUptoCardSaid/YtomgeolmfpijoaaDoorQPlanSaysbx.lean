/- Contracts and lemmas for the proof of PlanSays; each theorem states its own conditions. -/
import Derived.Test.YtomgeolmfpijoaaDoorQPlanSaysbv
import Derived.Test.YtomgeolmfpijoaaDoorQPlanSaysbt
import Derived.Test.YtomgeolmfpijoaaDoorQPlanSaysbw
import Derived.Test.YtomgeolmfpijoaaDoorQPlanSaysbo
set_option linter.unusedVariables false
set_option linter.unusedSimpArgs false
/- Contracts and lemmas for the proofs of this seat; each theorem states its own conditions. -/
namespace Go.Proofs.YtomgeolmfpijoaaDoor
open Go.RowKit Go.Maps
/-! the document's Rounds -/
theorem rdn_step {A : List Ops} {R : List Nat} {i j : Nat} (h : j < i) : rdn A R i (i - j) = if clashB (A.getD j []) (A.getD i []) = true then max (rdn A R i (i - (j + 1))) (R.getD j 0 + 1) else rdn A R i (i - (j + 1)) := by
  have e : i - j = (i - (j + 1)) + 1 := by omega
  have e2 : i - 1 - (i - (j + 1)) = j := by omega
  rw [e, rdn, e2]
theorem rdn_le {A : List Ops} {i : Nat} : ∀ m, m ≤ i → rdn A (rndTo A i) i m ≤ i
  | 0, _ => by simp [rdn]
  | m + 1, h => by
    have h1 := rdn_le (A := A) (i := i) m (by omega)
    have h2 := rndTo_le A (i := i) (k := i - 1 - m) (by omega)
    simp only [rdn]
    split <;> omega
set_option maxRecDepth 100000 in
set_option maxHeartbeats 4000000 in
theorem rrounds_any (vd : Value) (D : List Ops) (w : World) (hvd : SegDs w vd D) (dok : ∀ d ∈ D, DeedOk d) (hdl : D.length ≤ 60) :
    Calls Tryd.prog 56 #[vd] w fun e w' => ∃ v', e = .returned v' ∧ w'.ownsRow w.heap.size 3 1 v' D.length (cI (iN (rndTo D D.length))) ∧ Ext w w' := by
  obtain ⟨aD, cD, rfl, hc1, hc2, hcell⟩ := hvd.form
  have HC := hid hcell
  clear hcell hvd
  unfold maxLen at hc2
  go_enter Tryd.func56, Tryd.ntmps56
  go_wp2_with fail
  go_loopw [3, 4, 5, 6, 7, 10] (fun ov _ _ _ _ iv wr => ∃ i : Nat, i ≤ D.length ∧ iv = .int .i64 i ∧ wr.ownsRow w.heap.size 3 1 ov (rndTo D i).length (cI (iN (rndTo D i))) ∧ Ext w wr) (fun _ _ _ _ _ iv _ => D.length - (intOf iv).toNat)
  case atStart => exact ⟨0, Nat.zero_le _, rfl, World.ownsRow_nil _ _ _ _, Ext.refl _⟩
  case round =>
    obtain ⟨wo, rfl⟩ : ∃ wo : World, wo = wr := ⟨_, rfl⟩
    obtain ⟨i, hi, rfl, ho, Ei⟩ := hrel
    by_cases hil : i < D.length
    · obtain ⟨bD, oD, rfl, hcc⟩ := HC.out (by omega)
      obtain ⟨x2, y2, c2, s2⟩ := hcc i D[i] (List.getElem?_eq_getElem hil)
      replace c2 := Ei.cell c2
      replace s2 := s2.ext Ei
      have d2 := dok _ (List.getElem_mem hil)
      have hq := hid (show D.getD i [] = D[i] by simp [hil])
      generalize D[i] = q at c2 s2 d2 hq
      have hln := rndTo_len D i
      rw [hln] at ho
      have EA := (Ext.refl wo).alloc (.cells #[.slice x2 q.length y2] 46)
      have y0 := cell_of_one (heap_alloc_new wo (.cells #[.slice x2 q.length y2] 46))
      obtain ⟨wS, hwS⟩ : ∃ wS, wo.alloc (.cells #[.slice x2 q.length y2] 46) = wS := ⟨_, rfl⟩
      have HBS := hid (show wS.heap.size = wo.heap.size + 1 by rw [← hwS]; simp)
      rw [hwS] at EA y0
      have HO := hid (own_ext ho EA)
      have ES := Ei.trans EA
      obtain ⟨ao, co, rfl⟩ := own_form ho
      clear hcc ho hln
      replace s2 := s2.ext EA
      go_wp2_with fail
      clear hwS
      go_loopw [6, 7] (fun nv kv wr => ∃ j : Nat, j ≤ i ∧ kv = .int .i64 ((j : Int) - 1) ∧ nv = .int .i64 (rdn D (rndTo D i) i (i - j)) ∧ Ext wS wr) (fun _ kv _ => (intOf kv + 1).toNat)
      case atStart => exact ⟨i, Nat.le_refl _, rfl, by simp [rdn], Ext.refl _⟩
      case round =>
        obtain ⟨wz, rfl⟩ : ∃ wz : World, wz = wr := ⟨_, rfl⟩
        obtain ⟨j, hj, rfl, rfl, Ez⟩ := hrel
        rcases j with _ | k
        · have HRD := hid (show rdn D (rndTo D i) i i = rnd1 D (rndTo D i) i i from rdn_eq _ _ _)
          have HRN := hid (show rndTo D (i + 1) = rndTo D i ++ [rnd1 D (rndTo D i) i i] from rfl)
          have e0 : (((0 : Nat) : Int) - 1) = -1 := rfl
          rw [e0]
          simp only [Nat.sub_zero]
          rw [HRD.out]
          have hln := rndTo_len D i
          have ho := own_ext HO.out Ez
          obtain ⟨X, hX⟩ : ∃ X, rnd1 D (rndTo D i) i i = X := ⟨_, rfl⟩
          rw [hX]
          have HX := hid hX
          have p1 : Seg (wz.alloc (.cells #[.int .i64 (X : Int)] 3)) (.slice (some ⟨wz.heap.size, 0, none⟩) 1 1) 1 1 [.int .i64 (X : Int)] := seg_one (heap_alloc_new wz _)
          have p2 := ho.alloc (.cells #[.int .i64 (X : Int)] 3)
          have p3 : w.heap.size ≤ (wz.alloc (.cells #[.int .i64 (X : Int)] 3)).heap.size := by have := ES.size'; have := Ez.size'; simp; omega
          clear hX e0 HRD ho hln
          go_wp2_with (first | (at_builtin; refine (wpList_app rfl _ _ 22 rfl w.heap.size 3 (.int .i64 0) 1 8 Tryd.underlying22 infoI rfl (by decide) _ i (cI (iN (rndTo D i))) rfl p2 _ 1 [.int .i64 (X : Int)] rfl p1 (one_int _) (by omega) (by unfold maxLen; omega) p3 ?_); intro v' w9 ho' hg))
          go_roundw
          case rel =>
            refine ⟨i + 1, by omega, by go_num, ?_, ((ES.trans Ez).alloc _).grown hg (fun k hk => own_ge p2 k hk)⟩
            rw [rndTo_len, HRN.out, HX.out, iN_app]
            have : cI (iN (rndTo D i) ++ iN [X]) = cI (iN (rndTo D i)) ++ [.int .i64 (X : Int)] := by simp [cI, iN]
            rw [this]; exact ho'
          case measure => simp [intOf] <;> omega
        · have e0 : (((k + 1 : Nat) : Int) - 1) = (k : Int) := by omega
          rw [e0]
          clear e0
          have hki : k < i := by omega
          have hkl : k < D.length := by omega
          obtain ⟨_, _, he, hcc⟩ := HC.out (by omega)
          injection he with he; injection he with he1 he2
          subst he1; subst he2
          obtain ⟨x1, y1, c1, s1⟩ := hcc k D[k] (List.getElem?_eq_getElem hkl)
          have EZ := ES.trans Ez
          replace c1 := EZ.cell c1
          replace s1 := s1.ext EZ
          have d1 := dok _ (List.getElem_mem hkl)
          have hp := hid (show D.getD k [] = D[k] by simp [hkl])
          generalize D[k] = p at c1 s1 d1 hp
          have cb := Ez.cell y0
          have CL := fun w' (E : Ext wz w') => rclash_any (.slice x1 p.length y1) (.slice x2 q.length y2) p q w' (s1.ext E) ((s2.ext Ez).ext E) d1 d2
          have hr1 := rdn_step (A := D) (R := rndTo D i) hki
          rw [hp.out, hq.out] at hr1
          have ho := own_ext HO.out Ez
          obtain ⟨gO, cO', heO, _, _⟩ := own_form_g ho (by omega)
          injection heO with e1 _ e3
          subst e1; subst e3
          have ck := (own_int ho (i := k) (by rw [iN_len, rndTo_len]; omega)).1
          rw [iN_at _ (by rw [rndTo_len]; omega)] at ck
          have b1 := rdn_le (A := D) (i := i) (i - (k + 1)) (by omega)
          have b2 := rndTo_le D hki
          generalize clashB p q = cl at CL hr1
          generalize rdn D (rndTo D i) i (i - (k + 1)) = N at hr1 b1 ⊢
          generalize (rndTo D i).getD k 0 = Y at hr1 b2 ck
          have CL := hid CL
          have HR1 := hid hr1
          clear hcc hr1 s1 ho
          cases cl with
          | false =>
            go_wp2_with fail
            refine wp_region_ph [.k (.slice (some ⟨bD, oD, none⟩) D.length cD), .k (.int .i64 k), .k (.pointer (some ⟨bD, oD + k, none⟩)), .k (.agg #[.slice x1 p.length y1]), .k (.agg #[.slice x2 q.length y2]), .k (.bool false), .k (.bool false), .k (undef), .k (undef), .k (undef), .k (undef), .k (undef), .k (undef)] [] (by kernel_rfl) (by kernel_rfl) (by kernel_rfl) rfl rfl ?hs ?hC ?he
            case hC =>
              intro i hi
              simp at hi
            case hs =>
              refine ⟨?_, ?_, ?_, ?_, ?_, ?_, ?_, ?_, ?_, ?_, ?_, ?_, ?_, trivial⟩
              all_goals (
                intro x w' hE hd
                try simp [PhDeps, at_k, at_p, at_t, at_any, Region.binds] at hd
                try ((with_reducible refine Exists.elim hd ?_); clear hd; intro y hd; obtain ⟨hd, hG⟩ := hd)
                have e1 := hE.cell c1
                have e2 := hE.cell cb
                first | simp only [frL, List.length_cons, List.length_nil, List.take_succ_cons, List.take_zero, Nat.reduceAdd, Nat.zero_add, List.setIfInBounds_toArray, List.set_cons_zero, List.set_cons_succ, hd] | simp only [frL, List.length_cons, List.length_nil, List.take_succ_cons, List.take_zero, Nat.reduceAdd, Nat.zero_add, List.setIfInBounds_toArray, List.set_cons_zero, List.set_cons_succ]
                go_wp2_with (first | (go_at_call 107; refine (CL.out w' hE).mono ?_; rintro e wa ⟨rfl, hea⟩))
                all_goals first
                  | ((with_reducible refine phK ?_ ?_); (focus rfl); (repeat (first | (with_reducible assumption) | (with_reducible exact Ext.refl _) | (with_reducible refine Ext.drew ?_) | (with_reducible refine Ext.drewN ?_ _) | (with_reducible refine Ext.alloc ?_ _) | (with_reducible refine Ext.trans ?_ (by with_reducible assumption)))))
                  | ((with_reducible refine phT rfl hG ?_); (repeat (first | (with_reducible assumption) | (with_reducible exact Ext.refl _) | (with_reducible refine Ext.drew ?_) | (with_reducible refine Ext.drewN ?_ _) | (with_reducible refine Ext.alloc ?_ _) | (with_reducible refine Ext.trans ?_ (by with_reducible assumption)))))
                  | ((with_reducible refine phU hG ?_); (repeat (first | (with_reducible assumption) | (with_reducible exact Ext.refl _) | (with_reducible refine Ext.drew ?_) | (with_reducible refine Ext.drewN ?_ _) | (with_reducible refine Ext.alloc ?_ _) | (with_reducible refine Ext.trans ?_ (by with_reducible assumption)))))
                  | (with_reducible exact phBox hE)
                  | (with_reducible exact phRow hE))
            case he =>
              intro x w6 E6 hd
              simp [PhEnd, at_k, at_p, at_t, at_any] at hd
              simp only [frL, List.length_cons, List.length_nil, List.take_succ_cons, List.take_zero, Nat.reduceAdd, Nat.zero_add, List.setIfInBounds_toArray, List.set_cons_zero, List.set_cons_succ, hd, List.length_cons, List.length_nil, List.drop_succ_cons, List.drop_zero]
              clear hd
              clear CL
              go_wp2
              go_roundw
              case rel => exact ⟨k, by omega, rfl, by rw [HR1.out]; simp, Ez.trans E6⟩
              case measure => simp [intOf] <;> omega
          | true =>
            by_cases hge : N ≤ Y
            · have qg : decide (N ≤ Y) = true := by simp; exact hge
              have HM := hid (show max N (Y + 1) = Y + 1 by omega)
              clear hge
              go_wp2_with fail
              refine wp_region_ph [.k (.slice (some ⟨bD, oD, none⟩) D.length cD), .k (.int .i64 k), .k (.pointer (some ⟨bD, oD + k, none⟩)), .k (.agg #[.slice x1 p.length y1]), .k (.agg #[.slice x2 q.length y2]), .k (.bool true), .k (.bool true), .k (.slice (some ⟨gO, 0, none⟩) i co), .k (.int .i64 k), .k (.pointer (some ⟨gO, k, none⟩)), .k (.int .i64 Y), .k (.int .i64 N), .k (.bool true)] [] (by kernel_rfl) (by kernel_rfl) (by kernel_rfl) rfl rfl ?hs ?hC ?he
              case hC =>
                intro i hi
                simp at hi
              case hs =>
                refine ⟨?_, ?_, ?_, ?_, ?_, ?_, ?_, ?_, ?_, ?_, ?_, ?_, ?_, trivial⟩
                all_goals (
                  intro x w' hE hd
                  try simp [PhDeps, at_k, at_p, at_t, at_any, Region.binds] at hd
                  try ((with_reducible refine Exists.elim hd ?_); clear hd; intro y hd; obtain ⟨hd, hG⟩ := hd)
                  have e1 := hE.cell c1
                  have e2 := hE.cell cb
                  have e3 := hE.cell ck
                  first | simp only [frL, List.length_cons, List.length_nil, List.take_succ_cons, List.take_zero, Nat.reduceAdd, Nat.zero_add, List.setIfInBounds_toArray, List.set_cons_zero, List.set_cons_succ, hd] | simp only [frL, List.length_cons, List.length_nil, List.take_succ_cons, List.take_zero, Nat.reduceAdd, Nat.zero_add, List.setIfInBounds_toArray, List.set_cons_zero, List.set_cons_succ]
                  go_wp2_with (first | (go_at_call 107; refine (CL.out w' hE).mono ?_; rintro e wa ⟨rfl, hea⟩))
                  all_goals first
                    | ((with_reducible refine phK ?_ ?_); (focus rfl); (repeat (first | (with_reducible assumption) | (with_reducible exact Ext.refl _) | (with_reducible refine Ext.drew ?_) | (with_reducible refine Ext.drewN ?_ _) | (with_reducible refine Ext.alloc ?_ _) | (with_reducible refine Ext.trans ?_ (by with_reducible assumption)))))
                    | ((with_reducible refine phT rfl hG ?_); (repeat (first | (with_reducible assumption) | (with_reducible exact Ext.refl _) | (with_reducible refine Ext.drew ?_) | (with_reducible refine Ext.drewN ?_ _) | (with_reducible refine Ext.alloc ?_ _) | (with_reducible refine Ext.trans ?_ (by with_reducible assumption)))))
                    | ((with_reducible refine phU hG ?_); (repeat (first | (with_reducible assumption) | (with_reducible exact Ext.refl _) | (with_reducible refine Ext.drew ?_) | (with_reducible refine Ext.drewN ?_ _) | (with_reducible refine Ext.alloc ?_ _) | (with_reducible refine Ext.trans ?_ (by with_reducible assumption)))))
                    | (with_reducible exact phBox hE)
                    | (with_reducible exact phRow hE))
              case he =>
                intro x w6 E6 hd
                simp [PhEnd, at_k, at_p, at_t, at_any] at hd
                simp only [frL, List.length_cons, List.length_nil, List.take_succ_cons, List.take_zero, Nat.reduceAdd, Nat.zero_add, List.setIfInBounds_toArray, List.set_cons_zero, List.set_cons_succ, hd, List.length_cons, List.length_nil, List.drop_succ_cons, List.drop_zero]
                clear hd
                have ck6 := E6.cell ck
                clear CL
                go_wp2
                go_roundw
                case rel => exact ⟨k, by omega, rfl, by rw [HR1.out]; simp [HM.out], Ez.trans E6⟩
                case measure => simp [intOf] <;> omega
            · have qg : decide (N ≤ Y) = false := by simp; omega
              have HM := hid (show max N (Y + 1) = N by omega)
              clear hge
              go_wp2_with fail
              refine wp_region_ph [.k (.slice (some ⟨bD, oD, none⟩) D.length cD), .k (.int .i64 k), .k (.pointer (some ⟨bD, oD + k, none⟩)), .k (.agg #[.slice x1 p.length y1]), .k (.agg #[.slice x2 q.length y2]), .k (.bool true), .k (.bool true), .k (.slice (some ⟨gO, 0, none⟩) i co), .k (.int .i64 k), .k (.pointer (some ⟨gO, k, none⟩)), .k (.int .i64 Y), .k (.int .i64 N), .k (.bool false)] [] (by kernel_rfl) (by kernel_rfl) (by kernel_rfl) rfl rfl ?hs ?hC ?he
              case hC =>
                intro i hi
                simp at hi
              case hs =>
                refine ⟨?_, ?_, ?_, ?_, ?_, ?_, ?_, ?_, ?_, ?_, ?_, ?_, ?_, trivial⟩
                all_goals (
                  intro x w' hE hd
                  try simp [PhDeps, at_k, at_p, at_t, at_any, Region.binds] at hd
                  try ((with_reducible refine Exists.elim hd ?_); clear hd; intro y hd; obtain ⟨hd, hG⟩ := hd)
                  have e1 := hE.cell c1
                  have e2 := hE.cell cb
                  have e3 := hE.cell ck
                  first | simp only [frL, List.length_cons, List.length_nil, List.take_succ_cons, List.take_zero, Nat.reduceAdd, Nat.zero_add, List.setIfInBounds_toArray, List.set_cons_zero, List.set_cons_succ, hd] | simp only [frL, List.length_cons, List.length_nil, List.take_succ_cons, List.take_zero, Nat.reduceAdd, Nat.zero_add, List.setIfInBounds_toArray, List.set_cons_zero, List.set_cons_succ]
                  go_wp2_with (first | (go_at_call 107; refine (CL.out w' hE).mono ?_; rintro e wa ⟨rfl, hea⟩))
                  all_goals first
                    | ((with_reducible refine phK ?_ ?_); (focus rfl); (repeat (first | (with_reducible assumption) | (with_reducible exact Ext.refl _) | (with_reducible refine Ext.drew ?_) | (with_reducible refine Ext.drewN ?_ _) | (with_reducible refine Ext.alloc ?_ _) | (with_reducible refine Ext.trans ?_ (by with_reducible assumption)))))
                    | ((with_reducible refine phT rfl hG ?_); (repeat (first | (with_reducible assumption) | (with_reducible exact Ext.refl _) | (with_reducible refine Ext.drew ?_) | (with_reducible refine Ext.drewN ?_ _) | (with_reducible refine Ext.alloc ?_ _) | (with_reducible refine Ext.trans ?_ (by with_reducible assumption)))))
                    | ((with_reducible refine phU hG ?_); (repeat (first | (with_reducible assumption) | (with_reducible exact Ext.refl _) | (with_reducible refine Ext.drew ?_) | (with_reducible refine Ext.drewN ?_ _) | (with_reducible refine Ext.alloc ?_ _) | (with_reducible refine Ext.trans ?_ (by with_reducible assumption)))))
                    | (with_reducible exact phBox hE)
                    | (with_reducible exact phRow hE))
              case he =>
                intro x w6 E6 hd
                simp [PhEnd, at_k, at_p, at_t, at_any] at hd
                simp only [frL, List.length_cons, List.length_nil, List.take_succ_cons, List.take_zero, Nat.reduceAdd, Nat.zero_add, List.setIfInBounds_toArray, List.set_cons_zero, List.set_cons_succ, hd, List.length_cons, List.length_nil, List.drop_succ_cons, List.drop_zero]
                clear hd
                clear CL
                go_wp2
                go_roundw
                case rel => exact ⟨k, by omega, rfl, by rw [HR1.out]; simp [HM.out], Ez.trans E6⟩
                case measure => simp [intOf] <;> omega
    · obtain rfl : i = D.length := by omega
      rw [rndTo_len] at ho
      go_wp2
      go_ret
      exact ⟨_, rfl, ho, Ei⟩
/-! the document's Ordered -/
theorem ordTo_step {D : List Ops} {ord : List Nat} {j : Nat} (hj : j < ord.length) (h : OrdTo D ord j) (hs : ∀ i < ord[j], i ∉ ord.take j → clashB (D.getD i []) (D.getD ord[j] []) = false) : OrdTo D ord (j + 1) := by
  intro x hx hxj i hi hn
  by_cases e : x = j
  · subst e; exact hs i hi hn
  · exact h x hx (by omega) i hi hn
theorem ordTo_not {D : List Ops} {ord : List Nat} {j i : Nat} (hj : j < ord.length) (hi : i < ord[j]) (hn : i ∉ ord.take j) (hc : clashB (D.getD i []) (D.getD ord[j] []) = true) : ¬ AdmO D ord := by
  intro h
  have := ordTo_adm.2 h j hj hj i hi hn
  rw [hc] at this; cases this
theorem mem_iN {l : List Nat} {i : Nat} : ((i : Int) ∈ iN l) ↔ i ∈ l := by
  unfold iN
  rw [List.mem_map]
  constructor
  · rintro ⟨a, h, e⟩
    have : a = i := by omega
    rwa [← this]
  · exact fun h => ⟨i, h, rfl⟩
theorem iN_take (l : List Nat) (j : Nat) : iN (l.take j) = (iN l).take j := by simp [iN]
set_option maxRecDepth 100000 in
set_option maxHeartbeats 4000000 in
theorem rordered_any (vd vo : Value) (D : List Ops) (ord : List Nat) (w : World) (hvd : SegDs w vd D) (dok : ∀ d ∈ D, DeedOk d) (hdl : D.length ≤ 60) (hvo : Seg w vo 1 ord.length (cN ord)) (hlt0 : ∀ i ∈ ord, i < D.length) (hol : ord.length ≤ 60) :
    Calls Tryd.prog 58 #[vd, vo] w fun e w' => ∃ b, e = .returned (.bool b) ∧ (b = true ↔ AdmO D ord) ∧ Ext w w' := by
  obtain ⟨aD, cD, rfl, hc1, hc2, hcell⟩ := hvd.form
  have HC := hid hcell
  clear hcell hvd
  unfold maxLen at hc2
  obtain ⟨_, ao, co, rfl, ho1, ho2, ho3⟩ := hvo
  unfold maxLen at ho2
  have HO := hid ho3
  clear ho3
  have hmm := @run_makeMap Tryd.prog
  have bm := World.ownsMap_made w Tryd.prog 3 (plainElem (H := Unit) Tryd.prog 4)
  have Em := (Ext.refl w).alloc (.map #[] 0)
  go_enter Tryd.func58, Tryd.ntmps58
  go_wp2_with fail
  clear hmm
  go_loopw [7, 8, 12, 17] (fun _ _ iv _ wr => ∃ (j : Nat) (F : DU), j ≤ ord.length ∧ iv = .int .i64 j ∧ wr.ownsMap Tryd.prog 3 (plainElem Tryd.prog 4) w.heap.size j F ∧ MapF kI okI dB F (setI (iN (ord.take j))) ∧ OrdTo D ord j ∧ Ext w wr) (fun _ _ iv _ _ => ord.length - (intOf iv).toNat)
  case atStart => exact ⟨0, _, Nat.zero_le _, rfl, bm, by rw [show iN (ord.take 0) = [] from rfl, setI_none]; exact MapF.empty, fun x _ h => absurd h (by omega), Em⟩
  case round =>
    clear bm Em
    obtain ⟨wo, rfl⟩ : ∃ wo : World, wo = wr := ⟨_, rfl⟩
    obtain ⟨j, F, hj, rfl, hm, hF, hot, Ej⟩ := hrel
    by_cases hjl : j < ord.length
    · obtain ⟨bo, oo, rfl, hco⟩ := HO.out (by omega)
      have co1 := Ej.cell (hco j _ (cN_at ord hjl))
      have hkn := hlt0 _ (List.getElem_mem hjl)
      have HOT := hid hot
      have HST := hid (fun (h : ∀ i < ord[j], i ∉ ord.take j → clashB (D.getD i []) (D.getD ord[j] []) = false) => ordTo_step hjl hot h)
      have HNO := hid (fun (i : Nat) (hi : i < ord[j]) (hn : i ∉ ord.take j) (hc : clashB (D.getD i []) (D.getD ord[j] []) = true) => ordTo_not hjl hi hn hc)
      have HTK := hid (show iN (ord.take (j + 1)) = iN (ord.take j) ++ [(ord[j] : Int)] by rw [List.take_succ_eq_append_getElem hjl, iN_app]; rfl)
      clear hot hco
      generalize ord[j] = k at co1 hkn HST HNO HTK
      obtain ⟨bD, oD, rfl, hcc⟩ := HC.out (by omega)
      obtain ⟨x2, y2, c2, s2⟩ := hcc k D[k] (List.getElem?_eq_getElem hkn)
      replace c2 := Ej.cell c2
      replace s2 := s2.ext Ej
      have d2 := dok _ (List.getElem_mem hkn)
      have hq := hid (show D.getD k [] = D[k] by simp [hkn])
      generalize D[k] = q at c2 s2 d2 hq
      clear hcc
      go_wp2_with fail
      go_loopw [8, 17] (fun _ iv wr => ∃ i : Nat, i ≤ k ∧ iv = .int .i64 i ∧ Hid (∀ i' < i, i' ∉ ord.take j → clashB (D.getD i' []) q = false) ∧ Ext wo wr) (fun _ iv _ => k - (intOf iv).toNat)
      case atStart => exact ⟨0, Nat.zero_le _, rfl, hid (fun i' h => by omega), Ext.refl _⟩
      case round =>
        obtain ⟨wz, rfl⟩ : ∃ wz : World, wz = wr := ⟨_, rfl⟩
        obtain ⟨i, hi, rfl, hok, Ei⟩ := hrel
        by_cases hik : i < k
        · have hiD : i < D.length := by omega
          have hokI : okI (i : Int) := WalkArith.wf_i64 (by omega)
          have LK := look_setI (ownsMap_ext hm Ei) hF hokI
          have hmem : decide ((i : Int) ∈ iN (ord.take j)) = decide (i ∈ ord.take j) := by simp [mem_iN]
          rw [hmem] at LK
          cases hin : decide (i ∈ ord.take j) with
          | true =>
            rw [hin] at LK
            have HN := hid (fun (i' : Nat) (h : i' < i + 1) (hn : i' ∉ ord.take j) => (by
              by_cases e : i' = i
              · subst e; exact absurd (by simpa using hin) hn
              · exact hok.out i' (by omega) hn : clashB (D.getD i' []) q = false))
            go_wp2_with fail
            refine wp_region_ph [.k (.map (some w.heap.size)), .k (.int .i64 i), .k (.bool true), .k (.bool false), .k (.bool false), .k (undef), .k (undef), .k (undef), .k (undef), .k (undef), .k (undef), .k (undef), .k (undef), .k (undef)] [] (by kernel_rfl) (by kernel_rfl) (by kernel_rfl) rfl rfl ?hs ?hC ?he
            case hC =>
              intro i hi
              simp at hi
            case hs =>
              refine ⟨?_, ?_, ?_, ?_, ?_, ?_, ?_, ?_, ?_, ?_, ?_, ?_, ?_, ?_, trivial⟩
              all_goals (
                intro x w' hE hd
                try simp [PhDeps, at_k, at_p, at_t, at_any, Region.binds] at hd
                try ((with_reducible refine Exists.elim hd ?_); clear hd; intro y hd; obtain ⟨hd, hG⟩ := hd)
                have LK9 := look_setI (ownsMap_ext hm (Ei.trans hE)) hF hokI
                rw [hmem, hin] at LK9
                first | simp only [frL, List.length_cons, List.length_nil, List.take_succ_cons, List.take_zero, Nat.reduceAdd, Nat.zero_add, List.setIfInBounds_toArray, List.set_cons_zero, List.set_cons_succ, hd] | simp only [frL, List.length_cons, List.length_nil, List.take_succ_cons, List.take_zero, Nat.reduceAdd, Nat.zero_add, List.setIfInBounds_toArray, List.set_cons_zero, List.set_cons_succ]
                go_wp2
                all_goals first
                  | ((with_reducible refine phK ?_ ?_); (focus rfl); (repeat (first | (with_reducible assumption) | (with_reducible exact Ext.refl _) | (with_reducible refine Ext.drew ?_) | (with_reducible refine Ext.drewN ?_ _) | (with_reducible refine Ext.alloc ?_ _) | (with_reducible refine Ext.trans ?_ (by with_reducible assumption)))))
                  | ((with_reducible refine phT rfl hG ?_); (repeat (first | (with_reducible assumption) | (with_reducible exact Ext.refl _) | (with_reducible refine Ext.drew ?_) | (with_reducible refine Ext.drewN ?_ _) | (with_reducible refine Ext.alloc ?_ _) | (with_reducible refine Ext.trans ?_ (by with_reducible assumption)))))
                  | ((with_reducible refine phU hG ?_); (repeat (first | (with_reducible assumption) | (with_reducible exact Ext.refl _) | (with_reducible refine Ext.drew ?_) | (with_reducible refine Ext.drewN ?_ _) | (with_reducible refine Ext.alloc ?_ _) | (with_reducible refine Ext.trans ?_ (by with_reducible assumption)))))
                  | (with_reducible exact phBox hE)
                  | (with_reducible exact phRow hE))
            case he =>
              intro x w6 E6 hd
              simp [PhEnd, at_k, at_p, at_t, at_any] at hd
              simp only [frL, List.length_cons, List.length_nil, List.take_succ_cons, List.take_zero, Nat.reduceAdd, Nat.zero_add, List.setIfInBounds_toArray, List.set_cons_zero, List.set_cons_succ, hd, List.length_cons, List.length_nil, List.drop_succ_cons, List.drop_zero]
              clear hd
              go_wp2
              go_roundw
              case rel => exact ⟨i + 1, by omega, by go_num, HN, Ei.trans E6⟩
              case measure => simp [intOf] <;> omega
          | false =>
            rw [hin] at LK
            have hni : i ∉ ord.take j := by simpa using hin
            obtain ⟨_, _, he, hcc⟩ := HC.out (by omega)
            injection he with he; injection he with he1 he2
            subst he1; subst he2
            obtain ⟨x1, y1, k1, s1⟩ := hcc i D[i] (List.getElem?_eq_getElem hiD)
            replace k1 := Ei.cell (Ej.cell k1)
            replace s1 := (s1.ext Ej).ext Ei
            have d1 := dok _ (List.getElem_mem hiD)
            have hp := hid (show D.getD i [] = D[i] by simp [hiD])
            generalize D[i] = p at k1 s1 d1 hp
            have c2z := Ei.cell c2
            have CL := fun w' (E : Ext wz w') => rclash_any (.slice x1 p.length y1) (.slice x2 q.length y2) p q w' (s1.ext E) ((s2.ext Ei).ext E) d1 d2
            have HBAD := hid (fun (hc : clashB p q = true) => HNO.out i hik hni (by rw [hp.out, hq.out]; exact hc))
            have HYE := hid (fun (hc : clashB p q = false) (i' : Nat) (h : i' < i + 1) (hn : i' ∉ ord.take j) => (by
              by_cases e : i' = i
              · subst e; rw [hp.out]; exact hc
              · exact hok.out i' (by omega) hn : clashB (D.getD i' []) q = false))
            generalize clashB p q = cl at CL HBAD HYE
            have CL := hid CL
            clear hcc s1 hni
            go_wp2_with fail
            refine wp_region_ph [.k (.map (some w.heap.size)), .k (.int .i64 i), .k (.bool false), .k (.bool true), .k (.bool true), .k (.slice (some ⟨bD, oD, none⟩) D.length cD), .k (.int .i64 i), .k (.pointer (some ⟨bD, oD + i, none⟩)), .k (.agg #[.slice x1 p.length y1]), .k (.slice (some ⟨bD, oD, none⟩) D.length cD), .k (.int .i64 k), .k (.pointer (some ⟨bD, oD + k, none⟩)), .k (.agg #[.slice x2 q.length y2]), .k (.bool cl)] [] (by kernel_rfl) (by kernel_rfl) (by kernel_rfl) rfl rfl ?hs ?hC ?he
            case hC =>
              intro i hi
              simp at hi
            case hs =>
              refine ⟨?_, ?_, ?_, ?_, ?_, ?_, ?_, ?_, ?_, ?_, ?_, ?_, ?_, ?_, trivial⟩
              all_goals (
                intro x w' hE hd
                try simp [PhDeps, at_k, at_p, at_t, at_any, Region.binds] at hd
                try ((with_reducible refine Exists.elim hd ?_); clear hd; intro y hd; obtain ⟨hd, hG⟩ := hd)
                have LK9 := look_setI (ownsMap_ext hm (Ei.trans hE)) hF hokI
                rw [hmem, hin] at LK9
                have f1 := hE.cell k1
                have f2 := hE.cell c2z
                first | simp only [frL, List.length_cons, List.length_nil, List.take_succ_cons, List.take_zero, Nat.reduceAdd, Nat.zero_add, List.setIfInBounds_toArray, List.set_cons_zero, List.set_cons_succ, hd] | simp only [frL, List.length_cons, List.length_nil, List.take_succ_cons, List.take_zero, Nat.reduceAdd, Nat.zero_add, List.setIfInBounds_toArray, List.set_cons_zero, List.set_cons_succ]
                go_wp2_with (first | (go_at_call 107; refine (CL.out w' hE).mono ?_; rintro e wa ⟨rfl, hea⟩))
                all_goals first
                  | ((with_reducible refine phK ?_ ?_); (focus rfl); (repeat (first | (with_reducible assumption) | (with_reducible exact Ext.refl _) | (with_reducible refine Ext.drew ?_) | (with_reducible refine Ext.drewN ?_ _) | (with_reducible refine Ext.alloc ?_ _) | (with_reducible refine Ext.trans ?_ (by with_reducible assumption)))))
                  | ((with_reducible refine phT rfl hG ?_); (repeat (first | (with_reducible assumption) | (with_reducible exact Ext.refl _) | (with_reducible refine Ext.drew ?_) | (with_reducible refine Ext.drewN ?_ _) | (with_reducible refine Ext.alloc ?_ _) | (with_reducible refine Ext.trans ?_ (by with_reducible assumption)))))
                  | ((with_reducible refine phU hG ?_); (repeat (first | (with_reducible assumption) | (with_reducible exact Ext.refl _) | (with_reducible refine Ext.drew ?_) | (with_reducible refine Ext.drewN ?_ _) | (with_reducible refine Ext.alloc ?_ _) | (with_reducible refine Ext.trans ?_ (by with_reducible assumption)))))
                  | (with_reducible exact phBox hE)
                  | (with_reducible exact phRow hE))
            case he =>
              intro x w6 E6 hd
              simp [PhEnd, at_k, at_p, at_t, at_any] at hd
              simp only [frL, List.length_cons, List.length_nil, List.take_succ_cons, List.take_zero, Nat.reduceAdd, Nat.zero_add, List.setIfInBounds_toArray, List.set_cons_zero, List.set_cons_succ, hd, List.length_cons, List.length_nil, List.drop_succ_cons, List.drop_zero]
              clear hd
              clear CL
              cases cl with
              | true =>
                have HB := hid (HBAD.out rfl)
                clear HBAD HYE
                go_wp2
                go_ret
                exact ⟨false, rfl, ⟨fun h => (by cases h), fun h => absurd h HB.out⟩, (Ej.trans Ei).trans E6⟩
              | false =>
                have HN := hid (HYE.out rfl)
                clear HBAD HYE
                go_wp2
                go_roundw
                case rel => exact ⟨i + 1, by omega, by go_num, HN, Ei.trans E6⟩
                case measure => simp [intOf] <;> omega
        · obtain rfl : i = k := by omega
          have HS := hid (HST.out fun i' hi' hn => by rw [hq.out]; exact hok.out i' hi' hn)
          have hokI : okI (i : Int) := WalkArith.wf_i64 (by omega)
          have hkeyI := keyOf_int_mk Tryd.underlying3 (P := Tryd.prog) (k := 3) hokI
          have hm2 := ownsMap_ext hm Ei
          have hF2 := setI_put hF hokI
          rw [← HTK.out] at hF2
          have HF2 := hid hF2
          clear HST HNO hF2 hm
          go_wp2_with (first | (at_mapUpdate; refine wpList_mapUpdate_own _ rfl _ _ _ 163 rfl 3 4 lawInt Tryd.underlying163 _ w.heap.size j F rfl hm2 (by unfold maxLen; omega) _ _ (kI (i : Int)) rfl rfl hkeyI (dB true) [] (plainElem_bool Tryd.underlying4 true) ?_; intro w3 hown3 hg3; simp only [Act.put]))
          go_roundw
          case rel => exact ⟨j + 1, _, by omega, by go_num, hown3, HF2.out, HS.out, (Ej.trans Ei).grown hg3 (fun q hq => by injection hq with hq; omega)⟩
          case measure => simp [intOf] <;> omega
    · obtain rfl : j = ord.length := by omega
      have HA := hid (ordTo_adm.1 hot)
      clear hot
      go_wp2
      go_ret
      exact ⟨true, rfl, ⟨fun _ => HA.out, fun _ => rfl⟩, Ej⟩
end Go.Proofs.YtomgeolmfpijoaaDoor
