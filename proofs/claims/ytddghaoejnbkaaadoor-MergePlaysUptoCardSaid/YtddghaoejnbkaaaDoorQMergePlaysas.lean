/- Contracts and lemmas for the proof of MergePlays; each theorem states its own conditions. -/
import Derived.Test.YtddghaoejnbkaaaDoorQMergePlaysao
import Derived.Test.YtddghaoejnbkaaaDoorQMergePlaysaq
import Derived.Test.YtddghaoejnbkaaaDoorQMergePlaysar
set_option linter.unusedVariables false
set_option linter.unusedSimpArgs false
/- Contracts and lemmas for the proofs of this seat; each theorem states its own conditions. -/
namespace Go.Proofs.YtddghaoejnbkaaaDoor
open Go.RowKit
variable {eB : Nat}
/-! merge: Rounds, many, Waits -/
theorem ClsSt.form {w : World} {S : Nat → Prop} {F : Value → Prop} {v : Value} {bs : List Bat} (h : ClsSt eB w S F v bs) : ∃ a c, v = .slice a bs.length c := by
  obtain ⟨us, _, o, _⟩ := h
  exact own_form o
theorem BatSt.form {w : World} {S : Nat → Prop} {v : Value} {X : Bat} (h : BatSt eB w S v X) : ∃ a c, v = .slice a X.length c := by
  obtain ⟨es, _, o, _⟩ := h
  exact own_form o
set_option maxRecDepth 100000 in
set_option maxHeartbeats 2000000 in
theorem mrounds_ok {w : World} {S : Nat → Prop} {bm : Nat} {cl : List (List Bat)} {op : List Bat} (h : MergeSt eB w S bm cl op) :
    Calls Tryd.prog 14 #[.pointer (some ⟨bm, 0, none⟩)] w fun e w' => e = .returned (.int .i64 (rdM cl)) ∧ Ext w w' := by
  obtain ⟨bc, bo, vc, vo, h⟩ := h
  have H := hid h
  have n0 := h.n0
  have n4 := h.n4
  have cb := h.cells.1
  have c0 := (h.cellC h.n0).1
  obtain ⟨a0, k0, e0⟩ := (h.cls 0 h.n0).form
  rw [e0] at c0
  clear h e0
  have HR0 := hid (show mnTo cl 0 = (cl.getD 0 []).length from rfl)
  obtain ⟨N0, hN0⟩ : ∃ N0, (cl.getD 0 []).length = N0 := ⟨_, rfl⟩
  rw [hN0] at c0 HR0
  clear hN0
  go_enter Tryd.func14, Tryd.ntmps14
  go_wp2_with fail
  go_loopw [3, 5, 18] (fun nv _ iv wr => ∃ i : Nat, i ≤ cl.length ∧ iv = .int .i64 i ∧ nv = .int .i64 (mnTo cl i) ∧ Ext w wr) (fun _ _ iv _ => cl.length - (intOf iv).toNat)
  case atStart => exact ⟨0, Nat.zero_le _, rfl, by rw [HR0.out], Ext.refl _⟩
  case round =>
    obtain ⟨i, hi, rfl, rfl, Ei⟩ := hrel
    by_cases hil : i < cl.length
    · have ci := Ei.cell (H.out.cellC hil).1
      obtain ⟨ai, ki, e1⟩ := (H.out.cls i hil).form
      rw [e1] at ci
      have HR := hid (show mnTo cl (i + 1) = min (mnTo cl i) (cl.getD i []).length from rfl)
      obtain ⟨M, hM⟩ : ∃ M, mnTo cl i = M := ⟨_, rfl⟩
      obtain ⟨N, hN⟩ : ∃ N, (cl.getD i []).length = N := ⟨_, rfl⟩
      rw [hM, hN] at HR
      rw [hN] at ci
      simp only [hM]
      clear hM hN e1
      go_wp2
      go_roundw
      case rel => exact ⟨i + 1, by omega, by go_num, by rw [HR.out]; exact vI (by omega), Ei⟩
      case measure => simp [intOf] <;> omega
    · obtain rfl : i = cl.length := by omega
      go_wp2
      go_ret
      exact ⟨rfl, Ei⟩
def sumTo (bs : List Bat) : Nat → Nat
  | 0 => 0
  | j + 1 => sumTo bs j + (bs.getD j []).length
theorem sumTo_take (bs : List Bat) : ∀ {j : Nat}, j ≤ bs.length → sumTo bs j = ((bs.take j).map List.length).sum
  | 0, _ => by simp [sumTo]
  | j + 1, h => by
    rw [sumTo, sumTo_take bs (by omega), List.take_succ_eq_append_getElem (by omega), List.map_append, List.sum_append]
    simp [show j < bs.length by omega]
theorem sumTo_all (bs : List Bat) : sumTo bs bs.length = (bs.map List.length).sum := by
  rw [sumTo_take bs (Nat.le_refl _), List.take_of_length_le (Nat.le_refl _)]
theorem sumTo_mono (bs : List Bat) : ∀ {j k : Nat}, j ≤ k → sumTo bs j ≤ sumTo bs k
  | j, 0, h => by obtain rfl : j = 0 := by omega
                  exact Nat.le_refl _
  | j, k + 1, h => by
    rcases Nat.lt_or_ge j (k + 1) with e | e
    · have := sumTo_mono bs (j := j) (k := k) (by omega)
      rw [sumTo]; omega
    · obtain rfl : j = k + 1 := by omega
      exact Nat.le_refl _
theorem manyTo_mono (cl : List (List Bat)) (op : List Bat) : ∀ {j k : Nat}, j ≤ k → manyTo cl op j ≤ manyTo cl op k
  | j, 0, h => by obtain rfl : j = 0 := by omega
                  exact Nat.le_refl _
  | j, k + 1, h => by
    rcases Nat.lt_or_ge j (k + 1) with e | e
    · have := manyTo_mono cl op (j := j) (k := k) (by omega)
      rw [manyTo]; omega
    · obtain rfl : j = k + 1 := by omega
      exact Nat.le_refl _
set_option maxRecDepth 100000 in
set_option maxHeartbeats 2000000 in
theorem mmany_ok {w : World} {S : Nat → Prop} {bm : Nat} {cl : List (List Bat)} {op : List Bat} (h : MergeSt eB w S bm cl op) (hm : manyM cl op ≤ 1000000) (hcl : ∀ i, i < cl.length → (cl.getD i []).length ≤ 1000000) :
    Calls Tryd.prog 22 #[.pointer (some ⟨bm, 0, none⟩)] w fun e w' => e = .returned (.int .i64 (manyM cl op)) ∧ Ext w w' := by
  obtain ⟨bc, bo, vc, vo, h⟩ := h
  have H := hid h
  have n0 := h.n0
  have n4 := h.n4
  have cb := h.cells.1
  have cb' := h.cells.2
  clear h
  have HM := hid (fun i (hi : i ≤ cl.length) => (Nat.le_trans (manyTo_mono cl op hi) hm : manyTo cl op i ≤ 1000000))
  clear hm
  go_enter Tryd.func22, Tryd.ntmps22
  go_wp2_with fail
  go_loopw [3, 4, 6, 12, 33] (fun nv _ _ iv _ wr => ∃ i : Nat, i ≤ cl.length ∧ iv = .int .i64 i ∧ nv = .int .i64 (manyTo cl op i) ∧ Ext w wr) (fun _ _ _ iv _ _ => cl.length - (intOf iv).toNat)
  case atStart => exact ⟨0, Nat.zero_le _, rfl, rfl, Ext.refl _⟩
  case round =>
    obtain ⟨wo, rfl⟩ : ∃ wo : World, wo = wr := ⟨_, rfl⟩
    obtain ⟨i, hi, rfl, rfl, Ei⟩ := hrel
    by_cases hil : i < cl.length
    · have cbi := Ei.cell cb
      have cbi' := Ei.cell cb'
      have ci := Ei.cell (H.out.cellC hil).1
      have oi := Ei.cell (H.out.cellO hil).1
      obtain ⟨ai, ki, e1⟩ := (H.out.cls i hil).form
      obtain ⟨ao, ko, e2⟩ := (H.out.opn i hil).form
      rw [e1] at ci
      rw [e2] at oi
      obtain ⟨us, hus, hown, _, hbs⟩ := H.out.cls i hil
      rw [e1] at hown
      replace hown := own_ext hown Ei
      have hc := hcl i hil
      have HB := hid (fun j u (hu : us[j]? = some u) (hj : j < (cl.getD i []).length) => (hbs j u _ hu (List.getElem?_eq_getElem hj)).1.form)
      have HT := hid (show manyTo cl op (i + 1) = manyTo cl op i + (op.getD i []).length + sumTo (cl.getD i []) (cl.getD i []).length by rw [sumTo_all]; rfl)
      have h1 := HM.out i hi
      have h2 := HM.out (i + 1) hil
      rw [HT.out] at h2
      obtain ⟨M, hM⟩ : ∃ M, manyTo cl op i = M := ⟨_, rfl⟩
      obtain ⟨N, hN⟩ : ∃ N, (op.getD i []).length = N := ⟨_, rfl⟩
      rw [hM, hN] at h2
      rw [hM] at h1
      rw [hN] at oi
      have HT : Hid (manyTo cl op (i + 1) = M + N + sumTo (cl.getD i []) (cl.getD i []).length) := by rw [← hM, ← hN]; exact HT
      simp only [hM]
      clear hM hN e1 e2 hbs
      generalize cl.getD i [] = bs at *
      go_wp2_with fail
      go_loopw [3, 6, 33] (fun nv _ jv wr => ∃ j : Nat, j ≤ bs.length ∧ jv = .int .i64 j ∧ nv = .int .i64 ((M + N + sumTo bs j : Nat) : Int) ∧ Ext wo wr) (fun _ _ jv _ => bs.length - (intOf jv).toNat)
      case atStart => exact ⟨0, Nat.zero_le _, rfl, vI (by simp [sumTo]), Ext.refl _⟩
      case round =>
        obtain ⟨j, hj, rfl, rfl, Ej⟩ := hrel
        by_cases hjl : j < bs.length
        · obtain ⟨bu, offu, rfl, _, q1, q2, hcu⟩ := seg_cells (own_seg hown) (by omega)
          unfold maxLen at q2
          have cu := Ej.cell (hcu j us[j] (List.getElem?_eq_getElem (by omega)))
          obtain ⟨au, ku, e3⟩ := HB.out j us[j] (List.getElem?_eq_getElem (by omega)) hjl
          rw [e3] at cu
          have HS := hid (show sumTo bs (j + 1) = sumTo bs j + bs[j].length by rw [sumTo]; simp [hjl])
          have hmo := sumTo_mono bs (show j + 1 ≤ bs.length from hjl)
          rw [HS.out] at hmo
          obtain ⟨X, hX⟩ : ∃ X, bs[j].length = X := ⟨_, rfl⟩
          rw [hX] at cu HS hmo
          generalize sumTo bs bs.length = T at h2 hmo
          obtain ⟨Y, hY⟩ : ∃ Y, sumTo bs j = Y := ⟨_, rfl⟩
          rw [hY] at HS hmo
          simp only [hY]
          clear hX hY e3 hcu HT
          go_wp2
          go_roundw
          case rel => exact ⟨j + 1, by omega, by go_num, by rw [HS.out]; exact vI (by omega), Ej⟩
          case measure => simp [intOf] <;> omega
        · obtain rfl : j = bs.length := by omega
          have HT2 := hid (HT.out.symm)
          generalize sumTo bs bs.length = T at h2 HT2 ⊢
          go_wp2
          go_roundw
          case rel => exact ⟨i + 1, by omega, by go_num, by rw [← HT2.out], Ei.trans Ej⟩
          case measure => simp [intOf] <;> omega
    · obtain rfl : i = cl.length := by omega
      go_wp2
      go_ret
      exact ⟨rfl, Ei⟩
set_option maxRecDepth 100000 in
set_option maxHeartbeats 2000000 in
theorem mwaits_ok {w : World} {S : Nat → Prop} {bm : Nat} {cl : List (List Bat)} {op : List Bat} (h : MergeSt eB w S bm cl op) :
    Calls Tryd.prog 6 #[.pointer (some ⟨bm, 0, none⟩)] w fun e w' => ∃ v', e = .returned v' ∧ w'.ownsRow w.heap.size 3 1 v' (wtM cl).length (cN (wtM cl)) ∧ Ext w w' := by
  have MR := hid (mrounds_ok h)
  obtain ⟨bc, bo, vc, vo, h⟩ := h
  have H := hid h
  have n0 := h.n0
  have n4 := h.n4
  have cb := h.cells.1
  clear h
  go_enter Tryd.func6, Tryd.ntmps6
  go_wp2_with fail
  refine (MR.out).mono ?_
  rintro e w1 ⟨rfl, E1⟩
  replace cb := E1.cell cb
  clear MR
  go_wp2_with fail
  go_loopw [3, 5, 6, 14] (fun ov _ _ iv wr => ∃ i : Nat, i ≤ cl.length ∧ iv = .int .i64 i ∧ wr.ownsRow w.heap.size 3 1 ov (wtTo cl (rdM cl) i).length (cN (wtTo cl (rdM cl) i)) ∧ Ext w wr) (fun _ _ _ iv _ => cl.length - (intOf iv).toNat)
  case atStart => exact ⟨0, Nat.zero_le _, rfl, World.ownsRow_nil _ _ _ _, E1⟩
  case round =>
    obtain ⟨i, hi, rfl, ho, Ei⟩ := hrel
    obtain ⟨ao, ko, rfl⟩ := own_form ho
    by_cases hil : i < cl.length
    · have ci := Ei.cell (H.out.cellC hil).1
      obtain ⟨ai, ki, e1⟩ := (H.out.cls i hil).form
      rw [e1] at ci
      have hln := wt_len cl (rdM cl) i
      have HS := hid (show wtTo cl (rdM cl) (i + 1) = wtTo cl (rdM cl) i ++ (if (cl.getD i []).length = rdM cl then [i] else []) from rfl)
      generalize wtTo cl (rdM cl) i = L at ho hln HS
      obtain ⟨N, hN⟩ : ∃ N, (cl.getD i []).length = N := ⟨_, rfl⟩
      obtain ⟨R, hR⟩ : ∃ R, rdM cl = R := ⟨_, rfl⟩
      have HN := hid hN
      rw [hN] at ci
      simp only [hR]
      by_cases q : N = R
      · have HS2 := hid (show wtTo cl (rdM cl) (i + 1) = L ++ [i] by rw [HS.out, hN, hR, if_pos q])
        have q1 : ((N : Int) == (R : Int)) = true := by simp [q]
        rw [hR] at HS2
        have p1 : Seg (wr.alloc (.cells #[.int .i64 (i : Int)] 3)) (.slice (some ⟨wr.heap.size, 0, none⟩) 1 1) 1 1 [.int .i64 (i : Int)] := seg_one (heap_alloc_new wr _)
        have p2 := ho.alloc (.cells #[.int .i64 (i : Int)] 3)
        have p3 : w.heap.size ≤ (wr.alloc (.cells #[.int .i64 (i : Int)] 3)).heap.size := by have := Ei.size'; simp; omega
        clear hN hR e1 HS q
        go_wp2_with (first | (at_builtin; refine (wpList_app rfl _ _ 29 rfl w.heap.size 3 (.int .i64 0) 1 8 Tryd.underlying29 infoI rfl (by decide) _ L.length (cN L) rfl p2 _ 1 [.int .i64 (i : Int)] rfl p1 (one_int _) (by omega) (by unfold maxLen; omega) p3 ?_); intro v' w9 ho' hg))
        go_roundw
        case rel => exact ⟨i + 1, by omega, by go_num, by rw [HS2.out, List.length_append, cN_app]; exact ho', (Ei.alloc _).grown hg (fun k hk => own_ge p2 k hk)⟩
        case measure => simp [intOf] <;> omega
      · have HS2 := hid (show wtTo cl (rdM cl) (i + 1) = L by rw [HS.out, hN, hR, if_neg q, List.append_nil])
        have q1 : ((N : Int) == (R : Int)) = false := by simp; omega
        rw [hR] at HS2
        clear hN hR e1 HS q
        go_wp2
        go_roundw
        case rel => exact ⟨i + 1, by omega, by go_num, by rw [HS2.out]; exact ho, Ei⟩
        case measure => simp [intOf] <;> omega
    · obtain rfl : i = cl.length := by omega
      go_wp2
      go_ret
      exact ⟨_, rfl, ho, Ei⟩
end Go.Proofs.YtddghaoejnbkaaaDoor
