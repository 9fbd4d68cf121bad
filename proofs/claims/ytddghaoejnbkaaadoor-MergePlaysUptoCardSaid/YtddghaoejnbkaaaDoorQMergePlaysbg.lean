/- Contracts and lemmas for the proof of MergePlays; each theorem states its own conditions. -/
import Derived.Test.YtddghaoejnbkaaaDoorQMergePlaysbf
import Derived.Test.YtddghaoejnbkaaaDoorQMergePlaysas
set_option linter.unusedVariables false
set_option linter.unusedSimpArgs false
/- Contracts and lemmas for the proofs of this seat; each theorem states its own conditions. -/
namespace Go.Proofs.YtddghaoejnbkaaaDoor
open Go.RowKit
/-! roref.Merge: Waits -/
def rwTo (bs : List (List Bat)) (R : Nat) : Nat → List Nat
  | 0 => []
  | i + 1 => rwTo bs R i ++ (if (bs.getD i []).length - 1 ≤ R then [i] else [])
theorem rw_len (bs : List (List Bat)) (R : Nat) : ∀ i, (rwTo bs R i).length ≤ i
  | 0 => Nat.le_refl _
  | i + 1 => by
    have := rw_len bs R i
    rw [rwTo, List.length_append]
    split <;> simp <;> omega
theorem rw_eq {cl : List (List Bat)} (op : List Bat) : ∀ {k : Nat}, k ≤ cl.length → rwTo (batM cl op) (rdM cl) k = wtTo cl (rdM cl) k
  | 0, _ => rfl
  | k + 1, hk => by
    have ih := rw_eq (cl := cl) op (k := k) (by omega)
    have hle : rdM cl ≤ (cl.getD k []).length := rdM_le (by omega)
    rw [rwTo, wtTo, ih, batM_at op (show k < cl.length by omega), batR_len]
    congr 1
    by_cases h : (cl.getD k []).length = rdM cl
    · rw [if_pos h, if_pos (show (cl.getD k []).length + 1 - 1 ≤ rdM cl by omega)]
    · rw [if_neg h, if_neg (show ¬ (cl.getD k []).length + 1 - 1 ≤ rdM cl by omega)]
set_option maxRecDepth 100000 in
set_option maxHeartbeats 2000000 in
theorem rmwaits_any {w : World} {S P : Nat → Prop} {bm : Nat} {bs : List (List Bat)} (h : RMS w S P bm bs) :
    Calls Tryd.prog 16 #[.pointer (some ⟨bm, 0, none⟩)] w fun e w' => ∃ v', e = .returned v' ∧ w'.ownsRow w.heap.size 3 1 v' (rwTo bs (rrTo bs bs.length) bs.length).length (cN (rwTo bs (rrTo bs bs.length) bs.length)) ∧ Ext w w' := by
  have MR := hid (fun w' (q : Ext w w') => rmrounds_any (h.ext q))
  obtain ⟨vB, us, h⟩ := h
  have hb := blk1 h.box
  have h4 := h.n4
  have H := hid h
  obtain ⟨a, c, rfl⟩ := own_form h.outer
  obtain ⟨b, off, rfl, _, p1, p2, hcs⟩ := seg_cells (own_seg h.outer) (by have := h.ln; have := h.n0; omega)
  unfold maxLen at p2
  have HC := hid hcs
  have hl := h.ln
  rw [hl] at hb p1
  have HLN := hid hl
  obtain ⟨R, hR⟩ : ∃ R, rrTo bs bs.length = R := ⟨_, rfl⟩
  rw [hR] at MR ⊢
  clear h hl hcs hR
  go_enter Tryd.func16, Tryd.ntmps16
  go_wp2_with fail
  go_loopw [3, 4, 5, 11] (fun ov _ _ iv wr => ∃ i : Nat, i ≤ bs.length ∧ iv = .int .i64 i ∧ wr.ownsRow w.heap.size 3 1 ov (rwTo bs R i).length (cN (rwTo bs R i)) ∧ Ext w wr) (fun _ _ _ iv _ => bs.length - (intOf iv).toNat)
  case atStart => exact ⟨0, Nat.zero_le _, rfl, World.ownsRow_nil _ _ _ _, Ext.refl _⟩
  case round =>
    obtain ⟨wq, rfl⟩ : ∃ wq : World, wq = wr := ⟨_, rfl⟩
    obtain ⟨i, hi, rfl, ho, Ei⟩ := hrel
    obtain ⟨ao, ko, rfl⟩ := own_form ho
    by_cases hil : i < bs.length
    · have hiu : i < us.length := by have := HLN.out; omega
      have c1 := Ei.cell (HC.out i us[i] (List.getElem?_eq_getElem hiu))
      obtain ⟨ts, t1, _, t3, t4, _⟩ := H.out.rows i us[i] bs[i] (List.getElem?_eq_getElem hiu) (List.getElem?_eq_getElem hil)
      have hg : (bs.getD i []).length = (bs[i]).length := by simp [hil]
      generalize us[i] = u at c1 t1
      obtain ⟨a2, c2, rfl⟩ := own_form t1
      have hln := rw_len bs R i
      have HS := hid (show rwTo bs R (i + 1) = rwTo bs R i ++ (if bs[i].length - 1 ≤ R then [i] else []) by rw [rwTo, hg])
      have MR1 := hid (MR.out wq Ei)
      generalize rwTo bs R i = L at ho hln HS
      generalize bs[i].length = m at *
      clear t1 hg
      by_cases q : m - 1 ≤ R
      · have HS2 := hid (show rwTo bs R (i + 1) = L ++ [i] by rw [HS.out, if_pos q])
        have q1 : ((m : Int) - 1 ≤ (R : Int)) := by omega
        have p1 : Seg (wq.alloc (.cells #[.int .i64 (i : Int)] 3)) (.slice (some ⟨wq.heap.size, 0, none⟩) 1 1) 1 1 [.int .i64 (i : Int)] := seg_one (heap_alloc_new wq _)
        have p2' := ho.alloc (.cells #[.int .i64 (i : Int)] 3)
        have p3 : w.heap.size ≤ (wq.alloc (.cells #[.int .i64 (i : Int)] 3)).heap.size := by have := Ei.size'; simp; omega
        clear HS q
        go_wp2_with fail
        refine (MR1.out).mono ?_
        clear MR1
        rintro e w1 ⟨rfl, rfl⟩
        go_wp2_with (first | (at_builtin; refine (wpList_app rfl _ _ 29 rfl w.heap.size 3 (.int .i64 0) 1 8 Tryd.underlying29 infoI rfl (by decide) _ L.length (cN L) rfl p2' _ 1 [.int .i64 (i : Int)] rfl p1 (one_int _) (by omega) (by unfold maxLen; omega) p3 ?_); intro v' w9 ho' hg))
        go_roundw
        case rel => exact ⟨i + 1, by omega, by go_num, by rw [HS2.out, List.length_append, cN_app]; exact ho', (Ei.alloc _).grown hg (fun k hk => own_ge p2' k hk)⟩
        case measure => simp [intOf] <;> omega
      · have HS2 := hid (show rwTo bs R (i + 1) = L by rw [HS.out, if_neg q, List.append_nil])
        have q1 : ¬ ((m : Int) - 1 ≤ (R : Int)) := by omega
        clear HS q
        go_wp2_with fail
        refine (MR1.out).mono ?_
        clear MR1
        rintro e w1 ⟨rfl, rfl⟩
        go_wp2
        go_roundw
        case rel => exact ⟨i + 1, by omega, by go_num, by rw [HS2.out]; exact ho, Ei⟩
        case measure => simp [intOf] <;> omega
    · obtain rfl : i = bs.length := by omega
      go_wp2
      go_ret
      exact ⟨_, rfl, ho, Ei⟩
end Go.Proofs.YtddghaoejnbkaaaDoor
