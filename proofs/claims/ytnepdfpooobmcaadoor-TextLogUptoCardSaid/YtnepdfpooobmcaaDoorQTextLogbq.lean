/- Contracts and lemmas for the proof of TextLog; each theorem states its own conditions. -/
import Derived.Test.YtnepdfpooobmcaaDoorQTextLogbp
import Derived.Test.YtnepdfpooobmcaaDoorQTextLogan
import Derived.Test.YtnepdfpooobmcaaDoorQTextLogal
set_option linter.unusedVariables false
set_option linter.unusedSimpArgs false
/- Contracts and lemmas for the proofs of this seat; each theorem states its own conditions. -/
namespace Go.Proofs.YtnepdfpooobmcaaDoor
open Go.RowKit
/-! rokeep.entries, roref.SameEntry -/
def entsTo (D : List Ops) (ms : List (List Int)) : Nat → List Ent
  | 0 => []
  | i + 1 => entsTo D ms i ++ ⟨D.getD i [], false, [], []⟩ :: (if i < ms.length then [⟨[], true, mkC (ms.getD i []) 6, mkO (ms.getD i []) 6⟩] else [])
theorem entsTo_len (D : List Ops) (ms : List (List Int)) : ∀ k, (entsTo D ms k).length ≤ 2 * k
  | 0 => by simp [entsTo]
  | k + 1 => by
    have := entsTo_len D ms k
    rw [entsTo, List.length_append, List.length_cons]
    split <;> simp <;> omega
theorem LogB.base {w w1 : World} {X : List Ent} {v : Value} {a : World} (h : LogB w.heap.size w1 X v a) (E : Ext w w1) : LogR w X v a := by
  obtain ⟨es, h1, h2, h3⟩ := h
  exact ⟨es, h1, own_base h2 E.size', E.trans h3⟩
set_option maxRecDepth 100000 in
set_option maxHeartbeats 4000000 in
theorem entries_any (v v2 : Value) (ls ms : List (List Int)) (w : World) (hv : SegLL w v ls) (hv2 : SegLL w v2 ms) (hb2 : ∀ m ∈ ms, ∀ z ∈ m, -9223372036854775808 ≤ z ∧ z ≤ 9223372036854775807) :
    Calls Tryd.prog 23 #[v, v2] w fun e w' => ∃ v' D, e = .returned v' ∧ (∀ d ∈ D, DeedG d) ∧ D.length ≤ 12 ∧ LogR w (entsTo D ms D.length) v' w' := by
  obtain ⟨us2, hu2, ⟨h0, a2, k2, rfl, q1, q2, q3⟩, q4⟩ := hv2
  unfold maxLen at q2
  have H3 := hid q3
  have H4 := hid q4
  rw [hu2] at q1 h0 H3 ⊢
  have HU2 := hid hu2
  clear h0 q3 q4 hu2
  go_enter Tryd.func23, Tryd.ntmps23
  go_wp2_with fail
  refine (deeds_any _ ls 12 _ hv (by omega)).mono ?_
  rintro e w1 ⟨vD, us, D, rfl, hout, hds, hdg, hdl, E1⟩
  obtain ⟨aD, cD, rfl⟩ := own_form hout
  have hl := hds.len
  have HDS := hid hds
  rw [hl] at hout
  have HUS := hid hl
  simp only [hl]
  clear hl hds hv
  go_wp2_with fail
  go_loopw [5, 6, 7, 11] (fun ov _ _ iv wr => ∃ i : Nat, i ≤ D.length ∧ iv = .int .i64 i ∧ LogB w.heap.size w1 (entsTo D ms i) ov wr) (fun _ _ _ iv _ => D.length - (intOf iv).toNat)
  case atStart => exact ⟨0, Nat.zero_le _, rfl, [], EntsSt.nil _, World.ownsRow_nil _ _ _ _, Ext.refl _⟩
  case round =>
    obtain ⟨wq, rfl⟩ : ∃ wq : World, wq = wr := ⟨_, rfl⟩
    obtain ⟨i, hi, rfl, hlog⟩ := hrel
    by_cases hil : i < D.length
    · have Eq1 := hlog.E
      obtain ⟨bD, oD, rfl, _, p1, p2, hcD⟩ := seg_cells (own_seg hout) (by omega)
      unfold maxLen at p2
      have hul : i < us.length := by rw [HUS.out]; exact hil
      have cd := Eq1.cell (hcD i us[i] (List.getElem?_eq_getElem hul))
      have hod := own_ext (HDS.out.own i us[i] D[i] (List.getElem?_eq_getElem hul) (List.getElem?_eq_getElem hil)) Eq1
      have hlen := entsTo_len D ms i
      have HT := hid (show entsTo D ms (i + 1) = (entsTo D ms i ++ [⟨D[i], false, [], []⟩]) ++ (if i < ms.length then [⟨[], true, mkC (ms.getD i []) 6, mkO (ms.getD i []) 6⟩] else []) by rw [entsTo, getD_lt hil, List.append_assoc]; rfl)
      generalize D[i] = d at hod HT
      obtain ⟨ad, kd, e1⟩ := own_form hod
      rw [e1] at cd hod
      generalize entsTo D ms i = X at hlog hlen HT
      obtain ⟨av, kv, rfl⟩ := hlog.form
      have HLG := hid (hlog.ext ((Ext.refl wq).alloc (.cells #[.slice ad d.length kd] 35)))
      clear hcD e1 hlog
      have hod2 := hod.alloc (.cells #[.slice ad d.length kd] 35)
      obtain ⟨es, g1, g2, g3⟩ := HLG.out
      have G1 := hid g1
      have G3 := hid g3
      have hEn : EntSt w.heap.size (wq.alloc (.cells #[.slice ad d.length kd] 35)) (.slice ad d.length kd, false, .slice none 0 0, .slice none 0 0) ⟨d, false, [], []⟩ := ⟨hod2, rfl, World.ownsRow_nil _ _ _ _, World.ownsRow_nil _ _ _ _⟩
      have HEN := hid hEn
      have s1 : Seg ((wq.alloc (.cells #[.slice ad d.length kd] 35)).alloc (.cells #[.slice ad d.length kd, .bool false, .slice none 0 0, .slice none 0 0] 46)) (.slice (some ⟨(wq.alloc (.cells #[.slice ad d.length kd] 35)).heap.size, 0, none⟩) 1 1) 4 1 (evC (.slice ad d.length kd, false, .slice none 0 0, .slice none 0 0)) := seg_blk (heap_alloc_new _ _) rfl (Nat.le_refl _) (by simp [maxLen])
      have s2 := g2.alloc (.cells #[.slice ad d.length kd, .bool false, .slice none 0 0, .slice none 0 0] 46)
      have s3 : w1.heap.size ≤ ((wq.alloc (.cells #[.slice ad d.length kd] 35)).alloc (.cells #[.slice ad d.length kd, .bool false, .slice none 0 0, .slice none 0 0] 46)).heap.size := by have := g3.size'; simp at this ⊢; omega
      rw [show (wq.alloc (.cells #[.slice ad d.length kd] 35)).heap.size = wq.heap.size + 1 by simp] at s1
      have hone := hEn.one
      clear g1 g2 g3 hod hod2 hEn HLG
      by_cases hms : i < ms.length
      · have HTT := hid (show entsTo D ms (i + 1) = (X ++ [⟨d, false, [], []⟩]) ++ [⟨[], true, mkC (ms.getD i []) 6, mkO (ms.getD i []) 6⟩] by rw [HT.out, if_pos hms])
        obtain ⟨b2, o2, rfl, hc2⟩ := H3.out (by omega)
        have hul2 : i < us2.length := by rw [HU2.out]; exact hms
        have c2 := hc2 i us2[i] (List.getElem?_eq_getElem hul2)
        have sg := H4.out i us2[i] ms[i] (List.getElem?_eq_getElem hul2) (List.getElem?_eq_getElem hms)
        have hbm := hb2 ms[i] (List.getElem_mem hms)
        rw [getD_lt hms] at HTT
        generalize ms[i] = m at sg hbm HTT
        generalize us2[i] = u2 at c2 sg
        have SG := hid sg
        have HBM := hid hbm
        have C2 := hid c2
        clear hc2 sg hbm c2
        go_wp2_with (first | (at_builtin; refine (wpList_app rfl _ _ 57 rfl w1.heap.size 46 (.agg #[.slice none 0 0, .bool false, .slice none 0 0, .slice none 0 0]) 4 80 Tryd.underlying57 infoEn rfl (by decide) _ X.length (cEn es) rfl s2 _ 1 _ rfl s1 hone (by omega) (by unfold maxLen; omega) s3 ?_); intro v' w9 ho' hg; obtain ⟨av9, kv9, rfl⟩ := own_form ho'); have E9 := (E1.trans (G3.out.alloc (.cells #[.slice ad d.length kd, .bool false, .slice none 0 0, .slice none 0 0] 46))).grown hg (fun k hk => Nat.le_trans E1.size' (own_ge s2 k hk)); have c9 := E9.cell C2.out)
        have HN := hid (log_step (G1.out.ext ((Ext.refl _).alloc _)) s2 (G3.out.alloc _) (HEN.out.ext ((Ext.refl _).alloc _)) ho' hg)
        refine (kMap_any _ m _ (SG.out.ext E9) HBM.out).mono ?_
        rintro e w10 ⟨v10, rfl, om, E10⟩
        obtain ⟨p4, p5, rfl, o4, o5⟩ := om
        obtain ⟨a4, k4, rfl⟩ := own_form o4
        obtain ⟨a5, k5, rfl⟩ := own_form o5
        have HL := hid (HN.out.ext E10)
        obtain ⟨es2, g1, g2, g3⟩ := HL.out
        have G12 := hid g1
        have G32 := hid g3
        have hEn : EntSt w.heap.size w10 (.slice none 0 0, true, .slice a4 (mkC m 6).length k4, .slice a5 (mkO m 6).length k5) ⟨[], true, mkC m 6, mkO m 6⟩ := ⟨World.ownsRow_nil _ _ _ _, rfl, own_base o4 (Nat.le_trans E1.size' HN.out.E.size'), own_base o5 (Nat.le_trans E1.size' HN.out.E.size')⟩
        have HEN2 := hid hEn
        have t1 : Seg (w10.alloc (.cells #[.slice none 0 0, .bool true, .slice a4 (mkC m 6).length k4, .slice a5 (mkO m 6).length k5] 46)) (.slice (some ⟨w10.heap.size, 0, none⟩) 1 1) 4 1 (evC (.slice none 0 0, true, .slice a4 (mkC m 6).length k4, .slice a5 (mkO m 6).length k5)) := seg_blk (heap_alloc_new _ _) rfl (Nat.le_refl _) (by simp [maxLen])
        have t2 := g2.alloc (.cells #[.slice none 0 0, .bool true, .slice a4 (mkC m 6).length k4, .slice a5 (mkO m 6).length k5] 46)
        have t3 : w1.heap.size ≤ (w10.alloc (.cells #[.slice none 0 0, .bool true, .slice a4 (mkC m 6).length k4, .slice a5 (mkO m 6).length k5] 46)).heap.size := by have := g3.size'; simp; omega
        have hone2 := hEn.one
        have hln2 : (X ++ [(⟨d, false, [], []⟩ : Ent)]).length = X.length + 1 := by simp
        rw [hln2] at t2
        clear g1 g2 g3 hEn o4 o5 E10 E9 c9 hg ho'
        go_wp2_with (first | (at_builtin; refine (wpList_app rfl _ _ 57 rfl w1.heap.size 46 (.agg #[.slice none 0 0, .bool false, .slice none 0 0, .slice none 0 0]) 4 80 Tryd.underlying57 infoEn rfl (by decide) _ (X.length + 1) (cEn es2) rfl t2 _ 1 _ rfl t1 hone2 (by omega) (by unfold maxLen; omega) t3 ?_); intro v' w11 ho' hg))
        have HN2 := hid (log_step (G12.out.ext ((Ext.refl _).alloc _)) (by rw [hln2]; exact t2) (G32.out.alloc _) (HEN2.out.ext ((Ext.refl _).alloc _)) (by rw [hln2]; exact ho') hg)
        go_roundw
        case rel => exact ⟨i + 1, by omega, by go_num, by rw [HTT.out]; exact HN2.out⟩
        case measure => simp [intOf] <;> omega
      · have HTT := hid (show entsTo D ms (i + 1) = X ++ [⟨d, false, [], []⟩] by rw [HT.out, if_neg hms, List.append_nil])
        go_wp2_with (first | (at_builtin; refine (wpList_app rfl _ _ 57 rfl w1.heap.size 46 (.agg #[.slice none 0 0, .bool false, .slice none 0 0, .slice none 0 0]) 4 80 Tryd.underlying57 infoEn rfl (by decide) _ X.length (cEn es) rfl s2 _ 1 _ rfl s1 hone (by omega) (by unfold maxLen; omega) s3 ?_); intro v' w9 ho' hg; obtain ⟨av9, kv9, rfl⟩ := own_form ho'))
        have HN := hid (log_step (G1.out.ext ((Ext.refl _).alloc _)) s2 (G3.out.alloc _) (HEN.out.ext ((Ext.refl _).alloc _)) ho' hg)
        go_roundw
        case rel => exact ⟨i + 1, by omega, by go_num, by rw [HTT.out]; exact HN.out⟩
        case measure => simp [intOf] <;> omega
    · obtain rfl : i = D.length := by omega
      go_wp2
      go_ret
      exact ⟨_, D, rfl, hdg, hdl, hlog.base E1⟩
end Go.Proofs.YtnepdfpooobmcaaDoor
