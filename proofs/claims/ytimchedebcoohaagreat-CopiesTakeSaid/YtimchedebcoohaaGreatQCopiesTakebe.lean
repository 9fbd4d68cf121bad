/- Contracts and lemmas for the proof of CopiesTake; each theorem states its own conditions. -/
import Derived.Test.YtimchedebcoohaaGreatQCopiesTakeap
import Derived.Test.YtimchedebcoohaaGreatQCopiesTakeaq
import Derived.Test.YtimchedebcoohaaGreatQCopiesTakebc
import Derived.Test.YtimchedebcoohaaGreatQCopiesTakebd
import Derived.Test.YtimchedebcoohaaGreatQCopiesTakeav
set_option linter.unusedVariables false
set_option linter.unusedSimpArgs false
/- Contracts and lemmas for the proofs of this seat; each theorem states its own conditions. -/
namespace Go.Proofs.YtimchedebcoohaaGreat
open Go.RowKit
/-- what the row tells of a slice of slices of numbers, as mine -/
theorem segll_of_rows {w : World} {base : Nat} {x : Addr} {len cap : Nat} {A : Nat → Option Addr} {L C : Nat → Nat} {Z : Nat → List Int} (hl : len ≤ cap) (hm : cap ≤ maxLen)
    (h : ∀ r, r < cap → w.cell? (x.add r) = some (.slice (A r) (L r) (C r)) ∧ L r ≤ C r ∧ C r ≤ maxLen ∧ (Z r).length = C r ∧ (∀ n ∈ Z r, (Lit.int .i64 n).wf = true) ∧ (A r = none → C r = 0) ∧
        ∀ a', A r = some a' → base ≤ a'.block ∧ ∀ c, c < C r → w.cell? (a'.add c) = some (.int .i64 ((Z r).getD c 0))) :
    ∃ ls : List (List Int), SegLL w (.slice (some x) len cap) ls ∧ ls.length = len ∧ ∀ l ∈ ls, ∀ z ∈ l, -9223372036854775808 ≤ z ∧ z ≤ 9223372036854775807 := by
  have row : ∀ r, r < cap → Seg w (.slice (A r) (L r) (C r)) 1 ((Z r).take (L r)).length (cI ((Z r).take (L r))) ∧ ∀ z ∈ (Z r).take (L r), -9223372036854775808 ≤ z ∧ z ≤ 9223372036854775807 := fun r hr => by
    obtain ⟨h1, h2, h3, h4, h5, h6, h7⟩ := h r hr
    have hrow := seg_of_row (w := w) (a := A r) (len := L r) (cap := C r) (zs := Z r) (by
      cases ha : A r with
      | none =>
        have := h6 ha
        left
        exact ⟨rfl, by omega, this, List.eq_nil_of_length_eq_zero (by omega)⟩
      | some a' =>
        right
        exact ⟨a', rfl, h2, h3, h4, fun i hi => (h7 a' ha).2 i (by omega), h5⟩)
    exact ⟨hrow.1, hrow.2.1⟩
  refine ⟨(List.range len).map fun r => (Z r).take (L r), ⟨(List.range len).map fun r => .slice (A r) (L r) (C r), by simp, ⟨by simp, some x, cap, by simp, by simpa using hl, hm, fun hn => ?_⟩, fun i u m hu hm' => ?_⟩, by simp, fun l hl' z hz => ?_⟩
  · simp at hn
    have hs := cell_spot (h 0 (by omega)).1
    obtain ⟨b, off, sp⟩ := x
    have : sp = none := by simpa [Addr.add] using hs
    subst this
    refine ⟨b, off, rfl, fun j u hu => ?_⟩
    rw [← addr_add]
    obtain ⟨hj, e⟩ := List.getElem?_eq_some_iff.1 hu
    simp at hj e
    subst e
    exact (h j (by omega)).1
  · obtain ⟨hj, e⟩ := List.getElem?_eq_some_iff.1 hu
    obtain ⟨_, e'⟩ := List.getElem?_eq_some_iff.1 hm'
    simp at hj e e'
    subst e; subst e'
    exact (row i (by omega)).1
  · simp at hl'
    obtain ⟨r, hr, rfl⟩ := hl'
    exact (row r (by omega)).2 z hz
theorem segll_nil (w : World) : SegLL w (.slice none 0 0) [] := ⟨[], rfl, Seg.nil _ _, fun i u m h => by simp at h⟩
theorem seg_rows {w : World} {a : Option Addr} {len cap : Nat} {zs : List Int} (h : (a = none ∧ len = 0 ∧ cap = 0 ∧ zs = []) ∨
    ∃ x, a = some x ∧ len ≤ cap ∧ cap ≤ maxLen ∧ zs.length = cap ∧ (∀ i, i < zs.length → w.cell? (x.add i) = some (.int .i64 (zs.getD i 0))) ∧ ∀ n ∈ zs, (Lit.int .i64 n).wf = true) :
    ∃ l : List Int, Seg w (.slice a len cap) 1 l.length (cI l) ∧ ∀ z ∈ l, -9223372036854775808 ≤ z ∧ z ≤ 9223372036854775807 := ⟨_, (seg_of_row h).1, (seg_of_row h).2.1⟩
end Go.Proofs.YtimchedebcoohaaGreat

/- Contracts and lemmas for the proofs of this seat; each theorem states its own conditions. -/
namespace Go.Proofs.YtimchedebcoohaaGreat
open Go.RowKit
/-! rokeep.entries, roref.SameEntry -/
def entsTo (D : List Ops) (ms : List (List Int)) : Nat → List Ent
  | 0 => []
  | i + 1 => entsTo D ms i ++ ⟨D.getD i [], false, [], []⟩ :: (if i < ms.length then [⟨[], true, mkC (ms.getD i []) 6, mkO (ms.getD i []) 6⟩] else [])
theorem entsTo_len (D : List Ops) (ms : List (List Int)) : ∀ k, (entsTo D ms k).length ≤ 2 * k
  | 0 => by simp [entsTo]
  | k + 1 => by
    have := entsTo_len D ms k
    rw [entsTo, List.length_append, List.length_cons]
    split <;> simp <;> omega
theorem LogR.base {w w1 : World} {X : List Ent} {v : Value} {a : World} (h : LogR w1 X v a) (E : Ext w w1) : LogR w X v a := by
  obtain ⟨es, h1, h2, h3⟩ := h
  exact ⟨es, h1.low E.size', own_base h2 E.size', E.trans h3⟩
set_option maxRecDepth 100000 in
set_option maxHeartbeats 4000000 in
theorem entries_any (v v2 : Value) (ls ms : List (List Int)) (w : World) (hv : SegLL w v ls) (hv2 : SegLL w v2 ms) (hb2 : ∀ m ∈ ms, ∀ z ∈ m, -9223372036854775808 ≤ z ∧ z ≤ 9223372036854775807) :
    Calls Tryz.prog 59 #[v, v2] w fun e w' => ∃ v' D, e = .returned v' ∧ (∀ d ∈ D, DeedG d) ∧ D.length ≤ 12 ∧ LogR w (entsTo D ms D.length) v' w' := by
  obtain ⟨us2, hu2, ⟨h0, a2, k2, rfl, q1, q2, q3⟩, q4⟩ := hv2
  unfold maxLen at q2
  have H3 := hid q3
  have H4 := hid q4
  rw [hu2] at q1 h0 H3 ⊢
  have HU2 := hid hu2
  clear h0 q3 q4 hu2
  go_enter Tryz.func59, Tryz.ntmps59
  go_wp2_with fail
  refine (deeds_any _ ls 12 _ hv (by omega)).mono ?_
  rintro e w1 ⟨vD, us, D, rfl, hout, hds, hdg, hdl, E1⟩
  obtain ⟨aD, cD, rfl⟩ := own_form hout
  have hl := hds.len
  have HDS := hid hds
  rw [hl] at hout
  have HUS := hid hl
  simp only [hl]
  clear hl hds hv
  go_wp2_with fail
  go_loopw [5, 6, 7, 11] (fun ov _ _ iv wr => ∃ i : Nat, i ≤ D.length ∧ iv = .int .i64 i ∧ LogR w1 (entsTo D ms i) ov wr) (fun _ _ _ iv _ => D.length - (intOf iv).toNat)
  case atStart => exact ⟨0, Nat.zero_le _, rfl, [], EntsSt.nil _, World.ownsRow_nil _ _ _ _, Ext.refl _⟩
  case round =>
    obtain ⟨wq, rfl⟩ : ∃ wq : World, wq = wr := ⟨_, rfl⟩
    obtain ⟨i, hi, rfl, hlog⟩ := hrel
    by_cases hil : i < D.length
    · have Eq1 := hlog.E
      obtain ⟨bD, oD, rfl, _, p1, p2, hcD⟩ := seg_cells (own_seg hout) (by omega)
      unfold maxLen at p2
      have hul : i < us.length := by rw [HUS.out]; exact hil
      have cd := Eq1.cell (hcD i us[i] (List.getElem?_eq_getElem hul))
      have hod := own_ext (HDS.out.own i us[i] D[i] (List.getElem?_eq_getElem hul) (List.getElem?_eq_getElem hil)) Eq1
      have hlen := entsTo_len D ms i
      have HT := hid (show entsTo D ms (i + 1) = (entsTo D ms i ++ [⟨D[i], false, [], []⟩]) ++ (if i < ms.length then [⟨[], true, mkC (ms.getD i []) 6, mkO (ms.getD i []) 6⟩] else []) by rw [entsTo, getD_lt hil, List.append_assoc]; rfl)
      generalize D[i] = d at hod HT
      obtain ⟨ad, kd, e1⟩ := own_form hod
      rw [e1] at cd hod
      generalize entsTo D ms i = X at hlog hlen HT
      obtain ⟨av, kv, rfl⟩ := hlog.form
      have HLG := hid (hlog.ext ((Ext.refl wq).alloc (.cells #[.slice ad d.length kd] 29)))
      clear hcD e1 hlog
      have hod2 := hod.alloc (.cells #[.slice ad d.length kd] 29)
      obtain ⟨es, g1, g2, g3⟩ := HLG.out
      have G1 := hid g1
      have G3 := hid g3
      have hEn : EntSt w1.heap.size (wq.alloc (.cells #[.slice ad d.length kd] 29)) (.slice ad d.length kd, false, .slice none 0 0, .slice none 0 0) ⟨d, false, [], []⟩ := ⟨own_base hod2 (Nat.zero_le _), rfl, World.ownsRow_nil _ _ _ _, World.ownsRow_nil _ _ _ _⟩
      have HEN := hid hEn
      have s1 : Seg ((wq.alloc (.cells #[.slice ad d.length kd] 29)).alloc (.cells #[.slice ad d.length kd, .bool false, .slice none 0 0, .slice none 0 0] 94)) (.slice (some ⟨(wq.alloc (.cells #[.slice ad d.length kd] 29)).heap.size, 0, none⟩) 1 1) 4 1 (evC (.slice ad d.length kd, false, .slice none 0 0, .slice none 0 0)) := seg_blk (heap_alloc_new _ _) rfl (Nat.le_refl _) (by simp [maxLen])
      have s2 := g2.alloc (.cells #[.slice ad d.length kd, .bool false, .slice none 0 0, .slice none 0 0] 94)
      have s3 : w1.heap.size ≤ ((wq.alloc (.cells #[.slice ad d.length kd] 29)).alloc (.cells #[.slice ad d.length kd, .bool false, .slice none 0 0, .slice none 0 0] 94)).heap.size := by have := g3.size'; simp at this ⊢; omega
      rw [show (wq.alloc (.cells #[.slice ad d.length kd] 29)).heap.size = wq.heap.size + 1 by simp] at s1
      have hone := hEn.one
      clear g1 g2 g3 hod hod2 hEn HLG
      by_cases hms : i < ms.length
      · have HTT := hid (show entsTo D ms (i + 1) = (X ++ [⟨d, false, [], []⟩]) ++ [⟨[], true, mkC (ms.getD i []) 6, mkO (ms.getD i []) 6⟩] by rw [HT.out, if_pos hms])
        obtain ⟨b2, o2, rfl, hc2⟩ := H3.out (by omega)
        have hul2 : i < us2.length := by rw [HU2.out]; exact hms
        have c2 := hc2 i us2[i] (List.getElem?_eq_getElem hul2)
        have sg := H4.out i us2[i] ms[i] (List.getElem?_eq_getElem hul2) (List.getElem?_eq_getElem hms)
        have hbm := hb2 ms[i] (List.getElem_mem hms)
        rw [getD_lt hms] at HTT
        generalize ms[i] = m at sg hbm HTT
        generalize us2[i] = u2 at c2 sg
        have SG := hid sg
        have HBM := hid hbm
        have C2 := hid c2
        clear hc2 sg hbm c2
        go_wp2_with (first | (at_builtin; refine (wpList_app rfl _ _ 103 rfl w1.heap.size 94 (.agg #[.slice none 0 0, .bool false, .slice none 0 0, .slice none 0 0]) 4 80 Tryz.underlying103 infoEn rfl (by decide) _ X.length (cEn es) rfl s2 _ 1 _ rfl s1 hone (by omega) (by unfold maxLen; omega) s3 ?_); intro v' w9 ho' hg; obtain ⟨av9, kv9, rfl⟩ := own_form ho'); have E9 := (E1.trans (G3.out.alloc (.cells #[.slice ad d.length kd, .bool false, .slice none 0 0, .slice none 0 0] 94))).grown hg (fun k hk => Nat.le_trans E1.size' (own_ge s2 k hk)); have c9 := E9.cell C2.out)
        have HN := hid (log_step (G1.out.ext ((Ext.refl _).alloc _)) s2 (G3.out.alloc _) (HEN.out.ext ((Ext.refl _).alloc _)) ho' hg)
        refine (kMap_any _ m _ (SG.out.ext E9) HBM.out).mono ?_
        rintro e w10 ⟨v10, rfl, om, E10⟩
        obtain ⟨p4, p5, rfl, o4, o5⟩ := om
        obtain ⟨a4, k4, rfl⟩ := own_form o4
        obtain ⟨a5, k5, rfl⟩ := own_form o5
        have HL := hid (HN.out.ext E10)
        obtain ⟨es2, g1, g2, g3⟩ := HL.out
        have G12 := hid g1
        have G32 := hid g3
        have hEn : EntSt w1.heap.size w10 (.slice none 0 0, true, .slice a4 (mkC m 6).length k4, .slice a5 (mkO m 6).length k5) ⟨[], true, mkC m 6, mkO m 6⟩ := ⟨World.ownsRow_nil _ _ _ _, rfl, own_base o4 (Nat.zero_le _), own_base o5 HN.out.E.size'⟩
        have HEN2 := hid hEn
        have t1 : Seg (w10.alloc (.cells #[.slice none 0 0, .bool true, .slice a4 (mkC m 6).length k4, .slice a5 (mkO m 6).length k5] 94)) (.slice (some ⟨w10.heap.size, 0, none⟩) 1 1) 4 1 (evC (.slice none 0 0, true, .slice a4 (mkC m 6).length k4, .slice a5 (mkO m 6).length k5)) := seg_blk (heap_alloc_new _ _) rfl (Nat.le_refl _) (by simp [maxLen])
        have t2 := g2.alloc (.cells #[.slice none 0 0, .bool true, .slice a4 (mkC m 6).length k4, .slice a5 (mkO m 6).length k5] 94)
        have t3 : w1.heap.size ≤ (w10.alloc (.cells #[.slice none 0 0, .bool true, .slice a4 (mkC m 6).length k4, .slice a5 (mkO m 6).length k5] 94)).heap.size := by have := g3.size'; simp; omega
        have hone2 := hEn.one
        have hln2 : (X ++ [(⟨d, false, [], []⟩ : Ent)]).length = X.length + 1 := by simp
        rw [hln2] at t2
        clear g1 g2 g3 hEn o4 o5 E10 E9 c9 hg ho'
        go_wp2_with (first | (at_builtin; refine (wpList_app rfl _ _ 103 rfl w1.heap.size 94 (.agg #[.slice none 0 0, .bool false, .slice none 0 0, .slice none 0 0]) 4 80 Tryz.underlying103 infoEn rfl (by decide) _ (X.length + 1) (cEn es2) rfl t2 _ 1 _ rfl t1 hone2 (by omega) (by unfold maxLen; omega) t3 ?_); intro v' w11 ho' hg))
        have HN2 := hid (log_step (G12.out.ext ((Ext.refl _).alloc _)) (by rw [hln2]; exact t2) (G32.out.alloc _) (HEN2.out.ext ((Ext.refl _).alloc _)) (by rw [hln2]; exact ho') hg)
        go_roundw
        case rel => exact ⟨i + 1, by omega, by go_num, by rw [HTT.out]; exact HN2.out⟩
        case measure => simp [intOf] <;> omega
      · have HTT := hid (show entsTo D ms (i + 1) = X ++ [⟨d, false, [], []⟩] by rw [HT.out, if_neg hms, List.append_nil])
        go_wp2_with (first | (at_builtin; refine (wpList_app rfl _ _ 103 rfl w1.heap.size 94 (.agg #[.slice none 0 0, .bool false, .slice none 0 0, .slice none 0 0]) 4 80 Tryz.underlying103 infoEn rfl (by decide) _ X.length (cEn es) rfl s2 _ 1 _ rfl s1 hone (by omega) (by unfold maxLen; omega) s3 ?_); intro v' w9 ho' hg; obtain ⟨av9, kv9, rfl⟩ := own_form ho'))
        have HN := hid (log_step (G1.out.ext ((Ext.refl _).alloc _)) s2 (G3.out.alloc _) (HEN.out.ext ((Ext.refl _).alloc _)) ho' hg)
        go_roundw
        case rel => exact ⟨i + 1, by omega, by go_num, by rw [HTT.out]; exact HN.out⟩
        case measure => simp [intOf] <;> omega
    · obtain rfl : i = D.length := by omega
      go_wp2
      go_ret
      exact ⟨_, D, rfl, hdg, hdl, hlog.base E1⟩
end Go.Proofs.YtimchedebcoohaaGreat
