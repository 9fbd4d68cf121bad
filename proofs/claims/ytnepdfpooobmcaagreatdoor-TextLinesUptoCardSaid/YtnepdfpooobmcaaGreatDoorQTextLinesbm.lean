/- Contracts and lemmas for the proof of TextLines; each theorem states its own conditions. -/
import Derived.Test.YtnepdfpooobmcaaGreatDoorQTextLinesbj
import Derived.Test.YtnepdfpooobmcaaGreatDoorQTextLinesbl
import Derived.Test.YtnepdfpooobmcaaGreatDoorQTextLinesbf
import Derived.Test.YtnepdfpooobmcaaGreatDoorQTextLinesaw
set_option linter.unusedVariables false
set_option linter.unusedSimpArgs false
/- Contracts and lemmas for the proofs of this seat; each theorem states its own conditions. -/
namespace Go.Proofs.YtnepdfpooobmcaaGreatDoor
open Go.RowKit
/-! roref.ReadMap -/
theorem cut_F (c : UInt8) (l : List UInt8) : Lib.cut l [c] = match cutF c l with | none => (l, [], false) | some p => (p.1, p.2, true) := by
  cases h : cutF c l with
  | none =>
    have e : Lib.index l [c] = -1 := by rw [Lib.index_one]; exact ixb_no (cutF_none h)
    simp [Lib.cut, e]
  | some p =>
    obtain ⟨a, r⟩ := p
    obtain ⟨e1, e2⟩ := cutF_some h
    have e : Lib.index l [c] = (a.length : Int) := by rw [Lib.index_one, e1]; exact ixb_at e2
    rw [e1] at e ⊢
    simp only [Lib.cut, e]
    simp
theorem psp_F (c : UInt8) (l : List UInt8) : psp c l = match cutF c l with | none => [l] | some p => p.1 :: psp c p.2 := by
  cases h : cutF c l with
  | none => exact psp_none (cutF_none h)
  | some p =>
    obtain ⟨a, r⟩ := p
    obtain ⟨e1, e2⟩ := cutF_some h
    rw [e1]
    exact psp_app e2 r
/-- the pieces that are still to come -/
def pcR (c : UInt8) (l : List UInt8) : List ByteArray := (psp c l).map bA
theorem pcR_pcs (s : ByteArray) (c : UInt8) : pcs s c = pcR c s.data.toList := by
  rw [pcR, ← pcs_psp, List.map_map]
  have : (bA ∘ fun x : ByteArray => x.data.toList) = id := by funext x; exact bA_data x
  rw [this, List.map_id]
/-- what Cut makes of what is left: a piece, the rest, whether there is more -/
theorem cut_step (c : UInt8) (l : List UInt8) : ∃ (a r : List UInt8) (more : Bool), Lib.cut l [c] = (a, r, more) ∧ pcR c l = bA a :: (if more then pcR c r else []) ∧ a.length ≤ l.length ∧ (more = true → r.length < l.length) := by
  rw [cut_F]
  unfold pcR
  rw [psp_F c l]
  cases h : cutF c l with
  | none => exact ⟨l, [], false, rfl, rfl, Nat.le_refl _, fun q => by cases q⟩
  | some p =>
    obtain ⟨a, r⟩ := p
    obtain ⟨e1, e2⟩ := cutF_some h
    refine ⟨a, r, true, rfl, rfl, ?_, fun _ => ?_⟩ <;> rw [e1] <;> simp <;> omega
/-- how much is left, by the slots -/
def leftM (sv more : Value) : Nat := match sv, more with | .string t, .bool true => t.size + 1 | _, _ => 0
set_option maxRecDepth 100000 in
set_option maxHeartbeats 4000000 in
theorem rreadmap_any (s : ByteArray) (w : World) (L : LaidT w) (hs : s.size ≤ 4000000000) :
    Calls Tryz.prog 17 #[.string s] w fun e w' => ∃ v', e = .returned (.tuple #[v', .int .i64 (mapRd s).1]) ∧ OwnMap w' w.heap.size v' (mapRd s).2.1 (mapRd s).2.2 ∧ Ext w w' := by
  have E0 := ((Ext.refl w).alloc (.cells #[.slice none 0 0, .slice none 0 0] 28)).alloc (.cells #[.slice none 0 0, .slice none 0 0] 28)
  have b2 := heap_1 w (.cells #[.slice none 0 0, .slice none 0 0] 28) (.cells #[.slice none 0 0, .slice none 0 0] 28)
  have b4 := heap_2 w (.cells #[.slice none 0 0, .slice none 0 0] 28) (.cells #[.slice none 0 0, .slice none 0 0] 28)
  have HL := hid L
  have HRD := hid (show mapRd s = (match rdm false (pcs s 58) with | none => (9, [], []) | some (C, O) => if mapErr C O = 0 then (0, C, O) else (mapErr C O, [], [])) from rfl)
  rw [pcR_pcs] at HRD
  obtain ⟨P, hP⟩ : ∃ P, pcR 58 s.data.toList = P := ⟨_, rfl⟩
  rw [hP] at HRD
  obtain ⟨w1, hw1⟩ : ∃ w1 : World, (w.alloc (.cells #[.slice none 0 0, .slice none 0 0] 28)).alloc (.cells #[.slice none 0 0, .slice none 0 0] 28) = w1 := ⟨_, rfl⟩
  rw [hw1] at E0 b2 b4
  have hz : w1.heap.size = w.heap.size + 2 := by rw [← hw1]; simp
  have HI := hid (show RdI w1 w1 (w.heap.size + 1) (.slice none 0 0) (.slice none 0 0) [] [] from ⟨by omega, b4, World.ownsRow_nil _ _ _ _, World.ownsRow_nil _ _ _ _, World.grownBy.refl _ _⟩)
  have HE1 := hid E0
  have HB2 := hid b2
  have HP := hid hP
  have HW1 := hid hw1
  clear E0 b2 b4 L hP hw1
  go_enter Tryz.func17, Tryz.ntmps17
  go_wp2_with fail
  rw [HW1.out]
  go_loopw [0, 5, 6, 7, 8, 9] (fun sv nv mv _ _ _ wr => ∃ (k : Nat) (C : List ByteArray) (O : List Int) (cv ov : Value) (t : ByteArray) (more : Bool), C.length + O.length = k ∧ nv = .bool (!(k % 2 == 1)) ∧ sv = .string t ∧ mv = .bool more ∧ t.size ≤ s.size ∧ k + leftM (.string t) (.bool more) ≤ s.size + 1 ∧ Hid (rdm false P = (rdm (k % 2 == 1) (if more then pcR 58 t.data.toList else [])).map fun p => (C ++ p.1, O ++ p.2)) ∧ Hid (∀ c ∈ C, c.size ≤ s.size) ∧ Hid (RdI w1 wr (w.heap.size + 1) cv ov C O)) (fun sv _ mv _ _ _ _ => leftM sv mv)
  case atStart => exact ⟨0, [], [], _, _, s, true, rfl, rfl, rfl, rfl, Nat.le_refl _, by simp [leftM], hid (by rw [← HP.out]; simp), hid (by simp), HI⟩
  case round =>
    obtain ⟨wo, rfl⟩ : ∃ wo : World, wo = wr := ⟨_, rfl⟩
    obtain ⟨k, C, O, cv, ov, t, more, hCO, rfl, rfl, rfl, hts, hkm, hR, hC, hI⟩ := hrel
    clear HI HP HW1
    obtain ⟨ac, kc, e1⟩ := own_form hI.out.cuts
    obtain ⟨ao, ko, e2⟩ := own_form hI.out.own
    subst e1; subst e2
    have hEo := hid (hI.out.E HE1.out (by omega))
    have hwz := hI.out.gb.size
    cases more with
    | true =>
      have hkl : k + (t.size + 1) ≤ s.size + 1 := hkm
      obtain ⟨a, r, more', hcut, hpc, hal, hrl⟩ := cut_step 58 t.data.toList
      have CT := cut_any2 t 58 wo (HL.out.ext hEo.out) (by omega)
      rw [hcut] at CT
      have CT := hid CT
      have hR2 := hR.out
      rw [if_pos rfl, hpc] at hR2
      rw [toL_len] at hal hrl
      have hPk : (bA a).size ≤ s.size := by rw [bA_size]; omega
      have hrs : (bA r).size ≤ s.size ∧ k + 1 + leftM (.string (bA r)) (.bool more') ≤ s.size + 1 ∧ leftM (.string (bA r)) (.bool more') < t.size + 1 := by
        cases more' with
        | true =>
          have := hrl rfl
          show (bA r).size ≤ _ ∧ k + 1 + ((bA r).size + 1) ≤ _ ∧ (bA r).size + 1 < _
          rw [bA_size]; omega
        | false =>
          have hr0 : r = [] ∨ r.length ≤ t.size := by
            have h2 := hcut
            rw [cut_F] at h2
            split at h2
            · injection h2 with _ h2; injection h2 with h2 _; exact .inl h2.symm
            · injection h2 with _ h2; injection h2 with _ h2; cases h2
          show (bA r).size ≤ _ ∧ k + 1 + 0 ≤ _ ∧ 0 < _
          rw [bA_size]
          rcases hr0 with h | h
          · rw [h]; simp; omega
          · omega
      have HRS := hid hrs
      have htoR : (bA r).data.toList = r := bA_toL r
      have hR3 : rdm false P = (rdm (k % 2 == 1) (bA a :: (if more' then pcR 58 (bA r).data.toList else []))).map fun p => (C ++ p.1, O ++ p.2) := by rw [htoR]; exact hR2
      have HR3 := hid hR3
      generalize bA a = wk at *
      generalize bA r = rk at *
      have d0 := blk2 hI.out.box
      clear hcut hpc hal hrl hR2 hR3 htoR hrs hkm hR
      by_cases hodd : k % 2 = 1
      · have q1 : (k % 2 == 1) = true := by simp [hodd]
        have q2 : ((k + 1) % 2 == 1) = false := by simp; omega
        have HODD := hid hodd
        have Q2 := hid q2
        rw [q1]
        clear hodd q1 q2
        go_wp2_with fail
        refine (CT.out).mono ?_
        clear CT
        rintro e w5 ⟨rfl, E5⟩
        have hI5 := hid (hI.out.ext E5)
        have d0 := blk2 hI5.out.box
        have p1' : Seg (w5.alloc (.cells #[.string wk] 9)) (.slice (some ⟨w5.heap.size, 0, none⟩) 1 1) 1 1 [.string wk] := seg_one (heap_alloc_new w5 _)
        have HIA := hid (hI5.out.ext ((Ext.refl w5).alloc (.cells #[.string wk] 9)))
        have hcu := HIA.out.cuts
        have hsz : w1.heap.size ≤ (w5.alloc (.cells #[.string wk] 9)).heap.size := by have := E5.size'; simp; omega
        clear E5
        go_wp2_with (first | (at_builtin; refine (wpList_app rfl _ _ 25 rfl w1.heap.size 9 (.string ⟨#[]⟩) 1 16 Tryz.underlying25 infoS1 rfl (by decide) (.slice ac C.length kc) C.length (cS C) rfl hcu _ 1 [.string wk] rfl p1' (fun u hu => by simp only [List.mem_singleton] at hu; subst hu; rfl) (by omega) (by unfold maxLen; omega) hsz ?_); intro v' w9 ho' hg; obtain ⟨hbx, HN⟩ := HIA.out.cut ho' hg; have d9 := blk2 hbx; obtain ⟨a9, k9, e9⟩ := own_form ho'; subst e9))
        go_roundw
        case rel => exact ⟨k + 1, C ++ [wk], O, _, _, rk, more', by simp; omega, by rw [Q2.out]; rfl, rfl, rfl, HRS.out.1, HRS.out.2.1, hid (rdm_stepC HR3.out HODD.out), hid (fun c hc => by rcases List.mem_append.1 hc with h | h; exact hC.out c h; simp at h; subst h; exact hPk), hid HN⟩
        case measure => exact HRS.out.2.2
      · have q1 : (k % 2 == 1) = false := by simp; omega
        have q2 : ((k + 1) % 2 == 1) = true := by simp; omega
        have HODD := hid hodd
        have Q2 := hid q2
        rw [q1]
        clear hodd q1 q2
        have hb2o : wo.heap[w.heap.size]? = some (.cells #[.slice none 0 0, .slice none 0 0] 28 (0, 0)) := grown_heap hI.out.gb HB2.out (by intro e; injection e with e; omega)
        have HB2o := hid hb2o
        have NN := hid (fun w' => rnum_any wk w' (by omega))
        clear hb2o
        go_wp2_with fail
        refine (CT.out).mono ?_
        clear CT
        rintro e w5 ⟨rfl, E5⟩
        have hI5 := hid (hI.out.ext E5)
        have HB5 := hid (E5.heap HB2o.out)
        have hEo := hid (hEo.out.trans E5)
        have hwz5 := E5.size'
        clear hI E5 HB2o d0
        go_wp2_with fail
        refine (NN.out _).mono ?_
        clear NN
        rintro e w7 ⟨vn, okn, rfl, E7, hy, hno⟩
        cases hnum : numL wk.data.toList with
        | none =>
          obtain rfl := hno hnum
          have hX := rdm_stepX HR3.out HODD.out hnum
          have hrd := HRD.out
          rw [hX] at hrd
          simp only at hrd
          have HRR := hid hrd
          have hb7 := E7.heap HB5.out
          have d2 := blk2 hb7
          have rB := blk2 (blk2_set2 (u := .slice none 0 0) (v := .slice none 0 0) hb7)
          have HE7 := hid (hEo.out.trans E7)
          clear hnum hX hrd hy hno E7 HB5 hb7
          go_wp2
          exact bodyPost_ret (v := .tuple #[.agg #[.slice none 0 0, .slice none 0 0], .int .i64 9]) (by simp [results, Tryz.results17, go_sem, rB.1, rB.2.1]) rfl ⟨_, by rw [HRR.out], by rw [HRR.out]; exact nil_own _ _, (HE7.out.setCell (by simp) _).setCell (by simp) _⟩
        | some n =>
          obtain ⟨rfl, rfl⟩ := hy n hnum
          have HRN := hid (rdm_stepN HR3.out HODD.out hnum)
          have HI7 := hid (hI5.out.ext E7)
          have d0 := blk2 HI7.out.box
          have p1' : Seg (w7.alloc (.cells #[.int .i64 vn] 3)) (.slice (some ⟨w7.heap.size, 0, none⟩) 1 1) 1 1 [.int .i64 vn] := seg_one (heap_alloc_new w7 _)
          have HIA := hid (HI7.out.ext ((Ext.refl w7).alloc (.cells #[.int .i64 vn] 3)))
          have hcu := HIA.out.own
          have hsz : w1.heap.size ≤ (w7.alloc (.cells #[.int .i64 vn] 3)).heap.size := by have := E7.size'; simp; omega
          clear hnum hy hno E7 HB5
          go_wp2_with (first | (at_builtin; refine (wpList_app rfl _ _ 26 rfl w1.heap.size 3 (.int .i64 0) 1 8 Tryz.underlying26 infoI1 rfl (by decide) (.slice ao O.length ko) O.length (cI O) rfl hcu _ 1 [.int .i64 vn] rfl p1' (fun u hu => by simp only [List.mem_singleton] at hu; subst hu; rfl) (by omega) (by unfold maxLen; omega) hsz ?_); intro v' w9 ho' hg; obtain ⟨hbx, HN⟩ := HIA.out.num ho' hg; have d9 := blk2 hbx; obtain ⟨a9, k9, e9⟩ := own_form ho'; subst e9))
          go_roundw
          case rel => exact ⟨k + 1, C, O ++ [vn], _, _, rk, more', by simp; omega, by rw [Q2.out]; rfl, rfl, rfl, HRS.out.1, HRS.out.2.1, HRN, hC, hid HN⟩
          case measure => exact HRS.out.2.2
    | false =>
      have d0 := blk2 hI.out.box
      have hrd := HRD.out
      have hr := hR.out
      rw [if_neg (by decide)] at hr
      have hr0 : rdm (k % 2 == 1) [] = some ([], []) := by cases (k % 2 == 1) <;> rfl
      rw [hr0] at hr
      simp only [Option.map_some, List.append_nil] at hr
      rw [hr] at hrd
      simp only at hrd
      have hb2o : wo.heap[w.heap.size]? = some (.cells #[.slice none 0 0, .slice none 0 0] 28 (0, 0)) := grown_heap hI.out.gb HB2.out (by intro e; injection e with e; omega)
      have MC := hid (rmap_any (.agg #[.slice ac C.length kc, .slice ao O.length ko]) C O wo ⟨_, _, rfl, own_seg hI.out.cuts, own_seg hI.out.own⟩ (fun c hc => by have := hC.out c hc; omega))
      have HRD := hid hrd
      have HRW := hid (And.intro hI.out.cuts hI.out.own)
      have hlt := hI.out.lt
      have HLT := hid (show w.heap.size < w1.heap.size by omega)
      clear hlt
      clear hrd hr hr0 hR hI
      go_wp2_with fail
      refine (MC.out).mono ?_
      clear MC
      rintro e w7 ⟨rfl, E7⟩
      have hb7 := E7.heap hb2o
      have d2 := blk2 hb7
      have HE7 := hid (hEo.out.trans E7)
      have HD0 := hid (And.intro (E7.cell d0.1) (E7.cell d0.2.1))
      have HRW := hid (And.intro (own_ext HRW.out.1 E7) (own_ext HRW.out.2 E7))
      by_cases he : mapErr C O = 0
      · have hrd := HRD.out
        rw [if_pos he] at hrd
        have HRD := hid hrd
        have d4 := HD0.out.1
        have d5 := HD0.out.2
        have q : (mapErr C O != 0) = false := by simp [he]
        have rB := blk2 (blk2_set2 (u := .slice ac C.length kc) (v := .slice ao O.length ko) hb7)
        clear hrd he E7 hb2o hb7 d0
        go_wp2
        refine bodyPost_ret (v := .tuple #[.agg #[.slice ac C.length kc, .slice ao O.length ko], .int .i64 0]) (by simp [results, Tryz.results17, go_sem, rB.1, rB.2.1]) rfl ⟨_, by rw [HRD.out], ?_, (HE7.out.setCell (by simp) _).setCell (by simp) _⟩
        rw [HRD.out]
        have hlt := HLT.out
        exact ⟨_, _, rfl, own_base (own_set_far (own_set_far HRW.out.1 (by show w.heap.size < _; omega)) (by show w.heap.size < _; omega)) (by omega), own_base (own_set_far (own_set_far HRW.out.2 (by show w.heap.size < _; omega)) (by show w.heap.size < _; omega)) (by omega)⟩
      · have hrd := HRD.out
        rw [if_neg he] at hrd
        have HRD := hid hrd
        have q : (mapErr C O != 0) = true := by simp [he]
        have rB := blk2 (blk2_set2 (u := .slice none 0 0) (v := .slice none 0 0) hb7)
        clear hrd he E7 hb2o hb7 d0
        go_wp2
        exact bodyPost_ret (v := .tuple #[.agg #[.slice none 0 0, .slice none 0 0], .int .i64 (mapErr C O)]) (by simp [results, Tryz.results17, go_sem, rB.1, rB.2.1]) rfl ⟨_, by rw [HRD.out], by rw [HRD.out]; exact nil_own _ _, (HE7.out.setCell (by simp) _).setCell (by simp) _⟩
end Go.Proofs.YtnepdfpooobmcaaGreatDoor
