/- Contracts and lemmas for the proof of TextLines; each theorem states its own conditions. -/
import Derived.Test.YtnepdfpooobmcaaGreatDoorQTextLinesbm
import Derived.Test.YtnepdfpooobmcaaGreatDoorQTextLinesbo
import Derived.Test.YtnepdfpooobmcaaGreatDoorQTextLinesax
import Derived.Test.YtnepdfpooobmcaaGreatDoorQTextLinesbp
set_option linter.unusedVariables false
set_option linter.unusedSimpArgs false
/- Contracts and lemmas for the proofs of this seat; each theorem states its own conditions. -/
namespace Go.Proofs.YtnepdfpooobmcaaGreatDoor
open Go.RowKit
/-! roref.ReadDeed -/
theorem contS (s : ByteArray) (c : UInt8) (w : World) : Calls Tryz.prog 109 #[.string s, .string ⟨#[c]⟩] w fun e w' => e = .returned (.bool (decide (0 ≤ Lib.indexByte s.data.toList c))) ∧ w' = w := Any.strings_Contains_one lays144 s c w
def isS (c : UInt8) : Bool := [61, 43, 60, 63].contains c
theorem isS_ix (c : UInt8) : decide (0 ≤ Lib.indexByte (⟨#[61, 43, 60, 63]⟩ : ByteArray).data.toList c) = isS c := by
  show decide (0 ≤ Lib.indexByte [61, 43, 60, 63] c) = _
  by_cases h1 : c = 61
  · subst h1; rfl
  · by_cases h2 : c = 43
    · subst h2; rfl
    · by_cases h3 : c = 60
      · subst h3; rfl
      · by_cases h4 : c = 63
        · subst h4; rfl
        · have hn : c ∉ ([61, 43, 60, 63] : List UInt8) := by simp [h1, h2, h3, h4]
          rw [ixb_no hn]
          simp [isS, h1, h2, h3, h4]
theorem isS_case {c : UInt8} (h : isS c = true) : c = 61 ∨ c = 43 ∨ c = 63 ∨ c = 60 := by
  simp only [isS, List.contains_cons, List.contains_nil, Bool.or_false, Bool.or_eq_true, beq_iff_eq] at h
  rcases h with h | h | h | h <;> simp [h]
theorem one_byte {s : ByteArray} {j : Nat} (h : j < s.size) : s.extract j (j + 1) = ⟨#[s[j]]⟩ := by
  refine bA_eq ?_
  rw [ByteArray.data_extract, Array.toList_extract, List.extract_eq_take_drop]
  have h2 : j < s.data.toList.length := by rw [toL_len]; exact h
  rw [show j + 1 - j = 1 by omega, List.drop_eq_getElem_cons h2]
  simp
  rfl
/-- no sign among the first j -/
def noS (s : ByteArray) (j : Nat) : Prop := ∀ i (h : i < s.size), i < j → isS s[i] = false
theorem noS_any {s : ByteArray} (h : noS s s.size) : rdOp s = none := by
  have e : Lib.indexAny s.data.toList [61, 43, 60, 63] < 0 := by
    rw [Lib.indexAny_none]
    · decide
    · intro i b hi hb
      have hi2 : i < s.size := by rw [← toL_len]; exact hi
      rw [List.getElem?_eq_getElem hi] at hb
      injection hb with hb
      subst hb
      exact h i hi2 hi2
  unfold rdOp
  rw [if_pos e]
theorem noS_at {s : ByteArray} {j : Nat} (hj : j < s.size) (h : noS s j) (hc : isS s[j] = true) : rdOp s = rdAt s j ∧ s.data.toList.getD j 0 = s[j] := by
  have hj2 : j < s.data.toList.length := by rw [toL_len]; exact hj
  have e : Lib.indexAny s.data.toList [61, 43, 60, 63] = (j : Int) := by
    refine Lib.indexAny_hit (x := s.data.toList[j]) ?_ (List.getElem?_eq_getElem hj2) hc
    intro i b hi hb
    have hi2 : i < s.size := by omega
    have hi3 : i < s.data.toList.length := by omega
    rw [List.getElem?_eq_getElem hi3] at hb
    injection hb with hb
    subst hb
    exact h i hi2 hi
  refine ⟨?_, by rw [List.getD_eq_getElem?_getD, List.getElem?_eq_getElem hj2]; rfl⟩
  unfold rdOp
  rw [e, if_neg (by omega), Int.toNat_natCast]
/-- what the sign tells: the kind, from where, what is read as a number -/
def SwR (wk : ByteArray) (j : Nat) (kd : Int) (fr rs : ByteArray) : Prop := (1 ≤ kd ∧ kd ≤ 5) ∧ rs.size ≤ wk.size ∧ fr.size ≤ wk.size ∧ rdAt wk j = (if kd = 3 then some ⟨3, wk.extract 0 j, fr, 0⟩ else (numL rs.data.toList).map fun n => ⟨kd, wk.extract 0 j, fr, n⟩)
theorem rest_size (wk : ByteArray) (j : Nat) : (wk.extract (j + 1) wk.size).size ≤ wk.size := by simp
theorem sw_61 {wk : ByteArray} {j : Nat} (h : wk.data.toList.getD j 0 = 61) : SwR wk j 1 ⟨#[]⟩ (wk.extract (j + 1) wk.size) :=
  ⟨by omega, rest_size _ _, Nat.zero_le _, by unfold rdAt; rw [if_pos h, if_neg (by decide)]⟩
theorem sw_43 {wk : ByteArray} {j : Nat} (h : wk.data.toList.getD j 0 = 43) : SwR wk j 2 ⟨#[]⟩ (wk.extract (j + 1) wk.size) :=
  ⟨by omega, rest_size _ _, Nat.zero_le _, by unfold rdAt; rw [h, if_neg (by decide), if_pos rfl, if_neg (by decide)]⟩
theorem sw_63 {wk : ByteArray} {j : Nat} (h : wk.data.toList.getD j 0 = 63) : SwR wk j 4 ⟨#[]⟩ (wk.extract (j + 1) wk.size) :=
  ⟨by omega, rest_size _ _, Nat.zero_le _, by unfold rdAt; rw [h, if_neg (by decide), if_neg (by decide), if_pos rfl, if_neg (by decide)]⟩
theorem sw_60a {wk : ByteArray} {j : Nat} (h : wk.data.toList.getD j 0 = 60) (hn : cutF 42 (wk.extract (j + 1) wk.size).data.toList = none) : SwR wk j 3 (wk.extract (j + 1) wk.size) (wk.extract (j + 1) wk.size) :=
  ⟨by omega, rest_size _ _, rest_size _ _, by unfold rdAt; rw [h, if_neg (by decide), if_neg (by decide), if_neg (by decide), cut_F, hn, if_neg (by simp), if_pos rfl]⟩
theorem sw_60b {wk : ByteArray} {j k : Nat} (h : wk.data.toList.getD j 0 = 60) {a r : List UInt8} (hn : cutF 42 (wk.extract (j + 1) wk.size).data.toList = some (a, r)) (hk : k = a.length) :
    k < (wk.extract (j + 1) wk.size).size ∧ SwR wk j 5 ((wk.extract (j + 1) wk.size).extract 0 k) ((wk.extract (j + 1) wk.size).extract (k + 1) (wk.extract (j + 1) wk.size).size) := by
  have hr := rest_size wk j
  obtain ⟨e1, e2⟩ := cutF_some hn
  generalize hre : wk.extract (j + 1) wk.size = rest at *
  have hsz : rest.size = a.length + (r.length + 1) := by rw [← toL_len, e1]; simp
  have ha : (rest.extract 0 k).data.toList = a := ext_mid (x := []) (m := a) (y := 42 :: r) (by simpa using e1) rfl (by simpa using hk)
  have hb : (rest.extract (k + 1) rest.size).data.toList = r := ext_mid (x := a ++ [42]) (m := r) (y := []) (by rw [e1]; simp) (by simp [hk]) (by rw [hsz]; simp; omega)
  have ha2 : rest.extract 0 k = bA a := bA_eq (by rw [ha, bA_toL])
  refine ⟨by omega, by omega, by simp; omega, by simp; omega, ?_⟩
  unfold rdAt
  rw [hre, h, if_neg (by decide), if_neg (by decide), if_neg (by decide), cut_F, hn, if_pos rfl, if_neg (by decide), hb, ha2]
theorem ixStar (s : ByteArray) (w : World) : Calls Tryz.prog 110 #[.string s, .int .u8 42] w fun e w' => e = .returned (.int .i64 (Lib.indexByte s.data.toList 42)) ∧ w' = w := by
  have := Any.strings_IndexByte lays137 s 42 w
  exact this
set_option maxRecDepth 100000 in
set_option maxHeartbeats 8000000 in
theorem rreaddeed_any (s : ByteArray) (w : World) (L : LaidT w) (hs : s.size ≤ 4000000000) :
    Calls Tryz.prog 16 #[.string s] w fun e w' => ∃ v', e = .returned (.tuple #[.agg #[v'], .int .i64 (deedRd s).1]) ∧ w'.ownsRow w.heap.size 93 4 v' (deedRd s).2.length (cO (deedRd s).2) ∧ Ext w w' := by
  have E0 := ((Ext.refl w).alloc (.cells #[.slice none 0 0] 24)).alloc (.cells #[.slice none 0 0] 24)
  have b2 := heap_1 w (.cells #[.slice none 0 0] 24) (.cells #[.slice none 0 0] 24)
  have b4 := heap_2 w (.cells #[.slice none 0 0] 24) (.cells #[.slice none 0 0] 24)
  have HL := hid L
  have HRD := hid (show deedRd s = (match rdOps (pcs s 59) with | none => (9, []) | some d => if deedE d = 0 then (0, d) else (deedE d, [])) from rfl)
  rw [pcR_pcs] at HRD
  obtain ⟨P, hP⟩ : ∃ P, pcR 59 s.data.toList = P := ⟨_, rfl⟩
  rw [hP] at HRD
  obtain ⟨w1, hw1⟩ : ∃ w1 : World, (w.alloc (.cells #[.slice none 0 0] 24)).alloc (.cells #[.slice none 0 0] 24) = w1 := ⟨_, rfl⟩
  rw [hw1] at E0 b2 b4
  have hz : w1.heap.size = w.heap.size + 2 := by rw [← hw1]; simp
  have HI := hid (show RdD w1 w1 (w.heap.size + 1) (.slice none 0 0) [] from ⟨by omega, b4, World.ownsRow_nil _ _ _ _, World.grownBy.refl _ _⟩)
  have HE1 := hid E0
  have HB2 := hid b2
  have HP := hid hP
  have HW1 := hid hw1
  clear E0 b2 b4 L hP hw1
  go_enter Tryz.func16, Tryz.ntmps16
  go_wp2_with fail
  rw [HW1.out]
  go_loopw [0, 5, 6, 7, 8, 9, 10, 11] (fun sv mv _ _ _ _ _ _ wr => ∃ (k : Nat) (D : Ops) (dv : Value) (t : ByteArray) (more : Bool), D.length = k ∧ sv = .string t ∧ mv = .bool more ∧ t.size ≤ s.size ∧ k + leftM (.string t) (.bool more) ≤ s.size + 1 ∧ Hid (rdOps P = (rdOps (if more then pcR 59 t.data.toList else [])).map fun p => D ++ p) ∧ Hid (∀ o ∈ D, o.key.size ≤ s.size ∧ o.from_.size ≤ s.size) ∧ Hid (RdD w1 wr (w.heap.size + 1) dv D)) (fun sv mv _ _ _ _ _ _ _ => leftM sv mv)
  case atStart => exact ⟨0, [], _, s, true, rfl, rfl, rfl, Nat.le_refl _, by simp [leftM], hid (by rw [← HP.out]; simp), hid (by simp), HI⟩
  case round =>
    obtain ⟨wo, rfl⟩ : ∃ wo : World, wo = wr := ⟨_, rfl⟩
    obtain ⟨k, D, dv, t, more, hDk, rfl, rfl, hts, hkm, hR, hC, hI⟩ := hrel
    clear HI HP HW1
    have HDK := hid hDk
    have hDl : D.length ≤ 5000000000 := by
      have : k ≤ s.size + 1 := by omega
      omega
    clear hDk
    obtain ⟨ac, kc, e1⟩ := own_form hI.out.ops
    subst e1
    have hEo := hid (hI.out.E HE1.out (by omega))
    have hwz := hI.out.gb.size
    cases more with
    | true =>
      have hkl : k + (t.size + 1) ≤ s.size + 1 := hkm
      obtain ⟨a, r, more', hcut, hpc, hal, hrl⟩ := cut_step 59 t.data.toList
      have CT := cut_any2 t 59 wo (HL.out.ext hEo.out) (by omega)
      rw [hcut] at CT
      have CT := hid CT
      have hR2 := hR.out
      rw [if_pos rfl, hpc] at hR2
      rw [toL_len] at hal hrl
      have hPk : (bA a).size ≤ s.size := by rw [bA_size]; omega
      have hrs : (bA r).size ≤ s.size ∧ k + 1 + leftM (.string (bA r)) (.bool more') ≤ s.size + 1 ∧ leftM (.string (bA r)) (.bool more') < t.size + 1 := by
        cases more' with
        | true =>
          have := hrl rfl
          show (bA r).size ≤ _ ∧ k + 1 + ((bA r).size + 1) ≤ _ ∧ (bA r).size + 1 < _
          rw [bA_size]; omega
        | false =>
          have hr0 : r = [] ∨ r.length ≤ t.size := by
            have h2 := hcut
            rw [cut_F] at h2
            split at h2
            · injection h2 with _ h2; injection h2 with h2 _; exact .inl h2.symm
            · injection h2 with _ h2; injection h2 with _ h2; cases h2
          show (bA r).size ≤ _ ∧ k + 1 + 0 ≤ _ ∧ 0 < _
          rw [bA_size]
          rcases hr0 with h | h
          · rw [h]; simp; omega
          · omega
      have HRS := hid hrs
      have htoR : (bA r).data.toList = r := bA_toL r
      have hR3 : rdOps P = (rdOps (bA a :: (if more' then pcR 59 (bA r).data.toList else []))).map fun p => D ++ p := by rw [htoR]; exact hR2
      have HR3 := hid hR3
      generalize bA a = wk at *
      generalize bA r = rk at *
      clear hcut hpc hal hrl hR2 hR3 htoR hrs hkm hR
      have hb2o : wo.heap[w.heap.size]? = some (.cells #[.slice none 0 0] 24 (0, 0)) := grown_heap hI.out.gb HB2.out (by intro e; injection e with e; omega)
      have HB2o := hid hb2o
      clear hb2o
      go_wp2_with fail
      refine (CT.out).mono ?_
      clear CT
      rintro e w5 ⟨rfl, E5⟩
      have HI5 := hid (hI.out.ext E5)
      have HB5 := hid (E5.heap HB2o.out)
      have hEo := hid (hEo.out.trans E5)
      have hwz5 := E5.size'
      clear hI E5 HB2o
      go_wp2_with fail
      go_loopw [7] (fun av wr => ∃ j : Nat, j ≤ wk.size ∧ av = .int .i64 j ∧ Hid (noS wk j) ∧ wr = w5) (fun av _ => wk.size - (intOf av).toNat)
      case atStart => exact ⟨0, Nat.zero_le _, rfl, hid (fun i _ h => by omega), rfl⟩
      case round =>
        obtain ⟨j, hj, rfl, hno, rfl⟩ := hrel
        by_cases hjl : j < wk.size
        · have CS := contS ⟨#[61, 43, 60, 63]⟩ (wk[j]'hjl)
          rw [← one_byte hjl] at CS
          rw [isS_ix] at CS
          have hbs : noS wk j → isS (wk[j]'hjl) = false → noS wk (j + 1) := fun h1 h2 i hi hlt => by
            rcases Nat.lt_or_ge i j with h | h
            · exact h1 i hi h
            · have : i = j := by omega
              subst this; exact h2
          cases hq : isS (wk[j]'hjl) with
          | false =>
            rw [hq] at CS
            have CS := hid CS
            have HN := hid (hbs hno.out hq)
            clear hbs hq hno
            go_wp2_with fail
            refine (CS.out _).mono ?_
            clear CS
            rintro e wx ⟨rfl, rfl⟩
            go_wp2
            go_roundw
            case rel => exact ⟨j + 1, by omega, by go_num, HN, by first | rfl | trivial⟩
            case measure => simp [intOf] <;> omega
          | true =>
            rw [hq] at CS
            have CS := hid CS
            clear hbs
            obtain ⟨hro, hgd⟩ := noS_at hjl hno.out hq
            have HC4 := hid (isS_case hq)
            have qjs : ((j : Int) == (wk.size : Int)) = false := by simp; omega
            go_wp2_with fail
            refine (CS.out _).mono ?_
            clear CS
            rintro e wx ⟨rfl, rfl⟩
            obtain ⟨w5, rfl⟩ : ∃ w5 : World, w5 = wx := ⟨_, rfl⟩
            have hks : (wk.extract 0 j).size ≤ wk.size := by simp; omega
            have HRO := hid hro
            have hrs0 := rest_size wk j
            go_upto_block 4 with fail
            go_cut [9, 11] from 51 to 75 (fun s9 _ wx => ∃ (kd : Int) (fr rs : ByteArray), s9 = .string rs ∧ Hid (SwR wk j kd fr rs) ∧ Hid (Ext w5 wx) ∧ wx.heap[w5.heap.size]? = some (.cells #[.int .i64 kd, .string (wk.extract 0 j), .string fr, .int .i64 0] 93 (0, 0)))
            case first =>
              have IX := fun w' => ixStar (wk.extract (j + 1) wk.size) w'
              have hc4 := HC4.out
              generalize wk[j]'hjl = c at *
              rcases hc4 with rfl | rfl | rfl | rfl
              · have HS := hid (sw_61 hgd)
                clear IX hgd hro hq
                go_wp2
                go_meet
                exact ⟨_, _, _, rfl, HS, hid ((Ext.refl w5).alloc _), heap_alloc_new _ _⟩
              · have HS := hid (sw_43 hgd)
                clear IX hgd hro hq
                go_wp2
                go_meet
                exact ⟨_, _, _, rfl, HS, hid ((Ext.refl w5).alloc _), heap_alloc_new _ _⟩
              · have HS := hid (sw_63 hgd)
                clear IX hgd hro hq
                go_wp2
                go_meet
                exact ⟨_, _, _, rfl, HS, hid ((Ext.refl w5).alloc _), heap_alloc_new _ _⟩
              · cases hF : cutF 42 (wk.extract (j + 1) wk.size).data.toList with
                | none =>
                  have HS := hid (sw_60a hgd hF)
                  rw [ixb_no (cutF_none hF)] at IX
                  have IX := hid IX
                  clear hgd hro hq hF
                  go_wp2_with fail
                  refine (IX.out _).mono ?_
                  clear IX
                  rintro e wy ⟨rfl, rfl⟩
                  go_wp2
                  go_meet
                  exact ⟨_, _, _, rfl, HS, hid ((Ext.refl w5).alloc _), heap_alloc_new _ _⟩
                | some p =>
                  obtain ⟨a, r⟩ := p
                  obtain ⟨hkl2, hS⟩ := sw_60b hgd hF rfl
                  have hix : Lib.indexByte (wk.extract (j + 1) wk.size).data.toList 42 = (a.length : Int) := by
                    obtain ⟨e1, e2⟩ := cutF_some hF
                    rw [e1]; exact ixb_at e2
                  rw [hix] at IX
                  have IX := hid IX
                  have HS := hid hS
                  obtain ⟨kk, hkk⟩ : ∃ kk, a.length = kk := ⟨_, rfl⟩
                  rw [hkk] at IX HS hkl2
                  generalize wk.extract (j + 1) wk.size = rest at *
                  have bo := heap_alloc_new w5 (.cells #[.int .i64 3, .string (wk.extract 0 j), .string rest, .int .i64 0] 93)
                  have co := blk4 bo
                  have fo := frz4 bo
                  have iN : IntKind.i64.wrap ((kk : Int) + 1) = (kk : Int) + 1 := by rw [IntKind.wrap_i64]; omega
                  have iN2 : ((kk : Int) + 1).toNat = kk + 1 := by omega
                  have HBO := hid bo
                  clear hgd hro hq hF hix hkk bo hS
                  go_wp2_with fail
                  refine (IX.out _).mono ?_
                  clear IX
                  rintro e wy ⟨rfl, rfl⟩
                  go_wp2_with fail
                  go_region
                  all_goals (go_wp2_with fail; go_meet; exact ⟨5, _, _, rfl, HS, hid ((Ext.refl w5).alloc _).drew, heap_alloc_new w5 _⟩)
            case rest =>
              obtain ⟨wx, rfl⟩ : ∃ wx : World, wx = wc := ⟨_, rfl⟩
              obtain ⟨kd, fr, rs, rfl, HS, HEx, hbx⟩ := hcut
              obtain ⟨hkd, hrsz, hfsz, hrd⟩ := HS.out
              have HRDA := hid hrd
              have HX := hid hbx
              have cx := blk4 hbx
              have fx := frz4 hbx
              clear hrd hbx HS hgd hro hq
              go_upto_if 78 with fail
              go_cut [10] from 78 to 84 (fun s10 wx2 => ∃ (n : Int) (okb : Bool), s10 = .bool okb ∧ Hid (Ext w5 wx2) ∧ wx2.heap[w5.heap.size]? = some (.cells #[.int .i64 kd, .string (wk.extract 0 j), .string fr, .int .i64 n] 93 (0, 0)) ∧ Hid (okb = true → rdOp wk = some ⟨kd, wk.extract 0 j, fr, n⟩) ∧ Hid (okb = false → rdOp wk = none))
              case first =>
                by_cases h3 : kd = 3
                · subst h3
                  have HRP := hid (show rdOp wk = some ⟨3, wk.extract 0 j, fr, 0⟩ by rw [HRO.out, HRDA.out, if_pos rfl])
                  clear hkd
                  go_wp2
                  go_meet
                  exact ⟨0, true, rfl, HEx, HX.out, hid (fun _ => HRP.out), hid (fun h => by cases h)⟩
                · have HRP := hid (show rdOp wk = (numL rs.data.toList).map fun n => ⟨kd, wk.extract 0 j, fr, n⟩ by rw [HRO.out, HRDA.out, if_neg h3])
                  have NN := hid (fun w' => rnum_any rs w' (by omega))
                  have q3 : (kd != 3) = true := by simp [h3]
                  clear hkd h3
                  go_wp2_with fail
                  refine (NN.out _).mono ?_
                  clear NN
                  rintro e w7 ⟨vn, okn, rfl, E7, hy, hno2⟩
                  have hb7 := E7.heap HX.out
                  have c7 := blk4 hb7
                  have f7 := frz4 hb7
                  have HB7 := hid hb7
                  have HE7 := hid (HEx.out.trans E7)
                  have HY := hid hy
                  have HNO := hid hno2
                  clear hb7 E7 hy hno2 cx fx
                  go_wp2
                  go_meet
                  refine ⟨vn, okn, rfl, hid (HE7.out.setCell (Nat.le_refl _) _), set4_3 HB7.out _, hid (fun h => ?_), hid (fun h => ?_)⟩
                  · cases hn : numL rs.data.toList with
                    | none => rw [HNO.out hn] at h; cases h
                    | some z =>
                      rw [HRP.out, hn, (HY.out z hn).1]
                      rfl
                  · cases hn : numL rs.data.toList with
                    | none => rw [HRP.out, hn]; rfl
                    | some z => rw [(HY.out z hn).2] at h; cases h
              case rest =>
                obtain ⟨w7, rfl⟩ : ∃ w7 : World, w7 = wc := ⟨_, rfl⟩
                obtain ⟨n, okb, rfl, HE7, hb7, hy, hn⟩ := hcut
                clear cx fx HX HEx
                cases okb with
                | false =>
                  have hX := rdOps_stop HR3.out (hn.out rfl)
                  have hrd := HRD.out
                  rw [hX] at hrd
                  simp only at hrd
                  have HRR := hid hrd
                  have hb2 := HE7.out.heap HB5.out
                  have d2 := blk1 hb2
                  have rB := blk1 (blk1_set hb2 (.slice none 0 0))
                  have HEE := hid (hEo.out.trans HE7.out)
                  clear hX hrd hy hn hb7 hb2
                  go_wp2
                  exact bodyPost_ret (v := .tuple #[.agg #[.slice none 0 0], .int .i64 9]) (by simp [results, Tryz.results16, go_sem, rB.1]) rfl ⟨_, by rw [HRR.out], by rw [HRR.out]; exact World.ownsRow_nil _ _ _ _, HEE.out.setCell (by simp) _⟩
                | true =>
                  have hro := hy.out rfl
                  have HRN := hid (rdOps_step HR3.out hro)
                  generalize wk.extract 0 j = key at *
                  have HSZ := hid (show ∀ q ∈ D ++ [(⟨kd, key, fr, n⟩ : GOp)], q.key.size ≤ s.size ∧ q.from_.size ≤ s.size from fun q hq => by
                    rcases List.mem_append.1 hq with h | h
                    · exact hC.out q h
                    · simp at h; subst h; exact ⟨by simp only; omega, by simp only; omega⟩)
                  have bo := blk4 hb7
                  have HI7 := hid (HI5.out.ext HE7.out)
                  have d0 := blk1 HI7.out.box
                  have p1' : Seg (w7.alloc (.cells #[.int .i64 kd, .string key, .string fr, .int .i64 n] 93)) (.slice (some ⟨w7.heap.size, 0, none⟩) 1 1) 4 1 [.int .i64 kd, .string key, .string fr, .int .i64 n] := seg_blk (xs := [.int .i64 kd, .string key, .string fr, .int .i64 n]) (n := 1) (sz := 4) (c := 1) (heap_alloc_new w7 _) rfl (Nat.le_refl _) (by decide)
                  have HIA := hid (HI7.out.ext ((Ext.refl w7).alloc (.cells #[.int .i64 kd, .string key, .string fr, .int .i64 n] 93)))
                  have hcu := HIA.out.ops
                  have hsz2 : w1.heap.size ≤ (w7.alloc (.cells #[.int .i64 kd, .string key, .string fr, .int .i64 n] 93)).heap.size := by have := HE7.out.size'; simp; omega
                  clear hro hy hn hb7
                  go_wp2_with (first | (at_builtin; refine (wpList_app rfl _ _ 22 rfl w1.heap.size 93 (.agg #[.int .i64 0, .string ⟨#[]⟩, .string ⟨#[]⟩, .int .i64 0]) 4 48 Tryz.underlying22 infoOpY rfl (by decide) (.slice ac D.length kc) D.length (cO D) rfl hcu _ 1 [.int .i64 kd, .string key, .string fr, .int .i64 n] rfl p1' (fun u hu => by simp only [List.mem_cons, List.not_mem_nil, or_false] at hu; rcases hu with rfl | rfl | rfl | rfl <;> rfl) (by omega) (by unfold maxLen; omega) hsz2 ?_); intro v' w9 ho' hg; obtain ⟨hbx, HN⟩ := HIA.out.more (o := ⟨kd, key, fr, n⟩) ho' hg; have d9 := blk1 hbx; obtain ⟨a9, k9, e9⟩ := own_form ho'; subst e9))
                  go_roundw
                  case rel => exact ⟨k + 1, D ++ [⟨kd, key, fr, n⟩], _, rk, more', by simp [HDK.out], rfl, rfl, HRS.out.1, HRS.out.2.1, HRN, HSZ, hid HN⟩
                  case measure => exact HRS.out.2.2
        · obtain rfl : j = wk.size := by omega
          have hro := noS_any hno.out
          have hX := rdOps_stop HR3.out hro
          have hrd := HRD.out
          rw [hX] at hrd
          simp only at hrd
          have HRR := hid hrd
          have d2 := blk1 HB5.out
          have rB := blk1 (blk1_set HB5.out (.slice none 0 0))
          clear hX hrd hro hno
          go_wp2
          exact bodyPost_ret (v := .tuple #[.agg #[.slice none 0 0], .int .i64 9]) (by simp [results, Tryz.results16, go_sem, rB.1]) rfl ⟨_, by rw [HRR.out], by rw [HRR.out]; exact World.ownsRow_nil _ _ _ _, hEo.out.setCell (by simp) _⟩
    | false =>
      have d0 := blk1 hI.out.box
      have hrd := HRD.out
      have hr := hR.out
      rw [if_neg (by decide)] at hr
      simp only [rdOps, Option.map_some, List.append_nil] at hr
      rw [hr] at hrd
      simp only at hrd
      have hb2o : wo.heap[w.heap.size]? = some (.cells #[.slice none 0 0] 24 (0, 0)) := grown_heap hI.out.gb HB2.out (by intro e; injection e with e; omega)
      have DC := hid (rdeed_any (.slice ac D.length kc) D wo (own_seg hI.out.ops) (fun o ho => by have := hC.out o ho; exact ⟨by omega, by omega⟩))
      have HRD := hid hrd
      have HRW := hid hI.out.ops
      have hlt := hI.out.lt
      have HLT := hid (show w.heap.size < w1.heap.size by omega)
      clear hrd hr hR hI hlt
      go_wp2_with fail
      refine (DC.out).mono ?_
      clear DC
      rintro e w7 ⟨rfl, E7⟩
      have hb7 := E7.heap hb2o
      have d2 := blk1 hb7
      have HE7 := hid (hEo.out.trans E7)
      have HD0 := hid (E7.cell d0.1)
      have HRW := hid (own_ext HRW.out E7)
      by_cases he : deedE D = 0
      · have hrd := HRD.out
        rw [if_pos he] at hrd
        have HRD := hid hrd
        have d4 := HD0.out
        have q : (deedE D != 0) = false := by simp [he]
        have rB := blk1 (blk1_set hb7 (.slice ac D.length kc))
        clear hrd he E7 hb2o hb7 d0
        go_wp2
        refine bodyPost_ret (v := .tuple #[.agg #[.slice ac D.length kc], .int .i64 0]) (by simp [results, Tryz.results16, go_sem, rB.1]) rfl ⟨_, by rw [HRD.out], ?_, HE7.out.setCell (by simp) _⟩
        rw [HRD.out]
        have hlt := HLT.out
        exact own_base (own_set_far HRW.out (by show w.heap.size < _; omega)) (by omega)
      · have hrd := HRD.out
        rw [if_neg he] at hrd
        have HRD := hid hrd
        have q : (deedE D != 0) = true := by simp [he]
        have rB := blk1 (blk1_set hb7 (.slice none 0 0))
        clear hrd he E7 hb2o hb7 d0
        go_wp2
        exact bodyPost_ret (v := .tuple #[.agg #[.slice none 0 0], .int .i64 (deedE D)]) (by simp [results, Tryz.results16, go_sem, rB.1]) rfl ⟨_, by rw [HRD.out], by rw [HRD.out]; exact World.ownsRow_nil _ _ _ _, HE7.out.setCell (by simp) _⟩
end Go.Proofs.YtnepdfpooobmcaaGreatDoor
