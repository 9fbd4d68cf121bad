/- Contracts and lemmas for the proof of TextLog; each theorem states its own conditions. -/
import Derived.Test.YtnepdfpooobmcaaDoorQTextLogbu
import Derived.Test.YtnepdfpooobmcaaDoorQTextLogbv
import Derived.Test.YtnepdfpooobmcaaDoorQTextLogbx
import Derived.Test.YtnepdfpooobmcaaDoorQTextLogak
set_option linter.unusedVariables false
set_option linter.unusedSimpArgs false
/- Contracts and lemmas for the proofs of this seat; each theorem states its own conditions. -/
namespace Go.Proofs.YtnepdfpooobmcaaDoor
open Go.RowKit
/-! TextLog -/
theorem lit_1 : mapT [] [1] = [49] := by simp [mapT, Lib.itoa, Lib.decDigits]
theorem lit_T : entT ⟨[], true, [], [1]⟩ = [109, 97, 112, 32, 49, 32, 49, 48, 49, 50, 10] := by
  rw [entT, bodyT_map rfl]
  simp only [lit_1]
  rw [lineT, show sbL (mapW ++ [49]) = 1012 by decide +kernel]
  simp [mapW, Lib.itoa, Lib.decDigits]
theorem lit_E : entE ⟨[], true, [], [1]⟩ = 0 ∧ entS ⟨[], true, [], [1]⟩ = ⟨#[109, 97, 112, 32, 49, 32, 49, 48, 49, 50, 10]⟩ := by
  have h : entE ⟨[], true, [], [1]⟩ = 0 := by decide +kernel
  refine ⟨h, ?_⟩
  rw [entS, if_pos h, lit_T]
  rfl
theorem ents_cap {w : World} {a : Option Addr} {n c : Nat} {X : List Ent} (h : EntsSeg w (.slice a n c) X) : X.length ≤ c ∧ c ≤ 9223372036854775807 := by
  obtain ⟨es, _, ⟨_, _, _, e, h1, h2, _⟩, _⟩ := h
  injection e with _ _ e
  subst e
  unfold maxLen at h2
  exact ⟨h1, h2⟩
theorem cont_1 (s : ByteArray) (c : UInt8) (w : World) : Calls Tryd.prog 25 #[.string s, .string ⟨#[c]⟩] w fun e w' => e = .returned (.bool (decide (0 ≤ Lib.indexByte s.data.toList c))) ∧ w' = w := Any.strings_Contains_one lays144 s c w
theorem count_1 (s : ByteArray) (c : UInt8) (w : World) : Calls Tryd.prog 26 #[.string s, .string ⟨#[c]⟩] w fun e w' => e = .returned (.int .i64 (s.data.toList.count c : Nat)) ∧ w' = w := Any.strings_Count_one lays138 s c w
set_option maxRecDepth 100000 in
set_option maxHeartbeats 8000000 in
theorem textlog_walk (v v2 : Value) (ls ms : List (List Int)) (cut : Int) (w : World) (L : LaidT w) (hv : SegLL w v ls) (hv2 : SegLL w v2 ms) (hb2 : ∀ m ∈ ms, ∀ z ∈ m, -9223372036854775808 ≤ z ∧ z ≤ 9223372036854775807) :
    Calls Tryd.prog 6 #[v, v2, .int .i64 cut] w fun e w' => e = .returned (.bool true) ∧ Ext w w' := by
  have HL := hid L
  have E0 := (Ext.refl w).alloc (.cells #[.int .i64 1] 3)
  have sL : EntSeg (w.alloc (.cells #[.int .i64 1] 3)) (.slice none 0 0, true, .slice none 0 0, .slice (some ⟨w.heap.size, 0, none⟩) 1 1) ⟨[], true, [], [1]⟩ := ⟨Seg.nil _ _, rfl, Seg.nil _ _, seg_blk (heap_alloc_new _ _) rfl (Nat.le_refl _) (by simp [maxLen])⟩
  have T0 := hid (tentry_any _ _ _ (L.ext E0) sL ⟨fun o ho => by simp at ho, fun k hk => by simp at hk⟩ (fun o ho => by simp at ho))
  obtain ⟨hl1, hl2⟩ := lit_E
  rw [hl1, hl2] at T0
  have EN := hid (fun w' (q : Ext w w') => entries_any v v2 ls ms w' (hv.ext q) (hv2.ext q) hb2)
  have HE0 := hid E0
  clear hl1 hl2 sL E0 hv hv2 hb2 L
  go_enter Tryd.func6, Tryd.ntmps6
  go_wp2_with fail
  refine (T0.out).mono ?_
  clear T0
  rintro r w1 ⟨rfl, E1⟩
  go_wp2_with fail
  have HE1 := hid (HE0.out.trans E1)
  refine (EN.out _ HE1.out).mono ?_
  clear EN E1 HE0
  rintro r w2 ⟨v', D, rfl, hdg, hdl, hlog⟩
  have hX := entsTo_l hdg ms (Nat.le_refl D.length)
  have hXl := entsTo_len D ms D.length
  have HS2 := hid hlog.seg
  have HE2 := hid (HE1.out.trans hlog.E)
  obtain ⟨av, kv, rfl⟩ := hlog.form
  clear hlog hdg HE1
  generalize entsTo D ms D.length = X at *
  have HX := hid hX
  have hXn : X.length ≤ 24 := by omega
  clear hX hXl hdl
  go_wp2_with fail
  go_loopw [9, 12, 13, 14, 37] (fun sv _ _ _ iv wr => ∃ i : Nat, i ≤ X.length ∧ iv = .int .i64 i ∧ sv = .string (logS X i) ∧ Ext w2 wr) (fun _ _ _ _ iv _ => X.length - (intOf iv).toNat)
  case atStart => exact ⟨0, Nat.zero_le _, rfl, by rw [logS_zero], Ext.refl _⟩
  case round =>
    obtain ⟨wq, rfl⟩ : ∃ wq : World, wq = wr := ⟨_, rfl⟩
    obtain ⟨i, hi, rfl, rfl, E⟩ := hrel
    by_cases hil : i < X.length
    · obtain ⟨es, hl, hs, he⟩ := HS2.out
      obtain ⟨b, o, rfl, _, p1, p2, hc⟩ := seg_cells hs (by omega)
      unfold maxLen at p2
      obtain ⟨x0, x1, x2, x3⟩ := cEn_at es (show i < es.length by omega)
      replace x0 := E.cell (hc _ _ x0)
      replace x1 : wq.cell? ⟨b, o + i * 4 + 1, none⟩ = _ := E.cell (hc _ _ x1)
      replace x2 : wq.cell? ⟨b, o + i * 4 + 2, none⟩ = _ := E.cell (hc _ _ x2)
      replace x3 : wq.cell? ⟨b, o + i * 4 + 3, none⟩ = _ := E.cell (hc _ _ x3)
      have g1 := (he i es[i] X[i] (List.getElem?_eq_getElem (by omega)) (List.getElem?_eq_getElem hil)).ext E
      have hx := HX.out X[i] (List.getElem_mem hil)
      have HST := hid (logS_succ hil hx.ok)
      have z1 := logS_size HX.out hi
      have z2 := entS_size hx
      generalize X[i] = x at g1 hx HST z2
      generalize es[i] = e at x0 x1 x2 x3 g1
      obtain ⟨v1, c1, v2, v3⟩ := e
      dsimp only at x0 x1 x2 x3
      obtain ⟨f1, l1, e1⟩ := seg_form g1.ops
      obtain ⟨f2, l2, e2⟩ := seg_form g1.cuts
      obtain ⟨f3, l3, e3⟩ := seg_form g1.own
      dsimp only at e1 e2 e3
      subst e1; subst e2; subst e3
      have TE := hid (fun w' (q : Ext wq w') => tentry_any _ x w' (HL.out.ext ((HE2.out.trans E).trans q)) (g1.ext q) hx.sz hx.n)
      rw [hx.ok] at TE
      have HE := hid E
      have z3 : ¬ 9223372036854775807 < (logS X i).size + (entS x).size := by omega
      generalize entS x = t at *
      clear g1 hc hs he hl hx E
      go_wp2_with fail
      refine (TE.out _ ((Ext.refl wq).alloc _)).mono ?_
      clear TE
      rintro r w4 ⟨rfl, E4⟩
      go_wp2
      go_roundw
      case rel => exact ⟨i + 1, by omega, by go_num, by rw [HST.out], HE.out.trans (((Ext.refl wq).alloc _).trans E4)⟩
      case measure => simp [intOf] <;> omega
    · obtain rfl : i = X.length := by omega
      have hTs := logS_size HX.out (Nat.le_refl X.length)
      have hTd : (logS X X.length).data.toList = logT X := by rw [logS_all, bA_toL]
      generalize logS X X.length = T at *
      have hTl : (logT X).length = T.size := by rw [← hTd, toL_len]
      have hT2 : T.size ≤ 20000 := by omega
      have HEq := hid (HE2.out.trans E)
      have TL := tlog_any T wq (HL.out.ext HEq.out) (by omega)
      rw [hTd, lgAll_log HX.out (by omega), hTl] at TL
      have TL := hid TL
      obtain ⟨k, hk1, hk2⟩ : ∃ k : Nat, wi cut ((T.size : Int) + 1) = k ∧ k ≤ T.size := ⟨(wi cut ((T.size : Int) + 1)).toNat, by have := wi_lo (k := cut) (n := (T.size : Int) + 1) (by omega); omega, by have := wi_hi (k := cut) (n := (T.size : Int) + 1) (by omega); have := wi_lo (k := cut) (n := (T.size : Int) + 1) (by omega); omega⟩
      have WI := fun w' => within_any cut ((T.size : Int) + 1) w' (by omega) (by omega)
      rw [hk1] at WI
      have WI := hid WI
      obtain ⟨m, r, h1, h2, h3, h4, h5⟩ := lgAll_cut (c := k) HX.out (by omega) (by omega)
      have hn : (logT (X.take m)).length ≤ k := by
        have := congrArg List.length h2
        rw [List.length_append, List.length_take] at this
        omega
      have hTk : (T.extract 0 k).data.toList = (logT X).take k := by rw [ext_to, hTd]
      have T2 := fun w' (q : Ext w w') => tlog_any (T.extract 0 k) w' (HL.out.ext q) (by simp; omega)
      rw [hTk, h5] at T2
      have CNT := fun w' => count_1 (T.extract 0 k) 10 w'
      rw [hTk, h4] at CNT
      obtain ⟨n, hnn⟩ : ∃ n, (logT (X.take m)).length = n := ⟨_, rfl⟩
      rw [hnn] at T2 hn
      have hTr : (T.extract n k).data.toList = r := by
        have e1 : T.data.toList = logT (X.take m) ++ r ++ (logT X).drop k := by rw [hTd, ← h2, List.take_append_drop]
        refine ext_mid e1 hnn.symm ?_
        have := congrArg List.length h2
        rw [List.length_append, List.length_take] at this
        omega
      have CON := fun w' => cont_1 (T.extract n k) 10 w'
      rw [hTr, ixb_no h3] at CON
      have CON := hid CON
      have CNT := hid CNT
      have T2 := hid T2
      have hml : ((X.take m).map bareE).length = m := by rw [List.length_map, List.length_take]; omega
      have hxl : (X.map bareE).length = X.length := List.length_map _
      have HM := hid (show ((X.map bareE).take m) = (X.take m).map bareE from List.map_take.symm)
      clear h2 h3 h4 h5 hTd hTl hTk hTr hnn hk1 E
      generalize (X.take m).map bareE = Y at *
      generalize X.map bareE = Z at *
      go_wp2_with fail
      refine (TL.out).mono ?_
      clear TL
      rintro r w3 ⟨v3, rfl, hlg⟩
      have E3 := hlg.E
      have HS3 := hid hlg.seg
      obtain ⟨a3, c3, rfl⟩ := hlg.form
      have HE3 := hid (HEq.out.trans E3)
      have HC3 := hid (ents_cap hlg.seg)
      rw [hxl] at HS3 HC3 ⊢
      have T2 := hid (T2.out w3 HE3.out)
      have hc3 : m ≤ c3 ∧ c3 ≤ 9223372036854775807 := by have := HC3.out; omega
      clear hlg E3 HC3 HEq
      go_wp2_with fail
      refine (WI.out _).mono ?_
      clear WI
      rintro r w5 ⟨rfl, rfl⟩
      go_wp2_with fail
      refine (T2.out).mono ?_
      clear T2
      rintro r w4 ⟨v4, rfl, hlg4⟩
      have HE4 := hid (HE3.out.trans hlg4.E)
      have EQ := hid (fun w' (q : Ext w4 w') => equalE_any v4 (.slice a3 m c3) Y (Z.take m) w' (hlg4.seg.ext q) ((show EntsSeg w' (.slice a3 Z.length c3) Z from (by rw [hxl]; exact HS3.out.ext (hlg4.E.trans q))).take (by omega)))
      rw [HM.out, eqEs_refl] at EQ
      obtain ⟨a4, c4, rfl⟩ := hlg4.form
      have hkn : ¬ (k : Int) < (n : Int) := by omega
      clear hlg4
      rw [hml] at EQ ⊢
      go_wp2_with fail
      refine (CON.out _).mono ?_
      clear CON
      rintro r w5 ⟨rfl, rfl⟩
      go_wp2_with fail
      refine (CNT.out _).mono ?_
      clear CNT
      rintro r w5 ⟨rfl, rfl⟩
      go_wp2_with fail
      refine (EQ.out _ (Ext.refl _)).mono ?_
      clear EQ
      rintro r w5 ⟨rfl, E5⟩
      go_wp2
      go_ret
      exact ⟨rfl, HE4.out.trans E5⟩
end Go.Proofs.YtnepdfpooobmcaaDoor
