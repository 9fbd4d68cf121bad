/- Contracts and lemmas for the proof of TopLog; each theorem states its own conditions. -/
import Derived.Test.YtddghaoejnbkaaaGreatDoorQTopLogbe
set_option linter.unusedVariables false
set_option linter.unusedSimpArgs false
/- Contracts and lemmas for the proofs of this seat; each theorem states its own conditions. -/
namespace Go.Proofs.YtddghaoejnbkaaaGreatDoor
open Go.RowKit
/-! text.ReadEntry, its ways out (printed by py/gen_tyg.py) -/
def eZ : EV := (.slice none 0 0, false, .slice none 0 0, .slice none 0 0)
theorem eZ_st (B : Nat) (w : World) : EntSt B w eZ entN := ⟨World.ownsRow_nil _ _ _ _, rfl, World.ownsRow_nil _ _ _ _, World.ownsRow_nil _ _ _ _⟩
set_option maxRecDepth 10000 in
set_option maxHeartbeats 2000000 in
theorem trd_1 (s : ByteArray) (w : World) (L : LaidT w) (hs : s.size ≤ 4000000000) (hx : Lib.indexByte s.data.toList 10 = -1) :
    Calls Tryz.prog 86 #[.string s] w fun e w' => ∃ e4 : EV, e = .returned (.tuple #[evV e4, .int .i64 0, .int .i64 7]) ∧ EntSt w.heap.size w' e4 entN ∧ (7 ≠ (0 : Int) → e4 = eZ) ∧ Ext w w' := by
  have HBX := hid (heap_alloc_new w (.cells #[.slice none 0 0, .bool false, .slice none 0 0, .slice none 0 0] 42))
  have HE := hid ((Ext.refl w).alloc (.cells #[.slice none 0 0, .bool false, .slice none 0 0, .slice none 0 0] 42))
  have IB := hid (fun w' => Any.strings_IndexByte lays137 s 10 w')
  rw [show ((10 : Int).toNat.toUInt8) = (10 : UInt8) from rfl, hx] at IB
  clear hx L
  go_enter Tryz.func86, Tryz.ntmps86
  go_wp2_with fail
  refine (IB.out _).mono ?_
  clear IB
  rintro e w1 ⟨rfl, rfl⟩
  have b1' := blk4 HBX.out
  obtain ⟨f1, f2, f3, f4⟩ := frz4 HBX.out
  have r4 := blk4 (blk4_sA HBX.out (.slice none 0 0) (.bool false) (.slice none 0 0) (.slice none 0 0))
  go_wp2
  exact bodyPost_ret (v := .tuple #[evV eZ, .int .i64 0, .int .i64 7]) (by simp [results, Tryz.results86, go_sem, r4.1, r4.2.1, r4.2.2.1, r4.2.2.2, evV, eZ]) rfl ⟨eZ, rfl, eZ_st _ _, fun _ => rfl, HE.out⟩
set_option maxRecDepth 10000 in
set_option maxHeartbeats 2000000 in
theorem trd_2 (s : ByteArray) (w : World) (L : LaidT w) (hs : s.size ≤ 4000000000) (a : Nat) (ha : a < s.size) (hx : Lib.indexByte s.data.toList 10 = (a : Int)) (hy : Lib.lastIndexByte (s.extract 0 a) 32 = -1) :
    Calls Tryz.prog 86 #[.string s] w fun e w' => ∃ e4 : EV, e = .returned (.tuple #[evV e4, .int .i64 0, .int .i64 9]) ∧ EntSt w.heap.size w' e4 entN ∧ (9 ≠ (0 : Int) → e4 = eZ) ∧ Ext w w' := by
  have HBX := hid (heap_alloc_new w (.cells #[.slice none 0 0, .bool false, .slice none 0 0, .slice none 0 0] 42))
  have HE := hid ((Ext.refl w).alloc (.cells #[.slice none 0 0, .bool false, .slice none 0 0, .slice none 0 0] 42))
  have IB := hid (fun w' => Any.strings_IndexByte lays137 s 10 w')
  rw [show ((10 : Int).toNat.toUInt8) = (10 : UInt8) from rfl, hx] at IB
  have hz1 : (s.extract 0 a).size ≤ 4000000000 := by simp; omega
  have LX := hid (fun w' => Any.strings_LastIndexByte lays149 (s.extract 0 a) 32 (by omega) w')
  rw [hy] at LX
  have ha0 : ¬ ((a : Int) < 0) := by omega
  clear hx L hy
  go_enter Tryz.func86, Tryz.ntmps86
  go_wp2_with fail
  refine (IB.out _).mono ?_
  clear IB
  rintro e w1 ⟨rfl, rfl⟩
  go_wp2_with fail
  refine (LX.out _).mono ?_
  clear LX
  rintro e w1 ⟨rfl, rfl⟩
  have b1' := blk4 HBX.out
  obtain ⟨f1, f2, f3, f4⟩ := frz4 HBX.out
  have r4 := blk4 (blk4_sA HBX.out (.slice none 0 0) (.bool false) (.slice none 0 0) (.slice none 0 0))
  go_wp2
  exact bodyPost_ret (v := .tuple #[evV eZ, .int .i64 0, .int .i64 9]) (by simp [results, Tryz.results86, go_sem, r4.1, r4.2.1, r4.2.2.1, r4.2.2.2, evV, eZ]) rfl ⟨eZ, rfl, eZ_st _ _, fun _ => rfl, HE.out⟩
set_option maxRecDepth 10000 in
set_option maxHeartbeats 2000000 in
theorem trd_3 (s : ByteArray) (w : World) (L : LaidT w) (hs : s.size ≤ 4000000000) (a : Nat) (ha : a < s.size) (hx : Lib.indexByte s.data.toList 10 = (a : Int)) (k : Nat) (hk : k < a) (hy : Lib.lastIndexByte (s.extract 0 a) 32 = (k : Int)) (hn : numL (s.extract (k + 1) a).data.toList = none) :
    Calls Tryz.prog 86 #[.string s] w fun e w' => ∃ e4 : EV, e = .returned (.tuple #[evV e4, .int .i64 0, .int .i64 9]) ∧ EntSt w.heap.size w' e4 entN ∧ (9 ≠ (0 : Int) → e4 = eZ) ∧ Ext w w' := by
  have HBX := hid (heap_alloc_new w (.cells #[.slice none 0 0, .bool false, .slice none 0 0, .slice none 0 0] 42))
  have HE := hid ((Ext.refl w).alloc (.cells #[.slice none 0 0, .bool false, .slice none 0 0, .slice none 0 0] 42))
  have IB := hid (fun w' => Any.strings_IndexByte lays137 s 10 w')
  rw [show ((10 : Int).toNat.toUInt8) = (10 : UInt8) from rfl, hx] at IB
  have hz1 : (s.extract 0 a).size ≤ 4000000000 := by simp; omega
  have LX := hid (fun w' => Any.strings_LastIndexByte lays149 (s.extract 0 a) 32 (by omega) w')
  rw [hy] at LX
  have ha0 : ¬ ((a : Int) < 0) := by omega
  have hz2 : (s.extract (k + 1) a).size ≤ 4000000000 := by simp; omega
  have hz3 : (s.extract 0 k).size ≤ 4000000000 := by simp; omega
  have hk0 : ¬ ((k : Int) < 0) := by omega
  have NM := hid (fun w' (q : Ext w w') => num_no (s.extract (k + 1) a) w' (L.ext q) (by omega) hn)
  clear hx L hy hn
  go_enter Tryz.func86, Tryz.ntmps86
  go_wp2_with fail
  refine (IB.out _).mono ?_
  clear IB
  rintro e w1 ⟨rfl, rfl⟩
  go_wp2_with fail
  refine (LX.out _).mono ?_
  clear LX
  rintro e w1 ⟨rfl, rfl⟩
  go_wp2_with fail
  refine (NM.out _ HE.out).mono ?_
  clear NM
  rintro e w1 ⟨nn, rfl, E1⟩
  have HBX := hid (E1.heap HBX.out)
  have HE := hid (HE.out.trans E1)
  clear E1
  have b1' := blk4 HBX.out
  obtain ⟨f1, f2, f3, f4⟩ := frz4 HBX.out
  have r4 := blk4 (blk4_sA HBX.out (.slice none 0 0) (.bool false) (.slice none 0 0) (.slice none 0 0))
  go_wp2
  exact bodyPost_ret (v := .tuple #[evV eZ, .int .i64 0, .int .i64 9]) (by simp [results, Tryz.results86, go_sem, r4.1, r4.2.1, r4.2.2.1, r4.2.2.2, evV, eZ]) rfl ⟨eZ, rfl, eZ_st _ _, fun _ => rfl, ext_s4 HE.out (Nat.le_refl _) _ _ _ _⟩
set_option maxRecDepth 10000 in
set_option maxHeartbeats 2000000 in
theorem trd_4 (s : ByteArray) (w : World) (L : LaidT w) (hs : s.size ≤ 4000000000) (a : Nat) (ha : a < s.size) (hx : Lib.indexByte s.data.toList 10 = (a : Int)) (k : Nat) (hk : k < a) (hy : Lib.lastIndexByte (s.extract 0 a) 32 = (k : Int)) (v : Int) (hn : numL (s.extract (k + 1) a).data.toList = some v) (hv : v ≠ (sbL (s.extract 0 k).data.toList : Int)) :
    Calls Tryz.prog 86 #[.string s] w fun e w' => ∃ e4 : EV, e = .returned (.tuple #[evV e4, .int .i64 0, .int .i64 8]) ∧ EntSt w.heap.size w' e4 entN ∧ (8 ≠ (0 : Int) → e4 = eZ) ∧ Ext w w' := by
  have HBX := hid (heap_alloc_new w (.cells #[.slice none 0 0, .bool false, .slice none 0 0, .slice none 0 0] 42))
  have HE := hid ((Ext.refl w).alloc (.cells #[.slice none 0 0, .bool false, .slice none 0 0, .slice none 0 0] 42))
  have IB := hid (fun w' => Any.strings_IndexByte lays137 s 10 w')
  rw [show ((10 : Int).toNat.toUInt8) = (10 : UInt8) from rfl, hx] at IB
  have hz1 : (s.extract 0 a).size ≤ 4000000000 := by simp; omega
  have LX := hid (fun w' => Any.strings_LastIndexByte lays149 (s.extract 0 a) 32 (by omega) w')
  rw [hy] at LX
  have ha0 : ¬ ((a : Int) < 0) := by omega
  have hz2 : (s.extract (k + 1) a).size ≤ 4000000000 := by simp; omega
  have hz3 : (s.extract 0 k).size ≤ 4000000000 := by simp; omega
  have hk0 : ¬ ((k : Int) < 0) := by omega
  have NM := hid (fun w' (q : Ext w w') => num_yes (s.extract (k + 1) a) v w' (L.ext q) (by omega) hn)
  have TS := hid (fun w' => tsum_any (s.extract 0 k) w' hz3)
  generalize sbL (s.extract 0 k).data.toList = sv at TS hv
  have q4 : (v != (sv : Int)) = true := by simp [hv]
  clear hx L hy hn hv
  go_enter Tryz.func86, Tryz.ntmps86
  go_wp2_with fail
  refine (IB.out _).mono ?_
  clear IB
  rintro e w1 ⟨rfl, rfl⟩
  go_wp2_with fail
  refine (LX.out _).mono ?_
  clear LX
  rintro e w1 ⟨rfl, rfl⟩
  go_wp2_with fail
  refine (NM.out _ HE.out).mono ?_
  clear NM
  rintro e w1 ⟨rfl, E1⟩
  have HBX := hid (E1.heap HBX.out)
  have HE := hid (HE.out.trans E1)
  clear E1
  go_wp2_with fail
  refine (TS.out _).mono ?_
  clear TS
  rintro e w2 ⟨rfl, rfl⟩
  have b1' := blk4 HBX.out
  obtain ⟨f1, f2, f3, f4⟩ := frz4 HBX.out
  have r4 := blk4 (blk4_sA HBX.out (.slice none 0 0) (.bool false) (.slice none 0 0) (.slice none 0 0))
  go_wp2
  exact bodyPost_ret (v := .tuple #[evV eZ, .int .i64 0, .int .i64 8]) (by simp [results, Tryz.results86, go_sem, r4.1, r4.2.1, r4.2.2.1, r4.2.2.2, evV, eZ]) rfl ⟨eZ, rfl, eZ_st _ _, fun _ => rfl, ext_s4 HE.out (Nat.le_refl _) _ _ _ _⟩
set_option maxRecDepth 10000 in
set_option maxHeartbeats 2000000 in
theorem trd_5 (s : ByteArray) (w : World) (L : LaidT w) (hs : s.size ≤ 4000000000) (a : Nat) (ha : a < s.size) (hx : Lib.indexByte s.data.toList 10 = (a : Int)) (k : Nat) (hk : k < a) (hy : Lib.lastIndexByte (s.extract 0 a) 32 = (k : Int)) (v : Int) (hn : numL (s.extract (k + 1) a).data.toList = some v) (hv : v = (sbL (s.extract 0 k).data.toList : Int)) (hp : mapW.isPrefixOf (s.extract 0 k).data.toList = true) (he : (mapRd (bA ((s.extract 0 k).data.toList.drop 4))).1 ≠ 0) :
    Calls Tryz.prog 86 #[.string s] w fun e w' => ∃ e4 : EV, e = .returned (.tuple #[evV e4, .int .i64 0, .int .i64 (mapRd (bA ((s.extract 0 k).data.toList.drop 4))).1]) ∧ EntSt w.heap.size w' e4 entN ∧ ((mapRd (bA ((s.extract 0 k).data.toList.drop 4))).1 ≠ (0 : Int) → e4 = eZ) ∧ Ext w w' := by
  have HBX := hid (heap_alloc_new w (.cells #[.slice none 0 0, .bool false, .slice none 0 0, .slice none 0 0] 42))
  have HE := hid ((Ext.refl w).alloc (.cells #[.slice none 0 0, .bool false, .slice none 0 0, .slice none 0 0] 42))
  have IB := hid (fun w' => Any.strings_IndexByte lays137 s 10 w')
  rw [show ((10 : Int).toNat.toUInt8) = (10 : UInt8) from rfl, hx] at IB
  have hz1 : (s.extract 0 a).size ≤ 4000000000 := by simp; omega
  have LX := hid (fun w' => Any.strings_LastIndexByte lays149 (s.extract 0 a) 32 (by omega) w')
  rw [hy] at LX
  have ha0 : ¬ ((a : Int) < 0) := by omega
  have hz2 : (s.extract (k + 1) a).size ≤ 4000000000 := by simp; omega
  have hz3 : (s.extract 0 k).size ≤ 4000000000 := by simp; omega
  have hk0 : ¬ ((k : Int) < 0) := by omega
  have NM := hid (fun w' (q : Ext w w') => num_yes (s.extract (k + 1) a) v w' (L.ext q) (by omega) hn)
  have TS := hid (fun w' => tsum_any (s.extract 0 k) w' hz3)
  generalize sbL (s.extract 0 k).data.toList = sv at TS hv
  have q4 : (v != (sv : Int)) = false := by simp [hv]
  have CP := hid (fun w' => Any.strings_CutPrefix lays103 (s.extract 0 k) ⟨#[109, 97, 112, 32]⟩ w')
  rw [show Lib.hasPrefix (s.extract 0 k).data.toList (⟨#[109, 97, 112, 32]⟩ : ByteArray).data.toList = true from hp] at CP
  rw [show Lib.trimPrefix (s.extract 0 k).data.toList (⟨#[109, 97, 112, 32]⟩ : ByteArray).data.toList = (s.extract 0 k).data.toList.drop 4 from if_pos hp] at CP
  have hz4 : (bA ((s.extract 0 k).data.toList.drop 4)).size ≤ 4000000000 := by rw [bA_size, List.length_drop, toL_len]; omega
  have RM := hid (fun w' (q : Ext w w') => treadmap_any (bA ((s.extract 0 k).data.toList.drop 4)) w' (L.ext q) hz4)
  have CP : Hid (∀ w', Calls _ _ _ w' fun e w2 => e = .returned (.tuple #[.string (bA ((s.extract 0 k).data.toList.drop 4)), .bool true]) ∧ w2 = w') := CP
  generalize bA ((s.extract 0 k).data.toList.drop 4) = rest at CP RM he ⊢
  have q5 : ((mapRd rest).1 != 0) = true := by simp [he]
  clear hx L hy hn hv hp he
  go_enter Tryz.func86, Tryz.ntmps86
  go_wp2_with fail
  refine (IB.out _).mono ?_
  clear IB
  rintro e w1 ⟨rfl, rfl⟩
  go_wp2_with fail
  refine (LX.out _).mono ?_
  clear LX
  rintro e w1 ⟨rfl, rfl⟩
  go_wp2_with fail
  refine (NM.out _ HE.out).mono ?_
  clear NM
  rintro e w1 ⟨rfl, E1⟩
  have HBX := hid (E1.heap HBX.out)
  have HE := hid (HE.out.trans E1)
  clear E1
  go_wp2_with fail
  refine (TS.out _).mono ?_
  clear TS
  rintro e w2 ⟨rfl, rfl⟩
  have HLT := hid (show w.heap.size < w2.heap.size from (Array.getElem?_eq_some_iff.1 HBX.out).1)
  go_wp2_with fail
  refine (CP.out _).mono ?_
  clear CP
  rintro e w3 ⟨rfl, rfl⟩
  have HB9 := hid (heap_alloc_new w2 (.cells #[.slice none 0 0, .bool true, .slice none 0 0, .slice none 0 0] 42))
  have HBX := hid (((Ext.refl w2).alloc (.cells #[.slice none 0 0, .bool true, .slice none 0 0, .slice none 0 0] 42)).heap HBX.out)
  have HE := hid (HE.out.trans ((Ext.refl w2).alloc (.cells #[.slice none 0 0, .bool true, .slice none 0 0, .slice none 0 0] 42)))
  go_wp2_with fail
  refine (RM.out _ HE.out).mono ?_
  clear RM
  rintro e w4 ⟨v', rfl, ⟨cv, ov, rfl, h1, h2⟩, E4⟩
  obtain ⟨ac, kc, rfl⟩ := own_form h1
  obtain ⟨ao, ko, rfl⟩ := own_form h2
  have HB9 := hid (E4.heap HB9.out)
  have HBX := hid (E4.heap HBX.out)
  have HE := hid (HE.out.trans E4)
  have c9 := blk4 HB9.out
  obtain ⟨g1, g2, g3, g4⟩ := frz4 HB9.out
  have hne : w.heap.size ≠ w2.heap.size := by have := HLT.out; omega
  have HOC := hid h1
  have HOO := hid h2
  clear h1 h2 E4
  have HB9 := hid (set4_3 (set4_2 HB9.out (.slice ac (mapRd rest).2.1.length kc)) (.slice ao (mapRd rest).2.2.length ko))
  have HBX : Hid ((((w4.setCell ⟨w2.heap.size, 2, none⟩ (.slice ac (mapRd rest).2.1.length kc)).setCell ⟨w2.heap.size, 3, none⟩ (.slice ao (mapRd rest).2.2.length ko))).heap[w.heap.size]? = _) := hid (heap_set_far (heap_set_far HBX.out hne) hne)
  have HE := hid ((HE.out.setCell (p := ⟨w2.heap.size, 2, none⟩) (by show w.heap.size ≤ w2.heap.size; have := HLT.out; omega) (.slice ac (mapRd rest).2.1.length kc)).setCell (p := ⟨w2.heap.size, 3, none⟩) (by show w.heap.size ≤ w2.heap.size; have := HLT.out; omega) (.slice ao (mapRd rest).2.2.length ko))
  have b1' := blk4 HBX.out
  obtain ⟨f1, f2, f3, f4⟩ := frz4 HBX.out
  have r4 := blk4 (blk4_sA HBX.out (.slice none 0 0) (.bool false) (.slice none 0 0) (.slice none 0 0))
  go_wp2
  exact bodyPost_ret (v := .tuple #[evV eZ, .int .i64 0, .int .i64 (mapRd rest).1]) (by simp [results, Tryz.results86, go_sem, r4.1, r4.2.1, r4.2.2.1, r4.2.2.2, evV, eZ]) rfl ⟨eZ, rfl, eZ_st _ _, fun _ => rfl, ext_s4 HE.out (Nat.le_refl _) _ _ _ _⟩
set_option maxRecDepth 10000 in
set_option maxHeartbeats 2000000 in
theorem trd_6 (s : ByteArray) (w : World) (L : LaidT w) (hs : s.size ≤ 4000000000) (a : Nat) (ha : a < s.size) (hx : Lib.indexByte s.data.toList 10 = (a : Int)) (k : Nat) (hk : k < a) (hy : Lib.lastIndexByte (s.extract 0 a) 32 = (k : Int)) (v : Int) (hn : numL (s.extract (k + 1) a).data.toList = some v) (hv : v = (sbL (s.extract 0 k).data.toList : Int)) (hp : mapW.isPrefixOf (s.extract 0 k).data.toList = false) (he : (deedRd (s.extract 0 k)).1 ≠ 0) :
    Calls Tryz.prog 86 #[.string s] w fun e w' => ∃ e4 : EV, e = .returned (.tuple #[evV e4, .int .i64 0, .int .i64 (deedRd (s.extract 0 k)).1]) ∧ EntSt w.heap.size w' e4 entN ∧ ((deedRd (s.extract 0 k)).1 ≠ (0 : Int) → e4 = eZ) ∧ Ext w w' := by
  have HBX := hid (heap_alloc_new w (.cells #[.slice none 0 0, .bool false, .slice none 0 0, .slice none 0 0] 42))
  have HE := hid ((Ext.refl w).alloc (.cells #[.slice none 0 0, .bool false, .slice none 0 0, .slice none 0 0] 42))
  have IB := hid (fun w' => Any.strings_IndexByte lays137 s 10 w')
  rw [show ((10 : Int).toNat.toUInt8) = (10 : UInt8) from rfl, hx] at IB
  have hz1 : (s.extract 0 a).size ≤ 4000000000 := by simp; omega
  have LX := hid (fun w' => Any.strings_LastIndexByte lays149 (s.extract 0 a) 32 (by omega) w')
  rw [hy] at LX
  have ha0 : ¬ ((a : Int) < 0) := by omega
  have hz2 : (s.extract (k + 1) a).size ≤ 4000000000 := by simp; omega
  have hz3 : (s.extract 0 k).size ≤ 4000000000 := by simp; omega
  have hk0 : ¬ ((k : Int) < 0) := by omega
  have NM := hid (fun w' (q : Ext w w') => num_yes (s.extract (k + 1) a) v w' (L.ext q) (by omega) hn)
  have TS := hid (fun w' => tsum_any (s.extract 0 k) w' hz3)
  generalize sbL (s.extract 0 k).data.toList = sv at TS hv
  have q4 : (v != (sv : Int)) = false := by simp [hv]
  have CP := hid (fun w' => Any.strings_CutPrefix lays103 (s.extract 0 k) ⟨#[109, 97, 112, 32]⟩ w')
  rw [show Lib.hasPrefix (s.extract 0 k).data.toList (⟨#[109, 97, 112, 32]⟩ : ByteArray).data.toList = false from hp] at CP
  generalize Lib.trimPrefix (s.extract 0 k).data.toList (⟨#[109, 97, 112, 32]⟩ : ByteArray).data.toList = junk at CP
  have RD := hid (fun w' (q : Ext w w') => treaddeed_any (s.extract 0 k) w' (L.ext q) hz3)
  have q5 : ((deedRd (s.extract 0 k)).1 != 0) = true := by simp [he]
  clear hx L hy hn hv hp he
  go_enter Tryz.func86, Tryz.ntmps86
  go_wp2_with fail
  refine (IB.out _).mono ?_
  clear IB
  rintro e w1 ⟨rfl, rfl⟩
  go_wp2_with fail
  refine (LX.out _).mono ?_
  clear LX
  rintro e w1 ⟨rfl, rfl⟩
  go_wp2_with fail
  refine (NM.out _ HE.out).mono ?_
  clear NM
  rintro e w1 ⟨rfl, E1⟩
  have HBX := hid (E1.heap HBX.out)
  have HE := hid (HE.out.trans E1)
  clear E1
  go_wp2_with fail
  refine (TS.out _).mono ?_
  clear TS
  rintro e w2 ⟨rfl, rfl⟩
  have HLT := hid (show w.heap.size < w2.heap.size from (Array.getElem?_eq_some_iff.1 HBX.out).1)
  go_wp2_with fail
  refine (CP.out _).mono ?_
  clear CP
  rintro e w3 ⟨rfl, rfl⟩
  have HB9 := hid (heap_alloc_new w2 (.cells #[.slice none 0 0, .bool false, .slice none 0 0, .slice none 0 0] 42))
  have HBX := hid (((Ext.refl w2).alloc (.cells #[.slice none 0 0, .bool false, .slice none 0 0, .slice none 0 0] 42)).heap HBX.out)
  have HE := hid (HE.out.trans ((Ext.refl w2).alloc (.cells #[.slice none 0 0, .bool false, .slice none 0 0, .slice none 0 0] 42)))
  go_wp2_with fail
  refine (RD.out _ HE.out).mono ?_
  clear RD
  rintro e w4 ⟨v', rfl, h1, E4⟩
  obtain ⟨ac, kc, rfl⟩ := own_form h1
  have HB9 := hid (E4.heap HB9.out)
  have HBX := hid (E4.heap HBX.out)
  have HE := hid (HE.out.trans E4)
  have c9 := blk4 HB9.out
  obtain ⟨g1, g2, g3, g4⟩ := frz4 HB9.out
  have hne : w.heap.size ≠ w2.heap.size := by have := HLT.out; omega
  have HOP := hid h1
  clear h1 E4
  have HB9 := hid (set4_0 HB9.out (.slice ac (deedRd (s.extract 0 k)).2.length kc))
  have HBX : Hid ((w4.setCell ⟨w2.heap.size, 0, none⟩ (.slice ac (deedRd (s.extract 0 k)).2.length kc)).heap[w.heap.size]? = _) := hid (heap_set_far HBX.out hne)
  have HE := hid (HE.out.setCell (p := ⟨w2.heap.size, 0, none⟩) (by show w.heap.size ≤ w2.heap.size; have := HLT.out; omega) (.slice ac (deedRd (s.extract 0 k)).2.length kc))
  have b1' := blk4 HBX.out
  obtain ⟨f1, f2, f3, f4⟩ := frz4 HBX.out
  have r4 := blk4 (blk4_sA HBX.out (.slice none 0 0) (.bool false) (.slice none 0 0) (.slice none 0 0))
  go_wp2
  exact bodyPost_ret (v := .tuple #[evV eZ, .int .i64 0, .int .i64 (deedRd (s.extract 0 k)).1]) (by simp [results, Tryz.results86, go_sem, r4.1, r4.2.1, r4.2.2.1, r4.2.2.2, evV, eZ]) rfl ⟨eZ, rfl, eZ_st _ _, fun _ => rfl, ext_s4 HE.out (Nat.le_refl _) _ _ _ _⟩
set_option maxRecDepth 10000 in
set_option maxHeartbeats 2000000 in
theorem trd_7 (s : ByteArray) (w : World) (L : LaidT w) (hs : s.size ≤ 4000000000) (a : Nat) (ha : a < s.size) (hx : Lib.indexByte s.data.toList 10 = (a : Int)) (k : Nat) (hk : k < a) (hy : Lib.lastIndexByte (s.extract 0 a) 32 = (k : Int)) (v : Int) (hn : numL (s.extract (k + 1) a).data.toList = some v) (hv : v = (sbL (s.extract 0 k).data.toList : Int)) (hp : mapW.isPrefixOf (s.extract 0 k).data.toList = true) (he : (mapRd (bA ((s.extract 0 k).data.toList.drop 4))).1 = 0) :
    Calls Tryz.prog 86 #[.string s] w fun e w' => ∃ e4 : EV, e = .returned (.tuple #[evV e4, .int .i64 ((a : Int) + 1), .int .i64 0]) ∧ EntSt w.heap.size w' e4 ⟨[], true, (mapRd (bA ((s.extract 0 k).data.toList.drop 4))).2.1, (mapRd (bA ((s.extract 0 k).data.toList.drop 4))).2.2⟩ ∧ (0 ≠ (0 : Int) → e4 = eZ) ∧ Ext w w' := by
  have HBX := hid (heap_alloc_new w (.cells #[.slice none 0 0, .bool false, .slice none 0 0, .slice none 0 0] 42))
  have HE := hid ((Ext.refl w).alloc (.cells #[.slice none 0 0, .bool false, .slice none 0 0, .slice none 0 0] 42))
  have IB := hid (fun w' => Any.strings_IndexByte lays137 s 10 w')
  rw [show ((10 : Int).toNat.toUInt8) = (10 : UInt8) from rfl, hx] at IB
  have hz1 : (s.extract 0 a).size ≤ 4000000000 := by simp; omega
  have LX := hid (fun w' => Any.strings_LastIndexByte lays149 (s.extract 0 a) 32 (by omega) w')
  rw [hy] at LX
  have ha0 : ¬ ((a : Int) < 0) := by omega
  have hz2 : (s.extract (k + 1) a).size ≤ 4000000000 := by simp; omega
  have hz3 : (s.extract 0 k).size ≤ 4000000000 := by simp; omega
  have hk0 : ¬ ((k : Int) < 0) := by omega
  have NM := hid (fun w' (q : Ext w w') => num_yes (s.extract (k + 1) a) v w' (L.ext q) (by omega) hn)
  have TS := hid (fun w' => tsum_any (s.extract 0 k) w' hz3)
  generalize sbL (s.extract 0 k).data.toList = sv at TS hv
  have q4 : (v != (sv : Int)) = false := by simp [hv]
  have CP := hid (fun w' => Any.strings_CutPrefix lays103 (s.extract 0 k) ⟨#[109, 97, 112, 32]⟩ w')
  rw [show Lib.hasPrefix (s.extract 0 k).data.toList (⟨#[109, 97, 112, 32]⟩ : ByteArray).data.toList = true from hp] at CP
  rw [show Lib.trimPrefix (s.extract 0 k).data.toList (⟨#[109, 97, 112, 32]⟩ : ByteArray).data.toList = (s.extract 0 k).data.toList.drop 4 from if_pos hp] at CP
  have hz4 : (bA ((s.extract 0 k).data.toList.drop 4)).size ≤ 4000000000 := by rw [bA_size, List.length_drop, toL_len]; omega
  have RM := hid (fun w' (q : Ext w w') => treadmap_any (bA ((s.extract 0 k).data.toList.drop 4)) w' (L.ext q) hz4)
  have CP : Hid (∀ w', Calls _ _ _ w' fun e w2 => e = .returned (.tuple #[.string (bA ((s.extract 0 k).data.toList.drop 4)), .bool true]) ∧ w2 = w') := CP
  generalize bA ((s.extract 0 k).data.toList.drop 4) = rest at CP RM he ⊢
  rw [he] at RM
  clear hx L hy hn hv hp he
  go_enter Tryz.func86, Tryz.ntmps86
  go_wp2_with fail
  refine (IB.out _).mono ?_
  clear IB
  rintro e w1 ⟨rfl, rfl⟩
  go_wp2_with fail
  refine (LX.out _).mono ?_
  clear LX
  rintro e w1 ⟨rfl, rfl⟩
  go_wp2_with fail
  refine (NM.out _ HE.out).mono ?_
  clear NM
  rintro e w1 ⟨rfl, E1⟩
  have HBX := hid (E1.heap HBX.out)
  have HE := hid (HE.out.trans E1)
  clear E1
  go_wp2_with fail
  refine (TS.out _).mono ?_
  clear TS
  rintro e w2 ⟨rfl, rfl⟩
  have HLT := hid (show w.heap.size < w2.heap.size from (Array.getElem?_eq_some_iff.1 HBX.out).1)
  go_wp2_with fail
  refine (CP.out _).mono ?_
  clear CP
  rintro e w3 ⟨rfl, rfl⟩
  have HB9 := hid (heap_alloc_new w2 (.cells #[.slice none 0 0, .bool true, .slice none 0 0, .slice none 0 0] 42))
  have HBX := hid (((Ext.refl w2).alloc (.cells #[.slice none 0 0, .bool true, .slice none 0 0, .slice none 0 0] 42)).heap HBX.out)
  have HE := hid (HE.out.trans ((Ext.refl w2).alloc (.cells #[.slice none 0 0, .bool true, .slice none 0 0, .slice none 0 0] 42)))
  go_wp2_with fail
  refine (RM.out _ HE.out).mono ?_
  clear RM
  rintro e w4 ⟨v', rfl, ⟨cv, ov, rfl, h1, h2⟩, E4⟩
  obtain ⟨ac, kc, rfl⟩ := own_form h1
  obtain ⟨ao, ko, rfl⟩ := own_form h2
  have HB9 := hid (E4.heap HB9.out)
  have HBX := hid (E4.heap HBX.out)
  have HE := hid (HE.out.trans E4)
  have c9 := blk4 HB9.out
  obtain ⟨g1, g2, g3, g4⟩ := frz4 HB9.out
  have hne : w.heap.size ≠ w2.heap.size := by have := HLT.out; omega
  have HOC := hid h1
  have HOO := hid h2
  clear h1 h2 E4
  have HB9 := hid (set4_3 (set4_2 HB9.out (.slice ac (mapRd rest).2.1.length kc)) (.slice ao (mapRd rest).2.2.length ko))
  have HBX : Hid ((((w4.setCell ⟨w2.heap.size, 2, none⟩ (.slice ac (mapRd rest).2.1.length kc)).setCell ⟨w2.heap.size, 3, none⟩ (.slice ao (mapRd rest).2.2.length ko))).heap[w.heap.size]? = _) := hid (heap_set_far (heap_set_far HBX.out hne) hne)
  have HE := hid ((HE.out.setCell (p := ⟨w2.heap.size, 2, none⟩) (by show w.heap.size ≤ w2.heap.size; have := HLT.out; omega) (.slice ac (mapRd rest).2.1.length kc)).setCell (p := ⟨w2.heap.size, 3, none⟩) (by show w.heap.size ≤ w2.heap.size; have := HLT.out; omega) (.slice ao (mapRd rest).2.2.length ko))
  have d9 := blk4 HB9.out
  have b1' := blk4 HBX.out
  obtain ⟨f1, f2, f3, f4⟩ := frz4 HBX.out
  have r4 := blk4 (blk4_sA HBX.out (.slice none 0 0) (.bool true) ((.slice ac (mapRd rest).2.1.length kc)) ((.slice ao (mapRd rest).2.2.length ko)))
  have hB : w.heap.size ≤ (w2.alloc (.cells #[.slice none 0 0, .bool true, .slice none 0 0, .slice none 0 0] 42)).heap.size := by simp; have := HLT.out; omega
  have h9 : w2.heap.size < (w2.alloc (.cells #[.slice none 0 0, .bool true, .slice none 0 0, .slice none 0 0] 42)).heap.size := by simp
  have h0 : w.heap.size < (w2.alloc (.cells #[.slice none 0 0, .bool true, .slice none 0 0, .slice none 0 0] 42)).heap.size := by simp; have := HLT.out; omega
  have HH := hid (And.intro hB (And.intro h9 h0))
  clear hB h9 h0
  go_wp2
  obtain ⟨hB, h9, h0⟩ := HH.out
  exact bodyPost_ret (v := .tuple #[evV (.slice none 0 0, true, (.slice ac (mapRd rest).2.1.length kc), (.slice ao (mapRd rest).2.2.length ko)), .int .i64 ((a : Int) + 1), .int .i64 0]) (by simp [results, Tryz.results86, go_sem, r4.1, r4.2.1, r4.2.2.1, r4.2.2.2, evV]) rfl ⟨(.slice none 0 0, true, (.slice ac (mapRd rest).2.1.length kc), (.slice ao (mapRd rest).2.2.length ko)), rfl, ⟨World.ownsRow_nil _ _ _ _, rfl, own_base (own_set_far (own_set_far (own_set_far (own_set_far (own_set_far (own_set_far HOC.out h9) h9) h0) h0) h0) h0) hB, own_base (own_set_far (own_set_far (own_set_far (own_set_far (own_set_far (own_set_far HOO.out h9) h9) h0) h0) h0) h0) hB⟩, fun h => absurd rfl h, ext_s4 HE.out (Nat.le_refl _) _ _ _ _⟩
set_option maxRecDepth 10000 in
set_option maxHeartbeats 2000000 in
theorem trd_8 (s : ByteArray) (w : World) (L : LaidT w) (hs : s.size ≤ 4000000000) (a : Nat) (ha : a < s.size) (hx : Lib.indexByte s.data.toList 10 = (a : Int)) (k : Nat) (hk : k < a) (hy : Lib.lastIndexByte (s.extract 0 a) 32 = (k : Int)) (v : Int) (hn : numL (s.extract (k + 1) a).data.toList = some v) (hv : v = (sbL (s.extract 0 k).data.toList : Int)) (hp : mapW.isPrefixOf (s.extract 0 k).data.toList = false) (he : (deedRd (s.extract 0 k)).1 = 0) :
    Calls Tryz.prog 86 #[.string s] w fun e w' => ∃ e4 : EV, e = .returned (.tuple #[evV e4, .int .i64 ((a : Int) + 1), .int .i64 0]) ∧ EntSt w.heap.size w' e4 ⟨(deedRd (s.extract 0 k)).2, false, [], []⟩ ∧ (0 ≠ (0 : Int) → e4 = eZ) ∧ Ext w w' := by
  have HBX := hid (heap_alloc_new w (.cells #[.slice none 0 0, .bool false, .slice none 0 0, .slice none 0 0] 42))
  have HE := hid ((Ext.refl w).alloc (.cells #[.slice none 0 0, .bool false, .slice none 0 0, .slice none 0 0] 42))
  have IB := hid (fun w' => Any.strings_IndexByte lays137 s 10 w')
  rw [show ((10 : Int).toNat.toUInt8) = (10 : UInt8) from rfl, hx] at IB
  have hz1 : (s.extract 0 a).size ≤ 4000000000 := by simp; omega
  have LX := hid (fun w' => Any.strings_LastIndexByte lays149 (s.extract 0 a) 32 (by omega) w')
  rw [hy] at LX
  have ha0 : ¬ ((a : Int) < 0) := by omega
  have hz2 : (s.extract (k + 1) a).size ≤ 4000000000 := by simp; omega
  have hz3 : (s.extract 0 k).size ≤ 4000000000 := by simp; omega
  have hk0 : ¬ ((k : Int) < 0) := by omega
  have NM := hid (fun w' (q : Ext w w') => num_yes (s.extract (k + 1) a) v w' (L.ext q) (by omega) hn)
  have TS := hid (fun w' => tsum_any (s.extract 0 k) w' hz3)
  generalize sbL (s.extract 0 k).data.toList = sv at TS hv
  have q4 : (v != (sv : Int)) = false := by simp [hv]
  have CP := hid (fun w' => Any.strings_CutPrefix lays103 (s.extract 0 k) ⟨#[109, 97, 112, 32]⟩ w')
  rw [show Lib.hasPrefix (s.extract 0 k).data.toList (⟨#[109, 97, 112, 32]⟩ : ByteArray).data.toList = false from hp] at CP
  generalize Lib.trimPrefix (s.extract 0 k).data.toList (⟨#[109, 97, 112, 32]⟩ : ByteArray).data.toList = junk at CP
  have RD := hid (fun w' (q : Ext w w') => treaddeed_any (s.extract 0 k) w' (L.ext q) hz3)
  rw [he] at RD
  clear hx L hy hn hv hp he
  go_enter Tryz.func86, Tryz.ntmps86
  go_wp2_with fail
  refine (IB.out _).mono ?_
  clear IB
  rintro e w1 ⟨rfl, rfl⟩
  go_wp2_with fail
  refine (LX.out _).mono ?_
  clear LX
  rintro e w1 ⟨rfl, rfl⟩
  go_wp2_with fail
  refine (NM.out _ HE.out).mono ?_
  clear NM
  rintro e w1 ⟨rfl, E1⟩
  have HBX := hid (E1.heap HBX.out)
  have HE := hid (HE.out.trans E1)
  clear E1
  go_wp2_with fail
  refine (TS.out _).mono ?_
  clear TS
  rintro e w2 ⟨rfl, rfl⟩
  have HLT := hid (show w.heap.size < w2.heap.size from (Array.getElem?_eq_some_iff.1 HBX.out).1)
  go_wp2_with fail
  refine (CP.out _).mono ?_
  clear CP
  rintro e w3 ⟨rfl, rfl⟩
  have HB9 := hid (heap_alloc_new w2 (.cells #[.slice none 0 0, .bool false, .slice none 0 0, .slice none 0 0] 42))
  have HBX := hid (((Ext.refl w2).alloc (.cells #[.slice none 0 0, .bool false, .slice none 0 0, .slice none 0 0] 42)).heap HBX.out)
  have HE := hid (HE.out.trans ((Ext.refl w2).alloc (.cells #[.slice none 0 0, .bool false, .slice none 0 0, .slice none 0 0] 42)))
  go_wp2_with fail
  refine (RD.out _ HE.out).mono ?_
  clear RD
  rintro e w4 ⟨v', rfl, h1, E4⟩
  obtain ⟨ac, kc, rfl⟩ := own_form h1
  have HB9 := hid (E4.heap HB9.out)
  have HBX := hid (E4.heap HBX.out)
  have HE := hid (HE.out.trans E4)
  have c9 := blk4 HB9.out
  obtain ⟨g1, g2, g3, g4⟩ := frz4 HB9.out
  have hne : w.heap.size ≠ w2.heap.size := by have := HLT.out; omega
  have HOP := hid h1
  clear h1 E4
  have HB9 := hid (set4_0 HB9.out (.slice ac (deedRd (s.extract 0 k)).2.length kc))
  have HBX : Hid ((w4.setCell ⟨w2.heap.size, 0, none⟩ (.slice ac (deedRd (s.extract 0 k)).2.length kc)).heap[w.heap.size]? = _) := hid (heap_set_far HBX.out hne)
  have HE := hid (HE.out.setCell (p := ⟨w2.heap.size, 0, none⟩) (by show w.heap.size ≤ w2.heap.size; have := HLT.out; omega) (.slice ac (deedRd (s.extract 0 k)).2.length kc))
  have d9 := blk4 HB9.out
  have b1' := blk4 HBX.out
  obtain ⟨f1, f2, f3, f4⟩ := frz4 HBX.out
  have r4 := blk4 (blk4_sA HBX.out ((.slice ac (deedRd (s.extract 0 k)).2.length kc)) (.bool false) (.slice none 0 0) (.slice none 0 0))
  have hB : w.heap.size ≤ (w2.alloc (.cells #[.slice none 0 0, .bool false, .slice none 0 0, .slice none 0 0] 42)).heap.size := by simp; have := HLT.out; omega
  have h9 : w2.heap.size < (w2.alloc (.cells #[.slice none 0 0, .bool false, .slice none 0 0, .slice none 0 0] 42)).heap.size := by simp
  have h0 : w.heap.size < (w2.alloc (.cells #[.slice none 0 0, .bool false, .slice none 0 0, .slice none 0 0] 42)).heap.size := by simp; have := HLT.out; omega
  have HH := hid (And.intro hB (And.intro h9 h0))
  clear hB h9 h0
  go_wp2
  obtain ⟨hB, h9, h0⟩ := HH.out
  exact bodyPost_ret (v := .tuple #[evV ((.slice ac (deedRd (s.extract 0 k)).2.length kc), false, .slice none 0 0, .slice none 0 0), .int .i64 ((a : Int) + 1), .int .i64 0]) (by simp [results, Tryz.results86, go_sem, r4.1, r4.2.1, r4.2.2.1, r4.2.2.2, evV]) rfl ⟨((.slice ac (deedRd (s.extract 0 k)).2.length kc), false, .slice none 0 0, .slice none 0 0), rfl, ⟨own_base (own_set_far (own_set_far (own_set_far (own_set_far (own_set_far HOP.out h9) h0) h0) h0) h0) hB, rfl, World.ownsRow_nil _ _ _ _, World.ownsRow_nil _ _ _ _⟩, fun h => absurd rfl h, ext_s4 HE.out (Nat.le_refl _) _ _ _ _⟩
end Go.Proofs.YtddghaoejnbkaaaGreatDoor
