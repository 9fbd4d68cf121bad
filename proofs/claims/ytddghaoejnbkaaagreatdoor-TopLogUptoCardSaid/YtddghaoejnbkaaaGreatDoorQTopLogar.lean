/- Contracts and lemmas for the proof of TopLog; each theorem states its own conditions. -/
import Derived.Test.YtddghaoejnbkaaaGreatDoorQTopLogae
import Derived.Test.YtddghaoejnbkaaaGreatDoorQTopLogap
import Derived.Test.YtddghaoejnbkaaaGreatDoorQTopLogaq
set_option linter.unusedVariables false
set_option linter.unusedSimpArgs false
/- Contracts and lemmas for the proofs of this seat; each theorem states its own conditions. -/
namespace Go.Proofs.YtddghaoejnbkaaaGreatDoor
open Go.RowKit
/-! text.readOp -/
theorem blk4_sA {w : World} {b : Nat} {x y z u : Value} {t : TypeId} (h : w.heap[b]? = some (.cells #[x, y, z, u] t (0, 0))) (x' y' z' u' : Value) :
    ((((w.setCell ⟨b, 0, none⟩ x').setCell ⟨b, 1, none⟩ y').setCell ⟨b, 2, none⟩ z').setCell ⟨b, 3, none⟩ u').heap[b]? = some (.cells #[x', y', z', u'] t (0, 0)) := by
  simp [World.setCell, Array.getElem?_modify, h]
theorem ext_s4 {w0 w : World} (E : Ext w0 w) {p : Nat} (hp : w0.heap.size ≤ p) (x y z u : Value) :
    Ext w0 ((((w.setCell ⟨p, 0, none⟩ x).setCell ⟨p, 1, none⟩ y).setCell ⟨p, 2, none⟩ z).setCell ⟨p, 3, none⟩ u) :=
  (((E.setCell hp _).setCell hp _).setCell hp _).setCell hp _
theorem ix_any (s : ByteArray) (w : World) (hs : s.size < 4294967281) : Calls Tryz.prog 235 #[.string s, .string ⟨#[61, 43, 60, 63]⟩] w fun e w' => e = .returned (.int .i64 (Lib.indexAny s.data.toList [61, 43, 60, 63])) ∧ Ext w w' := by
  by_cases h8 : s.size ≤ 8
  · exact ixShort s w h8
  · have h116 : (Tryz.prog.info? (lays153_ren.t 116)).map (fun i => (i.zero, i.size)) = some (some (.agg (Array.replicate 256 (.bool false))), 256) := by kernel_rfl
    refine (Any.strings_IndexAny_long lays153 (zero_of_info h116).1 (zero_of_info h116).2 s ⟨#[61, 43, 60, 63]⟩ w (by decide) (by omega) hs (by decide) (fun j b hb => ?_)).mono ?_
    · have hm : b ∈ ([61, 43, 60, 63] : List UInt8) := List.mem_of_getElem? hb
      simp only [List.mem_cons, List.not_mem_nil, or_false] at hm
      rcases hm with rfl | rfl | rfl | rfl <;> decide
    · rintro e w' ⟨rfl, rfl⟩
      exact ⟨rfl, ((Ext.refl w).alloc _).alloc _⟩
theorem cut_any2 (s : ByteArray) (c : UInt8) (w : World) (L : LaidT w) (hs : s.size < 4294967281) :
    Calls Tryz.prog 236 #[.string s, .string ⟨#[c]⟩] w fun e w' => e = .returned (.tuple #[.string (bA (Lib.cut s.data.toList [c]).1), .string (bA (Lib.cut s.data.toList [c]).2.1), .bool (Lib.cut s.data.toList [c]).2.2]) ∧ Ext w w' := by
  obtain ⟨m, hm⟩ := L.mx
  refine (Any.strings_Cut lays145 s ⟨#[c]⟩ m w hs hm).mono ?_
  rintro e w' ⟨rfl, n, rfl⟩
  exact ⟨rfl, (Ext.refl w).drewN n⟩
def opV (o : GOp) : Value := .agg #[.int .i64 o.kind, .string o.key, .string o.from_, .int .i64 o.n]
def opZ : Value := .agg #[.int .i64 0, .string ⟨#[]⟩, .string ⟨#[]⟩, .int .i64 0]
set_option maxRecDepth 10000 in
set_option maxHeartbeats 2000000 in
theorem treadop_neg (s : ByteArray) (w : World) (hs : s.size ≤ 4000000000) (h : Lib.indexAny s.data.toList [61, 43, 60, 63] < 0) :
    Calls Tryz.prog 176 #[.string s] w fun e w' => e = .returned (.tuple #[opZ, .bool false]) ∧ Ext w w' := by
  have E0 := (Ext.refl w).alloc (.cells #[.int .i64 0, .string ⟨#[]⟩, .string ⟨#[]⟩, .int .i64 0] 125)
  have b0 := heap_alloc_new w (.cells #[.int .i64 0, .string ⟨#[]⟩, .string ⟨#[]⟩, .int .i64 0] 125)
  have IX := hid (ix_any s (w.alloc (.cells #[.int .i64 0, .string ⟨#[]⟩, .string ⟨#[]⟩, .int .i64 0] 125)) (by omega))
  generalize Lib.indexAny s.data.toList [61, 43, 60, 63] = ix at IX h
  go_enter Tryz.func176, Tryz.ntmps176
  go_wp2_with fail
  refine (IX.out).mono ?_
  clear IX
  rintro e w1 ⟨rfl, E1⟩
  have b1 := E1.heap b0
  have b1' := blk4 b1
  have f1 := frz4 b1
  obtain ⟨f1, f2, f3, f4⟩ := f1
  have b2 := blk4_sA b1 (.int .i64 0) (.string ⟨#[]⟩) (.string ⟨#[]⟩) (.int .i64 0)
  have r4 := blk4 b2
  have HE := hid (E0.trans E1)
  clear b0 E0 E1
  go_wp2
  exact bodyPost_ret (v := .tuple #[opZ, .bool false]) (by simp [results, Tryz.results176, go_sem, r4.1, r4.2.1, r4.2.2.1, r4.2.2.2, opZ]) rfl ⟨rfl, ext_s4 HE.out (by omega) _ _ _ _⟩
end Go.Proofs.YtddghaoejnbkaaaGreatDoor

/- Contracts and lemmas for the proofs of this seat; each theorem states its own conditions. -/
namespace Go.Proofs.YtddghaoejnbkaaaGreatDoor
open Go.RowKit
/-! text.readOp, where an operation's sign is found -/
theorem set4_0 {w : World} {b : Nat} {x y z u : Value} {t : TypeId} (h : w.heap[b]? = some (.cells #[x, y, z, u] t (0, 0))) (x' : Value) :
    (w.setCell ⟨b, 0, none⟩ x').heap[b]? = some (.cells #[x', y, z, u] t (0, 0)) := by
  simp [World.setCell, Array.getElem?_modify, h]
theorem set4_2 {w : World} {b : Nat} {x y z u : Value} {t : TypeId} (h : w.heap[b]? = some (.cells #[x, y, z, u] t (0, 0))) (x' : Value) :
    (w.setCell ⟨b, 2, none⟩ x').heap[b]? = some (.cells #[x, y, x', u] t (0, 0)) := by
  simp [World.setCell, Array.getElem?_modify, h]
theorem set4_3 {w : World} {b : Nat} {x y z u : Value} {t : TypeId} (h : w.heap[b]? = some (.cells #[x, y, z, u] t (0, 0))) (x' : Value) :
    (w.setCell ⟨b, 3, none⟩ x').heap[b]? = some (.cells #[x, y, z, x'] t (0, 0)) := by
  simp [World.setCell, Array.getElem?_modify, h]
theorem num_one (q : ByteArray) (w : World) (L : LaidT w) (hq : q.size ≤ 4000000000) : Calls Tryz.prog 124 #[.string q] w fun e w2 => ∃ n ok, e = .returned (.tuple #[.int .i64 n, .bool ok]) ∧ Ext w w2 ∧ (∀ v, numL q.data.toList = some v → n = v ∧ ok = true) ∧ (numL q.data.toList = none → ok = false) := by
  cases h : numL q.data.toList with
  | some v =>
    refine (num_yes q v w L (by omega) h).mono ?_
    rintro e w2 ⟨rfl, E⟩
    exact ⟨v, true, rfl, E, (fun u hu => by injection hu with hu; exact ⟨hu, rfl⟩), (fun hu => by cases hu)⟩
  | none =>
    refine (num_no q w L (by omega) h).mono ?_
    rintro e w2 ⟨n, rfl, E⟩
    exact ⟨n, false, rfl, E, (fun u hu => by cases hu), (fun _ => rfl)⟩
set_option maxRecDepth 10000 in
set_option maxHeartbeats 2000000 in
theorem treadop_1 (s : ByteArray) (k : Nat) (w : World) (L : LaidT w) (hs : s.size ≤ 4000000000) (hk : k < s.size) (hx : Lib.indexAny s.data.toList [61, 43, 60, 63] = (k : Int)) (hc : s[k]'hk = 61) :
    Calls Tryz.prog 176 #[.string s] w fun e w' => ∃ n ok, e = .returned (.tuple #[.agg #[.int .i64 1, .string (s.extract 0 k), .string ⟨#[]⟩, .int .i64 n], .bool ok]) ∧ (∀ v, numL (s.extract (k + 1) s.size).data.toList = some v → n = v ∧ ok = true) ∧ (numL (s.extract (k + 1) s.size).data.toList = none → ok = false) ∧ Ext w w' := by
  have E0 := (Ext.refl w).alloc (.cells #[.int .i64 0, .string ⟨#[]⟩, .string ⟨#[]⟩, .int .i64 0] 125)
  have b0 := heap_alloc_new w (.cells #[.int .i64 0, .string ⟨#[]⟩, .string ⟨#[]⟩, .int .i64 0] 125)
  have IX := ix_any s (w.alloc (.cells #[.int .i64 0, .string ⟨#[]⟩, .string ⟨#[]⟩, .int .i64 0] 125)) (by omega)
  rw [hx] at IX
  have IX := hid IX
  have hz : (s.extract (k + 1) s.size).size ≤ 4000000000 := by simp; omega
  have NM := hid (fun w' (q : Ext w w') => num_one (s.extract (k + 1) s.size) w' (L.ext q) hz)
  go_enter Tryz.func176, Tryz.ntmps176
  go_wp2_with fail
  refine (IX.out).mono ?_
  clear IX
  rintro e w1 ⟨rfl, E1⟩
  have b1 := E1.heap b0
  have hlt := (Array.getElem?_eq_some_iff.1 b1).1
  have hk0 : ¬ ((k : Int) < 0) := by omega
  have EW := hid (E0.trans E1)
  have HB := hid b1
  have HLT := hid hlt
  clear b0 b1 hlt hx E0 E1
  go_wp2_with fail
  have EA := (Ext.refl w1).alloc (.cells #[.int .i64 1, .string (s.extract 0 k), .string ⟨#[]⟩, .int .i64 0] 125)
  have bA5 := heap_alloc_new w1 (.cells #[.int .i64 1, .string (s.extract 0 k), .string ⟨#[]⟩, .int .i64 0] 125)
  refine (NM.out _ (EW.out.trans EA)).mono ?_
  clear NM
  rintro e w2 ⟨n, ok, rfl, E2, hy, hn⟩
  have b5 := E2.heap bA5
  have EA2 := EA.trans E2
  have b2 := EA2.heap HB.out
  have c5 := blk4 b5
  obtain ⟨f1, f2, f3, f4⟩ := frz4 b5
  have b5' := set4_3 b5 (.int .i64 n)
  have d5 := blk4 b5'
  have hne : w.heap.size ≠ w1.heap.size := by have := HLT.out; omega
  have b2' : (w2.setCell ⟨w1.heap.size, 3, none⟩ (.int .i64 n)).heap[w.heap.size]? = _ := heap_set_far b2 hne
  have c2 := blk4 b2'
  obtain ⟨g1, g2, g3, g4⟩ := frz4 b2'
  have b2s := blk4_sA b2' (.int .i64 1) (.string (s.extract 0 k)) (.string ⟨#[]⟩) (.int .i64 n)
  have r4 := blk4 b2s
  have HF := hid (ext_s4 ((EW.out.trans EA2).setCell (p := ⟨w1.heap.size, 3, none⟩) (by show w.heap.size ≤ w1.heap.size; have := HLT.out; omega) (.int .i64 n)) (p := w.heap.size) (Nat.le_refl _) (.int .i64 1) (.string (s.extract 0 k)) (.string ⟨#[]⟩) (.int .i64 n))
  have HY := hid (And.intro hy hn)
  clear EA EA2 E2 bA5 b5 b2 hy hn b5' b2' b2s
  go_wp2
  exact bodyPost_ret (v := .tuple #[.agg #[.int .i64 1, .string (s.extract 0 k), .string ⟨#[]⟩, .int .i64 n], .bool ok]) (by simp [results, Tryz.results176, go_sem, r4.1, r4.2.1, r4.2.2.1, r4.2.2.2]) rfl ⟨n, ok, rfl, HY.out.1, HY.out.2, HF.out⟩
set_option maxRecDepth 10000 in
set_option maxHeartbeats 2000000 in
theorem treadop_2 (s : ByteArray) (k : Nat) (w : World) (L : LaidT w) (hs : s.size ≤ 4000000000) (hk : k < s.size) (hx : Lib.indexAny s.data.toList [61, 43, 60, 63] = (k : Int)) (hc : s[k]'hk = 43) :
    Calls Tryz.prog 176 #[.string s] w fun e w' => ∃ n ok, e = .returned (.tuple #[.agg #[.int .i64 2, .string (s.extract 0 k), .string ⟨#[]⟩, .int .i64 n], .bool ok]) ∧ (∀ v, numL (s.extract (k + 1) s.size).data.toList = some v → n = v ∧ ok = true) ∧ (numL (s.extract (k + 1) s.size).data.toList = none → ok = false) ∧ Ext w w' := by
  have E0 := (Ext.refl w).alloc (.cells #[.int .i64 0, .string ⟨#[]⟩, .string ⟨#[]⟩, .int .i64 0] 125)
  have b0 := heap_alloc_new w (.cells #[.int .i64 0, .string ⟨#[]⟩, .string ⟨#[]⟩, .int .i64 0] 125)
  have IX := ix_any s (w.alloc (.cells #[.int .i64 0, .string ⟨#[]⟩, .string ⟨#[]⟩, .int .i64 0] 125)) (by omega)
  rw [hx] at IX
  have IX := hid IX
  have hz : (s.extract (k + 1) s.size).size ≤ 4000000000 := by simp; omega
  have NM := hid (fun w' (q : Ext w w') => num_one (s.extract (k + 1) s.size) w' (L.ext q) hz)
  go_enter Tryz.func176, Tryz.ntmps176
  go_wp2_with fail
  refine (IX.out).mono ?_
  clear IX
  rintro e w1 ⟨rfl, E1⟩
  have b1 := E1.heap b0
  have hlt := (Array.getElem?_eq_some_iff.1 b1).1
  have hk0 : ¬ ((k : Int) < 0) := by omega
  have EW := hid (E0.trans E1)
  have HB := hid b1
  have HLT := hid hlt
  clear b0 b1 hlt hx E0 E1
  go_wp2_with fail
  have EA := (Ext.refl w1).alloc (.cells #[.int .i64 2, .string (s.extract 0 k), .string ⟨#[]⟩, .int .i64 0] 125)
  have bA5 := heap_alloc_new w1 (.cells #[.int .i64 2, .string (s.extract 0 k), .string ⟨#[]⟩, .int .i64 0] 125)
  refine (NM.out _ (EW.out.trans EA)).mono ?_
  clear NM
  rintro e w2 ⟨n, ok, rfl, E2, hy, hn⟩
  have b5 := E2.heap bA5
  have EA2 := EA.trans E2
  have b2 := EA2.heap HB.out
  have c5 := blk4 b5
  obtain ⟨f1, f2, f3, f4⟩ := frz4 b5
  have b5' := set4_3 b5 (.int .i64 n)
  have d5 := blk4 b5'
  have hne : w.heap.size ≠ w1.heap.size := by have := HLT.out; omega
  have b2' : (w2.setCell ⟨w1.heap.size, 3, none⟩ (.int .i64 n)).heap[w.heap.size]? = _ := heap_set_far b2 hne
  have c2 := blk4 b2'
  obtain ⟨g1, g2, g3, g4⟩ := frz4 b2'
  have b2s := blk4_sA b2' (.int .i64 2) (.string (s.extract 0 k)) (.string ⟨#[]⟩) (.int .i64 n)
  have r4 := blk4 b2s
  have HF := hid (ext_s4 ((EW.out.trans EA2).setCell (p := ⟨w1.heap.size, 3, none⟩) (by show w.heap.size ≤ w1.heap.size; have := HLT.out; omega) (.int .i64 n)) (p := w.heap.size) (Nat.le_refl _) (.int .i64 2) (.string (s.extract 0 k)) (.string ⟨#[]⟩) (.int .i64 n))
  have HY := hid (And.intro hy hn)
  clear EA EA2 E2 bA5 b5 b2 hy hn b5' b2' b2s
  go_wp2
  exact bodyPost_ret (v := .tuple #[.agg #[.int .i64 2, .string (s.extract 0 k), .string ⟨#[]⟩, .int .i64 n], .bool ok]) (by simp [results, Tryz.results176, go_sem, r4.1, r4.2.1, r4.2.2.1, r4.2.2.2]) rfl ⟨n, ok, rfl, HY.out.1, HY.out.2, HF.out⟩
set_option maxRecDepth 10000 in
set_option maxHeartbeats 2000000 in
theorem treadop_4 (s : ByteArray) (k : Nat) (w : World) (L : LaidT w) (hs : s.size ≤ 4000000000) (hk : k < s.size) (hx : Lib.indexAny s.data.toList [61, 43, 60, 63] = (k : Int)) (hc : s[k]'hk = 63) :
    Calls Tryz.prog 176 #[.string s] w fun e w' => ∃ n ok, e = .returned (.tuple #[.agg #[.int .i64 4, .string (s.extract 0 k), .string ⟨#[]⟩, .int .i64 n], .bool ok]) ∧ (∀ v, numL (s.extract (k + 1) s.size).data.toList = some v → n = v ∧ ok = true) ∧ (numL (s.extract (k + 1) s.size).data.toList = none → ok = false) ∧ Ext w w' := by
  have E0 := (Ext.refl w).alloc (.cells #[.int .i64 0, .string ⟨#[]⟩, .string ⟨#[]⟩, .int .i64 0] 125)
  have b0 := heap_alloc_new w (.cells #[.int .i64 0, .string ⟨#[]⟩, .string ⟨#[]⟩, .int .i64 0] 125)
  have IX := ix_any s (w.alloc (.cells #[.int .i64 0, .string ⟨#[]⟩, .string ⟨#[]⟩, .int .i64 0] 125)) (by omega)
  rw [hx] at IX
  have IX := hid IX
  have hz : (s.extract (k + 1) s.size).size ≤ 4000000000 := by simp; omega
  have NM := hid (fun w' (q : Ext w w') => num_one (s.extract (k + 1) s.size) w' (L.ext q) hz)
  go_enter Tryz.func176, Tryz.ntmps176
  go_wp2_with fail
  refine (IX.out).mono ?_
  clear IX
  rintro e w1 ⟨rfl, E1⟩
  have b1 := E1.heap b0
  have hlt := (Array.getElem?_eq_some_iff.1 b1).1
  have hk0 : ¬ ((k : Int) < 0) := by omega
  have EW := hid (E0.trans E1)
  have HB := hid b1
  have HLT := hid hlt
  clear b0 b1 hlt hx E0 E1
  go_wp2_with fail
  have EA := (Ext.refl w1).alloc (.cells #[.int .i64 4, .string (s.extract 0 k), .string ⟨#[]⟩, .int .i64 0] 125)
  have bA5 := heap_alloc_new w1 (.cells #[.int .i64 4, .string (s.extract 0 k), .string ⟨#[]⟩, .int .i64 0] 125)
  refine (NM.out _ (EW.out.trans EA)).mono ?_
  clear NM
  rintro e w2 ⟨n, ok, rfl, E2, hy, hn⟩
  have b5 := E2.heap bA5
  have EA2 := EA.trans E2
  have b2 := EA2.heap HB.out
  have c5 := blk4 b5
  obtain ⟨f1, f2, f3, f4⟩ := frz4 b5
  have b5' := set4_3 b5 (.int .i64 n)
  have d5 := blk4 b5'
  have hne : w.heap.size ≠ w1.heap.size := by have := HLT.out; omega
  have b2' : (w2.setCell ⟨w1.heap.size, 3, none⟩ (.int .i64 n)).heap[w.heap.size]? = _ := heap_set_far b2 hne
  have c2 := blk4 b2'
  obtain ⟨g1, g2, g3, g4⟩ := frz4 b2'
  have b2s := blk4_sA b2' (.int .i64 4) (.string (s.extract 0 k)) (.string ⟨#[]⟩) (.int .i64 n)
  have r4 := blk4 b2s
  have HF := hid (ext_s4 ((EW.out.trans EA2).setCell (p := ⟨w1.heap.size, 3, none⟩) (by show w.heap.size ≤ w1.heap.size; have := HLT.out; omega) (.int .i64 n)) (p := w.heap.size) (Nat.le_refl _) (.int .i64 4) (.string (s.extract 0 k)) (.string ⟨#[]⟩) (.int .i64 n))
  have HY := hid (And.intro hy hn)
  clear EA EA2 E2 bA5 b5 b2 hy hn b5' b2' b2s
  go_wp2
  exact bodyPost_ret (v := .tuple #[.agg #[.int .i64 4, .string (s.extract 0 k), .string ⟨#[]⟩, .int .i64 n], .bool ok]) (by simp [results, Tryz.results176, go_sem, r4.1, r4.2.1, r4.2.2.1, r4.2.2.2]) rfl ⟨n, ok, rfl, HY.out.1, HY.out.2, HF.out⟩
set_option maxRecDepth 10000 in
set_option maxHeartbeats 2000000 in
theorem treadop_3 (s : ByteArray) (k : Nat) (w : World) (L : LaidT w) (hs : s.size ≤ 4000000000) (hk : k < s.size) (hx : Lib.indexAny s.data.toList [61, 43, 60, 63] = (k : Int)) (hc : s[k]'hk = 60) (hcut : (Lib.cut (s.extract (k + 1) s.size).data.toList [42]).2.2 = false) :
    Calls Tryz.prog 176 #[.string s] w fun e w' => e = .returned (.tuple #[.agg #[.int .i64 3, .string (s.extract 0 k), .string (s.extract (k + 1) s.size), .int .i64 0], .bool true]) ∧ Ext w w' := by
  have E0 := (Ext.refl w).alloc (.cells #[.int .i64 0, .string ⟨#[]⟩, .string ⟨#[]⟩, .int .i64 0] 125)
  have b0 := heap_alloc_new w (.cells #[.int .i64 0, .string ⟨#[]⟩, .string ⟨#[]⟩, .int .i64 0] 125)
  have IX := ix_any s (w.alloc (.cells #[.int .i64 0, .string ⟨#[]⟩, .string ⟨#[]⟩, .int .i64 0] 125)) (by omega)
  rw [hx] at IX
  have IX := hid IX
  have hz : (s.extract (k + 1) s.size).size ≤ 4000000000 := by simp; omega
  have CT := hid (fun w' (q : Ext w w') => by have := cut_any2 (s.extract (k + 1) s.size) 42 w' (L.ext q) (by omega); rw [hcut] at this; exact this)
  go_enter Tryz.func176, Tryz.ntmps176
  go_wp2_with fail
  refine (IX.out).mono ?_
  clear IX
  rintro e w1 ⟨rfl, E1⟩
  have b1 := E1.heap b0
  have hlt := (Array.getElem?_eq_some_iff.1 b1).1
  have hk0 : ¬ ((k : Int) < 0) := by omega
  have EW := hid (E0.trans E1)
  have HB := hid b1
  have HLT := hid hlt
  clear b0 b1 hlt hx E0 E1
  go_wp2_with fail
  have EA := (Ext.refl w1).alloc (.cells #[.int .i64 3, .string (s.extract 0 k), .string (s.extract (k + 1) s.size), .int .i64 0] 125)
  have bA5 := heap_alloc_new w1 (.cells #[.int .i64 3, .string (s.extract 0 k), .string (s.extract (k + 1) s.size), .int .i64 0] 125)
  refine (CT.out _ (EW.out.trans EA)).mono ?_
  clear CT
  rintro e w2 ⟨rfl, E2⟩
  have b5 := E2.heap bA5
  have EA2 := EA.trans E2
  have b2 := EA2.heap HB.out
  have c5 := blk4 b5
  have c2 := blk4 b2
  obtain ⟨g1, g2, g3, g4⟩ := frz4 b2
  have b2s := blk4_sA b2 (.int .i64 3) (.string (s.extract 0 k)) (.string (s.extract (k + 1) s.size)) (.int .i64 0)
  have r4 := blk4 b2s
  have HF := hid (ext_s4 (EW.out.trans EA2) (p := w.heap.size) (Nat.le_refl _) (.int .i64 3) (.string (s.extract 0 k)) (.string (s.extract (k + 1) s.size)) (.int .i64 0))
  clear EA EA2 E2 bA5 b5 b2 b2s
  go_wp2
  exact bodyPost_ret (v := .tuple #[.agg #[.int .i64 3, .string (s.extract 0 k), .string (s.extract (k + 1) s.size), .int .i64 0], .bool true]) (by simp [results, Tryz.results176, go_sem, r4.1, r4.2.1, r4.2.2.1, r4.2.2.2]) rfl ⟨rfl, HF.out⟩
set_option maxRecDepth 10000 in
set_option maxHeartbeats 2000000 in
theorem treadop_5 (s : ByteArray) (k : Nat) (w : World) (L : LaidT w) (hs : s.size ≤ 4000000000) (hk : k < s.size) (hx : Lib.indexAny s.data.toList [61, 43, 60, 63] = (k : Int)) (hc : s[k]'hk = 60) (hcut : (Lib.cut (s.extract (k + 1) s.size).data.toList [42]).2.2 = true) :
    Calls Tryz.prog 176 #[.string s] w fun e w' => ∃ n ok, e = .returned (.tuple #[.agg #[.int .i64 5, .string (s.extract 0 k), .string (bA (Lib.cut (s.extract (k + 1) s.size).data.toList [42]).1), .int .i64 n], .bool ok]) ∧ (∀ v, numL (Lib.cut (s.extract (k + 1) s.size).data.toList [42]).2.1 = some v → n = v ∧ ok = true) ∧ (numL (Lib.cut (s.extract (k + 1) s.size).data.toList [42]).2.1 = none → ok = false) ∧ Ext w w' := by
  have E0 := (Ext.refl w).alloc (.cells #[.int .i64 0, .string ⟨#[]⟩, .string ⟨#[]⟩, .int .i64 0] 125)
  have b0 := heap_alloc_new w (.cells #[.int .i64 0, .string ⟨#[]⟩, .string ⟨#[]⟩, .int .i64 0] 125)
  have IX := ix_any s (w.alloc (.cells #[.int .i64 0, .string ⟨#[]⟩, .string ⟨#[]⟩, .int .i64 0] 125)) (by omega)
  rw [hx] at IX
  have IX := hid IX
  have hz : (s.extract (k + 1) s.size).size ≤ 4000000000 := by simp; omega
  have CT := fun w' (q : Ext w w') => cut_any2 (s.extract (k + 1) s.size) 42 w' (L.ext q) (by omega)
  rw [hcut] at CT
  have hl2 : (Lib.cut (s.extract (k + 1) s.size).data.toList [42]).2.1.length ≤ 4000000000 := by
    have hb := cut_back (x := (s.extract (k + 1) s.size).data.toList) (a := (Lib.cut (s.extract (k + 1) s.size).data.toList [42]).1) (b := (Lib.cut (s.extract (k + 1) s.size).data.toList [42]).2.1) (Prod.ext rfl (Prod.ext rfl hcut))
    have := congrArg List.length hb
    rw [toL_len] at this
    simp only [List.length_append, List.length_cons] at this
    omega
  have NM := fun w' (q : Ext w w') => num_one (bA (Lib.cut (s.extract (k + 1) s.size).data.toList [42]).2.1) w' (L.ext q) (by rw [bA_size]; exact hl2)
  rw [bA_toL] at NM
  clear hcut hl2
  generalize (Lib.cut (s.extract (k + 1) s.size).data.toList [42]).2.1 = c2 at CT NM ⊢
  generalize (Lib.cut (s.extract (k + 1) s.size).data.toList [42]).1 = c1 at CT ⊢
  have CT := hid CT
  have NM := hid NM
  go_enter Tryz.func176, Tryz.ntmps176
  go_wp2_with fail
  refine (IX.out).mono ?_
  clear IX
  rintro e w1 ⟨rfl, E1⟩
  have b1 := E1.heap b0
  have hlt := (Array.getElem?_eq_some_iff.1 b1).1
  have hk0 : ¬ ((k : Int) < 0) := by omega
  have EW := hid (E0.trans E1)
  have HB := hid b1
  have HLT := hid hlt
  clear b0 b1 hlt hx E0 E1
  go_wp2_with fail
  have EA := (Ext.refl w1).alloc (.cells #[.int .i64 3, .string (s.extract 0 k), .string (s.extract (k + 1) s.size), .int .i64 0] 125)
  have bA5 := heap_alloc_new w1 (.cells #[.int .i64 3, .string (s.extract 0 k), .string (s.extract (k + 1) s.size), .int .i64 0] 125)
  refine (CT.out _ (EW.out.trans EA)).mono ?_
  clear CT
  rintro e w2 ⟨rfl, E2⟩
  have b5 := E2.heap bA5
  have EA2 := EA.trans E2
  obtain ⟨f1, f2, f3, f4⟩ := frz4 b5
  have c5 := blk4 b5
  have hne : w.heap.size ≠ w1.heap.size := by have := HLT.out; omega
  have hle : w.heap.size ≤ w1.heap.size := by have := HLT.out; omega
  have b5a := set4_0 b5 (.int .i64 5)
  obtain ⟨h1, h2, h3, h4⟩ := frz4 b5a
  have c5a := blk4 b5a
  have b5b := set4_2 b5a (.string (bA c1))
  have EB := hid (((EW.out.trans EA2).setCell (p := ⟨w1.heap.size, 0, none⟩) hle (.int .i64 5)).setCell (p := ⟨w1.heap.size, 2, none⟩) hle (.string (bA c1)))
  have b2 := heap_set_far (p := ⟨w1.heap.size, 2, none⟩) (u := .string (bA c1)) (heap_set_far (p := ⟨w1.heap.size, 0, none⟩) (u := .int .i64 5) (EA2.heap HB.out) hne) hne
  have HB5 := hid (And.intro b5b b2)
  clear EA EA2 E2 bA5 b5 b5a b2 b5b
  go_wp2_with fail
  refine (NM.out _ EB.out).mono ?_
  clear NM
  rintro e w3 ⟨n, ok, rfl, E3, hy, hn⟩
  have b5 := E3.heap HB5.out.1
  have b2 := E3.heap HB5.out.2
  have EW3 := EB.out.trans E3
  have e5 := blk4 b5
  obtain ⟨i1, i2, i3, i4⟩ := frz4 b5
  have b5' := set4_3 b5 (.int .i64 n)
  have d5 := blk4 b5'
  have b2' : (w3.setCell ⟨w1.heap.size, 3, none⟩ (.int .i64 n)).heap[w.heap.size]? = _ := heap_set_far b2 hne
  have c2' := blk4 b2'
  obtain ⟨g1, g2, g3, g4⟩ := frz4 b2'
  have b2s := blk4_sA b2' (.int .i64 5) (.string (s.extract 0 k)) (.string (bA c1)) (.int .i64 n)
  have r4 := blk4 b2s
  have HF := hid (ext_s4 (EW3.setCell (p := ⟨w1.heap.size, 3, none⟩) hle (.int .i64 n)) (p := w.heap.size) (Nat.le_refl _) (.int .i64 5) (.string (s.extract 0 k)) (.string (bA c1)) (.int .i64 n))
  have HY := hid (And.intro hy hn)
  clear EW3 E3 b5 b2 hy hn b5' b2' b2s f1 f2 f3 f4 c5 h1 h2 h3 h4 c5a
  go_wp2
  exact bodyPost_ret (v := .tuple #[.agg #[.int .i64 5, .string (s.extract 0 k), .string (bA c1), .int .i64 n], .bool ok]) (by simp [results, Tryz.results176, go_sem, r4.1, r4.2.1, r4.2.2.1, r4.2.2.2]) rfl ⟨n, ok, rfl, HY.out.1, HY.out.2, HF.out⟩
end Go.Proofs.YtddghaoejnbkaaaGreatDoor
