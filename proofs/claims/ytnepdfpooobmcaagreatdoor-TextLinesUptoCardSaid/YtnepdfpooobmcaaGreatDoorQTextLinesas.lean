/- Contracts and lemmas for the proof of TextLines; each theorem states its own conditions. -/
import Derived.Shelf.Small.Strs
import Derived.Shelf.Sort.Plain
import Derived.Ground.GgsProg
import Derived.Shelf.GgSortFunc.Tiny
import Derived.Shelf.Slices.CompactS
import Derived.Shelf.Slices.Cells
import Derived.Shelf.Slices.In.SortNone
import Derived.Shelf.SlSortFuncK.WholeK
import Derived.Test.YtnepdfpooobmcaaGreatDoorProg
import Derived.Test.YtnepdfpooobmcaaGreatDoorQTextLinesaa
import Derived.Test.YtnepdfpooobmcaaGreatDoorQTextLinesaq
import Derived.Test.YtnepdfpooobmcaaGreatDoorQTextLinesab
import Derived.Laws.CopyRow
import Derived.Laws.CopyOwn
import Derived.Laws.IdiomCopy
import Derived.Lib.SliceRun
import Derived.Lib.AppendZeros
import Derived.Lib.AppendZerosOnto
import Derived.Shelf.Spec.SlicesInsert
import Derived.Test.YtnepdfpooobmcaaGreatDoorQTextLinesag
import Derived.Test.YtnepdfpooobmcaaGreatDoorQTextLinesak
import Derived.Test.YtnepdfpooobmcaaGreatDoorQTextLinesar
import Derived.Test.YtnepdfpooobmcaaGreatDoorQTextLinesap
import Derived.Test.YtnepdfpooobmcaaGreatDoorQTextLinesae
set_option linter.unusedVariables false
set_option linter.unusedSimpArgs false
/- Contracts and lemmas for the proofs of this seat; each theorem states its own conditions. -/
namespace Go.Proofs.YtnepdfpooobmcaaGreatDoor
open Go.Shelf
end Go.Proofs.YtnepdfpooobmcaaGreatDoor

/- Contracts and lemmas for the proofs of this seat; each theorem states its own conditions. -/
namespace Go.Proofs.YtnepdfpooobmcaaGreatDoor
open Go.RowKit Go.Shelf
end Go.Proofs.YtnepdfpooobmcaaGreatDoor

/- Contracts and lemmas for the proofs of this seat; each theorem states its own conditions. -/
namespace Go.Proofs.YtnepdfpooobmcaaGreatDoor
open Go.RowKit
/-! a row of one's own, told to the cell: built-in copy, append and clear at elements of however many cells -/
def spl (cur : List Value) (o : Nat) (vs : List Value) : List Value := cur.take o ++ vs ++ cur.drop (o + vs.length)
theorem spl_len {cur vs : List Value} {o : Nat} (h : o + vs.length ≤ cur.length) : (spl cur o vs).length = cur.length := by
  simp only [spl, List.length_append, List.length_take, List.length_drop]; omega
theorem spl_take {cur vs : List Value} {o : Nat} (h : o + vs.length ≤ cur.length) : (spl cur o vs).take (o + vs.length) = cur.take o ++ vs := by
  have : (cur.take o ++ vs).length = o + vs.length := by rw [List.length_append, List.length_take]; omega
  unfold spl; rw [← this, List.take_left]
theorem spl_take_lo {cur vs : List Value} {o m : Nat} (h : o ≤ cur.length) (hm : m ≤ o) : (spl cur o vs).take m = cur.take m := by
  have : m ≤ (cur.take o).length := by rw [List.length_take]; omega
  unfold spl; rw [List.append_assoc, List.take_append_of_le_length this, List.take_take, Nat.min_eq_left hm]
def RowB (w : World) (g : Nat) (e : TypeId) (cur : List Value) : Prop := w.heap[g]? = some (.cells cur.toArray e (0, 0))
theorem RowB.set {w : World} {g : Nat} {e : TypeId} {cur : List Value} (h : RowB w g e cur) (cs : List Value) : RowB (w.setRow g cs.toArray) g e cs := setRow_heap w g _ _ _ _ h
theorem RowB.cell {w : World} {g : Nat} {e : TypeId} {cur : List Value} (h : RowB w g e cur) {j : Nat} {u : Value} (hu : cur[j]? = some u) : w.cell? ⟨g, j, none⟩ = some u := by
  unfold RowB at h; simp [World.cell?, h, hu]
theorem RowB.drew {w : World} {g : Nat} {e : TypeId} {cur : List Value} (h : RowB w g e cur) : RowB w.drew g e cur := h
theorem run_app_row {P : Program} (w : World) (t ty e : TypeId) (i : TypeInfo) (ht : P.underlying t = some (.slice e)) (hi : P.info? e = some i)
    (g sLen sCap : Nat) (cur : List Value) (hg : RowB w g e cur) (a : Addr) (m c : Nat) (news : List Value) (hl : news.length = m * i.size) (hnews : ∀ j u, news[j]? = some u → w.cell? (a.add j) = some u) (h1 : ∀ u ∈ news, u.oneCell' = true)
    (hroom : sLen + m ≤ sCap) (hfit : sLen * i.size + news.length ≤ cur.length) :
    (Builtin.append_ #[t, t] ty #[.slice (some ⟨g, 0, none⟩) sLen sCap, .slice (some a) m c]).run P w = .ok (.slice (some ⟨g, 0, none⟩) (sLen + m) sCap) (w.setRow g (spl cur (sLen * i.size) news).toArray) := by
  have := run_append_room (P := P) w t ty e i ht hi g sLen sCap cur.toArray hg a m c news hl hnews h1 hroom (by simpa using hfit)
  simpa [spl] using this
theorem own_of_row {w : World} {B g e size n cap : Nat} {cur xs : List Value} (hrow : RowB w g e cur) (hB : B ≤ g) (hn : n ≤ cap) (hc : cap ≤ maxLen) (hl : cur.length = cap * size) (hx : xs.length = n * size) (ht : cur.take (n * size) = xs) :
    w.ownsRow B e size (.slice (some ⟨g, 0, none⟩) n cap) n xs := ⟨hx, .inr ⟨g, cap, cur.toArray, rfl, hB, hrow, hn, hc, by simpa using hl, by simpa using ht⟩⟩
end Go.Proofs.YtnepdfpooobmcaaGreatDoor

/- Contracts and lemmas for the proofs of this seat; each theorem states its own conditions. -/
namespace Go.Proofs.YtnepdfpooobmcaaGreatDoor
open Go.RowKit
end Go.Proofs.YtnepdfpooobmcaaGreatDoor

/- Contracts and lemmas for the proofs of this seat; each theorem states its own conditions. -/
namespace Go.Proofs.YtnepdfpooobmcaaGreatDoor
open Go.RowKit
end Go.Proofs.YtnepdfpooobmcaaGreatDoor

/- Contracts and lemmas for the proofs of this seat; each theorem states its own conditions. -/
namespace Go.Proofs.YtnepdfpooobmcaaGreatDoor
open Go.RowKit
end Go.Proofs.YtnepdfpooobmcaaGreatDoor

/- Contracts and lemmas for the proofs of this seat; each theorem states its own conditions. -/
namespace Go.Proofs.YtnepdfpooobmcaaGreatDoor
open Go.RowKit
end Go.Proofs.YtnepdfpooobmcaaGreatDoor

/- Contracts and lemmas for the proofs of this seat; each theorem states its own conditions. -/
namespace Go.Proofs.YtnepdfpooobmcaaGreatDoor
open Go.RowKit
/-! deed.do, deed.Run -/
theorem blk4 {w : World} {b : Nat} {x y z u : Value} {t : TypeId} (h : w.heap[b]? = some (.cells #[x, y, z, u] t (0, 0))) : w.cell? ⟨b, 0, none⟩ = some x ∧ w.cell? ⟨b, 1, none⟩ = some y ∧ w.cell? ⟨b, 2, none⟩ = some z ∧ w.cell? ⟨b, 3, none⟩ = some u := by
  simp [World.cell?, h]
end Go.Proofs.YtnepdfpooobmcaaGreatDoor

/- Contracts and lemmas for the proofs of this seat; each theorem states its own conditions. -/
namespace Go.Proofs.YtnepdfpooobmcaaGreatDoor
open Go.RowKit
/-! text.op, text.Deed -/
set_option maxRecDepth 10000 in
theorem top_1 (n : Int) (key fr : ByteArray) (w : World) (L : LaidT w) (hk : key.size ≤ 6) (hn : -9223372036854775808 ≤ n ∧ n ≤ 9223372036854775807) :
    Calls Tryz.prog 94 #[.agg #[.int .i64 1, .string key, .string fr, .int .i64 n]] w fun e w' => e = .returned (.string (bA (opT ⟨1, key, fr, n⟩))) ∧ Ext w w' := by
  have IT := hid (fun w' (q : Ext w w') => itoa_any n w' (L.ext q) hn.1 hn.2)
  have htk := itoa_len21 hn.1 hn.2
  rw [← bA_size] at htk
  have hres : bA (opT ⟨1, key, fr, n⟩) = key ++ ⟨#[61]⟩ ++ bA (Lib.itoa n) := by
    refine bA_eq ?_
    simp [bA_toL, opT, opTl, ByteArray.data_append]
  rw [hres]
  generalize bA (Lib.itoa n) = tk at htk IT
  have E0 := (Ext.refl w).alloc (.cells #[.int .i64 1, .string key, .string fr, .int .i64 n] 93)
  have b0 := blk4 (heap_alloc_new w (.cells #[.int .i64 1, .string key, .string fr, .int .i64 n] 93))
  have IT0 := hid (IT.out _ E0)
  clear L hn hres IT
  go_enter Tryz.func94, Tryz.ntmps94
  go_wp2_with fail
  refine (IT0.out).mono ?_
  clear IT0
  rintro e w1 ⟨rfl, E1⟩
  have HE := hid (E0.trans E1)
  have c0 := E1.cell b0.1
  have c1 := E1.cell b0.2.1
  have c2 := E1.cell b0.2.2.1
  clear b0 E0 E1
  have z1 : ¬ 9223372036854775807 < key.size + 1 := by omega
  have z2 : ¬ 9223372036854775807 < key.size + 1 + tk.size := by omega
  go_wp2
  go_ret
  exact ⟨rfl, HE.out⟩
set_option maxRecDepth 10000 in
theorem top_2 (n : Int) (key fr : ByteArray) (w : World) (L : LaidT w) (hk : key.size ≤ 6) (hn : -9223372036854775808 ≤ n ∧ n ≤ 9223372036854775807) :
    Calls Tryz.prog 94 #[.agg #[.int .i64 2, .string key, .string fr, .int .i64 n]] w fun e w' => e = .returned (.string (bA (opT ⟨2, key, fr, n⟩))) ∧ Ext w w' := by
  have IT := hid (fun w' (q : Ext w w') => itoa_any n w' (L.ext q) hn.1 hn.2)
  have htk := itoa_len21 hn.1 hn.2
  rw [← bA_size] at htk
  have hres : bA (opT ⟨2, key, fr, n⟩) = key ++ ⟨#[43]⟩ ++ bA (Lib.itoa n) := by
    refine bA_eq ?_
    simp [bA_toL, opT, opTl, ByteArray.data_append]
  rw [hres]
  generalize bA (Lib.itoa n) = tk at htk IT
  have E0 := (Ext.refl w).alloc (.cells #[.int .i64 2, .string key, .string fr, .int .i64 n] 93)
  have b0 := blk4 (heap_alloc_new w (.cells #[.int .i64 2, .string key, .string fr, .int .i64 n] 93))
  have IT0 := hid (IT.out _ E0)
  clear L hn hres IT
  go_enter Tryz.func94, Tryz.ntmps94
  go_wp2_with fail
  refine (IT0.out).mono ?_
  clear IT0
  rintro e w1 ⟨rfl, E1⟩
  have HE := hid (E0.trans E1)
  have c0 := E1.cell b0.1
  have c1 := E1.cell b0.2.1
  have c2 := E1.cell b0.2.2.1
  clear b0 E0 E1
  have z1 : ¬ 9223372036854775807 < key.size + 1 := by omega
  have z2 : ¬ 9223372036854775807 < key.size + 1 + tk.size := by omega
  go_wp2
  go_ret
  exact ⟨rfl, HE.out⟩
set_option maxRecDepth 10000 in
theorem top_3 (n : Int) (key fr : ByteArray) (w : World) (L : LaidT w) (hk : key.size ≤ 6) (hf : fr.size ≤ 6) (hn : -9223372036854775808 ≤ n ∧ n ≤ 9223372036854775807) :
    Calls Tryz.prog 94 #[.agg #[.int .i64 3, .string key, .string fr, .int .i64 n]] w fun e w' => e = .returned (.string (bA (opT ⟨3, key, fr, n⟩))) ∧ Ext w w' := by
  have IT := hid (fun w' (q : Ext w w') => itoa_any n w' (L.ext q) hn.1 hn.2)
  have htk := itoa_len21 hn.1 hn.2
  rw [← bA_size] at htk
  have hres : bA (opT ⟨3, key, fr, n⟩) = key ++ ⟨#[60]⟩ ++ fr := by
    refine bA_eq ?_
    simp [bA_toL, opT, opTl, ByteArray.data_append]
  rw [hres]
  generalize bA (Lib.itoa n) = tk at htk IT
  have E0 := (Ext.refl w).alloc (.cells #[.int .i64 3, .string key, .string fr, .int .i64 n] 93)
  have b0 := blk4 (heap_alloc_new w (.cells #[.int .i64 3, .string key, .string fr, .int .i64 n] 93))
  have IT0 := hid (IT.out _ E0)
  clear L hn hres IT
  go_enter Tryz.func94, Tryz.ntmps94
  go_wp2_with fail
  refine (IT0.out).mono ?_
  clear IT0
  rintro e w1 ⟨rfl, E1⟩
  have HE := hid (E0.trans E1)
  have c0 := E1.cell b0.1
  have c1 := E1.cell b0.2.1
  have c2 := E1.cell b0.2.2.1
  clear b0 E0 E1
  have z1 : ¬ 9223372036854775807 < key.size + 1 := by omega
  have z2 : ¬ 9223372036854775807 < key.size + 1 + fr.size := by omega
  go_wp2
  go_ret
  exact ⟨rfl, HE.out⟩
set_option maxRecDepth 10000 in
theorem top_4 (n : Int) (key fr : ByteArray) (w : World) (L : LaidT w) (hk : key.size ≤ 6) (hn : -9223372036854775808 ≤ n ∧ n ≤ 9223372036854775807) :
    Calls Tryz.prog 94 #[.agg #[.int .i64 4, .string key, .string fr, .int .i64 n]] w fun e w' => e = .returned (.string (bA (opT ⟨4, key, fr, n⟩))) ∧ Ext w w' := by
  have IT := hid (fun w' (q : Ext w w') => itoa_any n w' (L.ext q) hn.1 hn.2)
  have htk := itoa_len21 hn.1 hn.2
  rw [← bA_size] at htk
  have hres : bA (opT ⟨4, key, fr, n⟩) = key ++ ⟨#[63]⟩ ++ bA (Lib.itoa n) := by
    refine bA_eq ?_
    simp [bA_toL, opT, opTl, ByteArray.data_append]
  rw [hres]
  generalize bA (Lib.itoa n) = tk at htk IT
  have E0 := (Ext.refl w).alloc (.cells #[.int .i64 4, .string key, .string fr, .int .i64 n] 93)
  have b0 := blk4 (heap_alloc_new w (.cells #[.int .i64 4, .string key, .string fr, .int .i64 n] 93))
  have IT0 := hid (IT.out _ E0)
  clear L hn hres IT
  go_enter Tryz.func94, Tryz.ntmps94
  go_wp2_with fail
  refine (IT0.out).mono ?_
  clear IT0
  rintro e w1 ⟨rfl, E1⟩
  have HE := hid (E0.trans E1)
  have c0 := E1.cell b0.1
  have c1 := E1.cell b0.2.1
  have c2 := E1.cell b0.2.2.1
  clear b0 E0 E1
  have z1 : ¬ 9223372036854775807 < key.size + 1 := by omega
  have z2 : ¬ 9223372036854775807 < key.size + 1 + tk.size := by omega
  go_wp2
  go_ret
  exact ⟨rfl, HE.out⟩
set_option maxRecDepth 10000 in
theorem top_5 (n : Int) (key fr : ByteArray) (w : World) (L : LaidT w) (hk : key.size ≤ 6) (hf : fr.size ≤ 6) (hn : -9223372036854775808 ≤ n ∧ n ≤ 9223372036854775807) :
    Calls Tryz.prog 94 #[.agg #[.int .i64 5, .string key, .string fr, .int .i64 n]] w fun e w' => e = .returned (.string (bA (opT ⟨5, key, fr, n⟩))) ∧ Ext w w' := by
  have IT := hid (fun w' (q : Ext w w') => itoa_any n w' (L.ext q) hn.1 hn.2)
  have htk := itoa_len21 hn.1 hn.2
  rw [← bA_size] at htk
  have hres : bA (opT ⟨5, key, fr, n⟩) = key ++ ⟨#[60]⟩ ++ fr ++ ⟨#[42]⟩ ++ bA (Lib.itoa n) := by
    refine bA_eq ?_
    simp [bA_toL, opT, opTl, ByteArray.data_append]
  rw [hres]
  generalize bA (Lib.itoa n) = tk at htk IT
  have E0 := (Ext.refl w).alloc (.cells #[.int .i64 5, .string key, .string fr, .int .i64 n] 93)
  have b0 := blk4 (heap_alloc_new w (.cells #[.int .i64 5, .string key, .string fr, .int .i64 n] 93))
  have IT0 := hid (IT.out _ E0)
  clear L hn hres IT
  go_enter Tryz.func94, Tryz.ntmps94
  go_wp2_with fail
  refine (IT0.out).mono ?_
  clear IT0
  rintro e w1 ⟨rfl, E1⟩
  have HE := hid (E0.trans E1)
  have c0 := E1.cell b0.1
  have c1 := E1.cell b0.2.1
  have c2 := E1.cell b0.2.2.1
  clear b0 E0 E1
  have z1 : ¬ 9223372036854775807 < key.size + 1 := by omega
  have z2 : ¬ 9223372036854775807 < key.size + 1 + fr.size := by omega
  have z3 : ¬ 9223372036854775807 < key.size + 1 + fr.size + 1 := by omega
  have z4 : ¬ 9223372036854775807 < key.size + 1 + fr.size + 1 + tk.size := by omega
  go_wp2
  go_ret
  exact ⟨rfl, HE.out⟩
theorem top_any (o : GOp) (w : World) (L : LaidT w) (ok : OpOk o) (hn : -9223372036854775808 ≤ o.n ∧ o.n ≤ 9223372036854775807) :
    Calls Tryz.prog 94 #[.agg #[.int .i64 o.kind, .string o.key, .string o.from_, .int .i64 o.n]] w fun e w' => e = .returned (.string (bA (opT o))) ∧ Ext w w' := by
  have hk := ok.kinds
  have hs := key_size ok.key
  obtain ⟨k, key, fr, n⟩ := o
  have hf := ok.from_
  simp only at hk hs hf hn
  rcases hk with rfl | rfl | rfl | rfl | rfl
  · exact top_1 n key fr w L hs hn
  · exact top_2 n key fr w L hs hn
  · exact top_3 n key fr w L hs (key_size (hf (.inl rfl)).1) hn
  · exact top_4 n key fr w L hs hn
  · exact top_5 n key fr w L hs (key_size (hf (.inr rfl)).1) hn
end Go.Proofs.YtnepdfpooobmcaaGreatDoor
