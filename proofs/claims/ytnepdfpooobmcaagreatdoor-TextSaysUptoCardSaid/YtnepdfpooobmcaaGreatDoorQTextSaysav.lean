/- Contracts and lemmas for the proof of TextSays; each theorem states its own conditions. -/
import Derived.Test.YtnepdfpooobmcaaGreatDoorQTextSaysaq
import Derived.Test.YtnepdfpooobmcaaGreatDoorQTextSaysas
import Derived.Test.YtnepdfpooobmcaaGreatDoorQTextSaysae
import Derived.Test.YtnepdfpooobmcaaGreatDoorQTextSaysat
import Derived.Test.YtnepdfpooobmcaaGreatDoorQTextSaysau
set_option linter.unusedVariables false
set_option linter.unusedSimpArgs false
/- Contracts and lemmas for the proofs of this seat; each theorem states its own conditions. -/
namespace Go.Proofs.YtnepdfpooobmcaaGreatDoor
open Go.RowKit
/-! text.op, text.Deed -/
set_option maxRecDepth 10000 in
theorem top_1 (n : Int) (key fr : ByteArray) (w : World) (L : LaidT w) (hk : key.size ≤ 6) (hn : -9223372036854775808 ≤ n ∧ n ≤ 9223372036854775807) :
    Calls Tryz.prog 94 #[.agg #[.int .i64 1, .string key, .string fr, .int .i64 n]] w fun e w' => e = .returned (.string (bA (opT ⟨1, key, fr, n⟩))) ∧ Ext w w' := by
  have IT := hid (fun w' (q : Ext w w') => itoa_any n w' (L.ext q) hn.1 hn.2)
  have htk := itoa_len21 hn.1 hn.2
  rw [← bA_size] at htk
  have hres : bA (opT ⟨1, key, fr, n⟩) = key ++ ⟨#[61]⟩ ++ bA (Lib.itoa n) := by
    refine bA_eq ?_
    simp [bA_toL, opT, opTl, ByteArray.data_append]
  rw [hres]
  generalize bA (Lib.itoa n) = tk at htk IT
  have E0 := (Ext.refl w).alloc (.cells #[.int .i64 1, .string key, .string fr, .int .i64 n] 93)
  have b0 := blk4 (heap_alloc_new w (.cells #[.int .i64 1, .string key, .string fr, .int .i64 n] 93))
  have IT0 := hid (IT.out _ E0)
  clear L hn hres IT
  go_enter Tryz.func94, Tryz.ntmps94
  go_wp2_with fail
  refine (IT0.out).mono ?_
  clear IT0
  rintro e w1 ⟨rfl, E1⟩
  have HE := hid (E0.trans E1)
  have c0 := E1.cell b0.1
  have c1 := E1.cell b0.2.1
  have c2 := E1.cell b0.2.2.1
  clear b0 E0 E1
  have z1 : ¬ 9223372036854775807 < key.size + 1 := by omega
  have z2 : ¬ 9223372036854775807 < key.size + 1 + tk.size := by omega
  go_wp2
  go_ret
  exact ⟨rfl, HE.out⟩
set_option maxRecDepth 10000 in
theorem top_2 (n : Int) (key fr : ByteArray) (w : World) (L : LaidT w) (hk : key.size ≤ 6) (hn : -9223372036854775808 ≤ n ∧ n ≤ 9223372036854775807) :
    Calls Tryz.prog 94 #[.agg #[.int .i64 2, .string key, .string fr, .int .i64 n]] w fun e w' => e = .returned (.string (bA (opT ⟨2, key, fr, n⟩))) ∧ Ext w w' := by
  have IT := hid (fun w' (q : Ext w w') => itoa_any n w' (L.ext q) hn.1 hn.2)
  have htk := itoa_len21 hn.1 hn.2
  rw [← bA_size] at htk
  have hres : bA (opT ⟨2, key, fr, n⟩) = key ++ ⟨#[43]⟩ ++ bA (Lib.itoa n) := by
    refine bA_eq ?_
    simp [bA_toL, opT, opTl, ByteArray.data_append]
  rw [hres]
  generalize bA (Lib.itoa n) = tk at htk IT
  have E0 := (Ext.refl w).alloc (.cells #[.int .i64 2, .string key, .string fr, .int .i64 n] 93)
  have b0 := blk4 (heap_alloc_new w (.cells #[.int .i64 2, .string key, .string fr, .int .i64 n] 93))
  have IT0 := hid (IT.out _ E0)
  clear L hn hres IT
  go_enter Tryz.func94, Tryz.ntmps94
  go_wp2_with fail
  refine (IT0.out).mono ?_
  clear IT0
  rintro e w1 ⟨rfl, E1⟩
  have HE := hid (E0.trans E1)
  have c0 := E1.cell b0.1
  have c1 := E1.cell b0.2.1
  have c2 := E1.cell b0.2.2.1
  clear b0 E0 E1
  have z1 : ¬ 9223372036854775807 < key.size + 1 := by omega
  have z2 : ¬ 9223372036854775807 < key.size + 1 + tk.size := by omega
  go_wp2
  go_ret
  exact ⟨rfl, HE.out⟩
set_option maxRecDepth 10000 in
theorem top_3 (n : Int) (key fr : ByteArray) (w : World) (L : LaidT w) (hk : key.size ≤ 6) (hf : fr.size ≤ 6) (hn : -9223372036854775808 ≤ n ∧ n ≤ 9223372036854775807) :
    Calls Tryz.prog 94 #[.agg #[.int .i64 3, .string key, .string fr, .int .i64 n]] w fun e w' => e = .returned (.string (bA (opT ⟨3, key, fr, n⟩))) ∧ Ext w w' := by
  have IT := hid (fun w' (q : Ext w w') => itoa_any n w' (L.ext q) hn.1 hn.2)
  have htk := itoa_len21 hn.1 hn.2
  rw [← bA_size] at htk
  have hres : bA (opT ⟨3, key, fr, n⟩) = key ++ ⟨#[60]⟩ ++ fr := by
    refine bA_eq ?_
    simp [bA_toL, opT, opTl, ByteArray.data_append]
  rw [hres]
  generalize bA (Lib.itoa n) = tk at htk IT
  have E0 := (Ext.refl w).alloc (.cells #[.int .i64 3, .string key, .string fr, .int .i64 n] 93)
  have b0 := blk4 (heap_alloc_new w (.cells #[.int .i64 3, .string key, .string fr, .int .i64 n] 93))
  have IT0 := hid (IT.out _ E0)
  clear L hn hres IT
  go_enter Tryz.func94, Tryz.ntmps94
  go_wp2_with fail
  refine (IT0.out).mono ?_
  clear IT0
  rintro e w1 ⟨rfl, E1⟩
  have HE := hid (E0.trans E1)
  have c0 := E1.cell b0.1
  have c1 := E1.cell b0.2.1
  have c2 := E1.cell b0.2.2.1
  clear b0 E0 E1
  have z1 : ¬ 9223372036854775807 < key.size + 1 := by omega
  have z2 : ¬ 9223372036854775807 < key.size + 1 + fr.size := by omega
  go_wp2
  go_ret
  exact ⟨rfl, HE.out⟩
set_option maxRecDepth 10000 in
theorem top_4 (n : Int) (key fr : ByteArray) (w : World) (L : LaidT w) (hk : key.size ≤ 6) (hn : -9223372036854775808 ≤ n ∧ n ≤ 9223372036854775807) :
    Calls Tryz.prog 94 #[.agg #[.int .i64 4, .string key, .string fr, .int .i64 n]] w fun e w' => e = .returned (.string (bA (opT ⟨4, key, fr, n⟩))) ∧ Ext w w' := by
  have IT := hid (fun w' (q : Ext w w') => itoa_any n w' (L.ext q) hn.1 hn.2)
  have htk := itoa_len21 hn.1 hn.2
  rw [← bA_size] at htk
  have hres : bA (opT ⟨4, key, fr, n⟩) = key ++ ⟨#[63]⟩ ++ bA (Lib.itoa n) := by
    refine bA_eq ?_
    simp [bA_toL, opT, opTl, ByteArray.data_append]
  rw [hres]
  generalize bA (Lib.itoa n) = tk at htk IT
  have E0 := (Ext.refl w).alloc (.cells #[.int .i64 4, .string key, .string fr, .int .i64 n] 93)
  have b0 := blk4 (heap_alloc_new w (.cells #[.int .i64 4, .string key, .string fr, .int .i64 n] 93))
  have IT0 := hid (IT.out _ E0)
  clear L hn hres IT
  go_enter Tryz.func94, Tryz.ntmps94
  go_wp2_with fail
  refine (IT0.out).mono ?_
  clear IT0
  rintro e w1 ⟨rfl, E1⟩
  have HE := hid (E0.trans E1)
  have c0 := E1.cell b0.1
  have c1 := E1.cell b0.2.1
  have c2 := E1.cell b0.2.2.1
  clear b0 E0 E1
  have z1 : ¬ 9223372036854775807 < key.size + 1 := by omega
  have z2 : ¬ 9223372036854775807 < key.size + 1 + tk.size := by omega
  go_wp2
  go_ret
  exact ⟨rfl, HE.out⟩
set_option maxRecDepth 10000 in
theorem top_5 (n : Int) (key fr : ByteArray) (w : World) (L : LaidT w) (hk : key.size ≤ 6) (hf : fr.size ≤ 6) (hn : -9223372036854775808 ≤ n ∧ n ≤ 9223372036854775807) :
    Calls Tryz.prog 94 #[.agg #[.int .i64 5, .string key, .string fr, .int .i64 n]] w fun e w' => e = .returned (.string (bA (opT ⟨5, key, fr, n⟩))) ∧ Ext w w' := by
  have IT := hid (fun w' (q : Ext w w') => itoa_any n w' (L.ext q) hn.1 hn.2)
  have htk := itoa_len21 hn.1 hn.2
  rw [← bA_size] at htk
  have hres : bA (opT ⟨5, key, fr, n⟩) = key ++ ⟨#[60]⟩ ++ fr ++ ⟨#[42]⟩ ++ bA (Lib.itoa n) := by
    refine bA_eq ?_
    simp [bA_toL, opT, opTl, ByteArray.data_append]
  rw [hres]
  generalize bA (Lib.itoa n) = tk at htk IT
  have E0 := (Ext.refl w).alloc (.cells #[.int .i64 5, .string key, .string fr, .int .i64 n] 93)
  have b0 := blk4 (heap_alloc_new w (.cells #[.int .i64 5, .string key, .string fr, .int .i64 n] 93))
  have IT0 := hid (IT.out _ E0)
  clear L hn hres IT
  go_enter Tryz.func94, Tryz.ntmps94
  go_wp2_with fail
  refine (IT0.out).mono ?_
  clear IT0
  rintro e w1 ⟨rfl, E1⟩
  have HE := hid (E0.trans E1)
  have c0 := E1.cell b0.1
  have c1 := E1.cell b0.2.1
  have c2 := E1.cell b0.2.2.1
  clear b0 E0 E1
  have z1 : ¬ 9223372036854775807 < key.size + 1 := by omega
  have z2 : ¬ 9223372036854775807 < key.size + 1 + fr.size := by omega
  have z3 : ¬ 9223372036854775807 < key.size + 1 + fr.size + 1 := by omega
  have z4 : ¬ 9223372036854775807 < key.size + 1 + fr.size + 1 + tk.size := by omega
  go_wp2
  go_ret
  exact ⟨rfl, HE.out⟩
theorem top_any (o : GOp) (w : World) (L : LaidT w) (ok : OpOk o) (hn : -9223372036854775808 ≤ o.n ∧ o.n ≤ 9223372036854775807) :
    Calls Tryz.prog 94 #[.agg #[.int .i64 o.kind, .string o.key, .string o.from_, .int .i64 o.n]] w fun e w' => e = .returned (.string (bA (opT o))) ∧ Ext w w' := by
  have hk := ok.kinds
  have hs := key_size ok.key
  obtain ⟨k, key, fr, n⟩ := o
  have hf := ok.from_
  simp only at hk hs hf hn
  rcases hk with rfl | rfl | rfl | rfl | rfl
  · exact top_1 n key fr w L hs hn
  · exact top_2 n key fr w L hs hn
  · exact top_3 n key fr w L hs (key_size (hf (.inl rfl)).1) hn
  · exact top_4 n key fr w L hs hn
  · exact top_5 n key fr w L hs (key_size (hf (.inr rfl)).1) hn
end Go.Proofs.YtnepdfpooobmcaaGreatDoor
