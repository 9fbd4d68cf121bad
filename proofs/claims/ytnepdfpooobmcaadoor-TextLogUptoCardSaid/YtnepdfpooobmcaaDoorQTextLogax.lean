/- Contracts and lemmas for the proof of TextLog; each theorem states its own conditions. -/
import Derived.Test.YtnepdfpooobmcaaDoorQTextLogar
import Derived.Test.YtnepdfpooobmcaaDoorQTextLogat
import Derived.Test.YtnepdfpooobmcaaDoorQTextLogab
import Derived.Test.YtnepdfpooobmcaaDoorQTextLogav
import Derived.Test.YtnepdfpooobmcaaDoorQTextLogaw
import Derived.Test.YtnepdfpooobmcaaDoorQTextLogae
import Derived.OpenShut
import Derived.Test.YtnepdfpooobmcaaDoorQTextLogak
set_option linter.unusedVariables false
set_option linter.unusedSimpArgs false
/- Contracts and lemmas for the proofs of this seat; each theorem states its own conditions. -/
namespace Go.Proofs.YtnepdfpooobmcaaDoor
open Go.RowKit
/-! text.op, text.Deed -/
set_option maxRecDepth 10000 in
theorem top_1 (n : Int) (key fr : ByteArray) (w : World) (L : LaidT w) (hk : key.size ≤ 6) (hn : -9223372036854775808 ≤ n ∧ n ≤ 9223372036854775807) :
    Calls Tryd.prog 53 #[.agg #[.int .i64 1, .string key, .string fr, .int .i64 n]] w fun e w' => e = .returned (.string (bA (opT ⟨1, key, fr, n⟩))) ∧ Ext w w' := by
  have IT := hid (fun w' (q : Ext w w') => itoa_any n w' (L.ext q) hn.1 hn.2)
  have htk := itoa_len21 hn.1 hn.2
  rw [← bA_size] at htk
  have hres : bA (opT ⟨1, key, fr, n⟩) = key ++ ⟨#[61]⟩ ++ bA (Lib.itoa n) := by
    refine bA_eq ?_
    simp [bA_toL, opT, opTl, ByteArray.data_append]
  rw [hres]
  generalize bA (Lib.itoa n) = tk at htk IT
  have E0 := (Ext.refl w).alloc (.cells #[.int .i64 1, .string key, .string fr, .int .i64 n] 38)
  have b0 := blk4 (heap_alloc_new w (.cells #[.int .i64 1, .string key, .string fr, .int .i64 n] 38))
  have IT0 := hid (IT.out _ E0)
  clear L hn hres IT
  go_enter Tryd.func53, Tryd.ntmps53
  go_wp2_with fail
  refine (IT0.out).mono ?_
  clear IT0
  rintro e w1 ⟨rfl, E1⟩
  have HE := hid (E0.trans E1)
  have c0 := E1.cell b0.1
  have c1 := E1.cell b0.2.1
  have c2 := E1.cell b0.2.2.1
  clear b0 E0 E1
  have z1 : ¬ 9223372036854775807 < key.size + 1 := by omega
  have z2 : ¬ 9223372036854775807 < key.size + 1 + tk.size := by omega
  go_wp2
  go_ret
  exact ⟨rfl, HE.out⟩
set_option maxRecDepth 10000 in
theorem top_2 (n : Int) (key fr : ByteArray) (w : World) (L : LaidT w) (hk : key.size ≤ 6) (hn : -9223372036854775808 ≤ n ∧ n ≤ 9223372036854775807) :
    Calls Tryd.prog 53 #[.agg #[.int .i64 2, .string key, .string fr, .int .i64 n]] w fun e w' => e = .returned (.string (bA (opT ⟨2, key, fr, n⟩))) ∧ Ext w w' := by
  have IT := hid (fun w' (q : Ext w w') => itoa_any n w' (L.ext q) hn.1 hn.2)
  have htk := itoa_len21 hn.1 hn.2
  rw [← bA_size] at htk
  have hres : bA (opT ⟨2, key, fr, n⟩) = key ++ ⟨#[43]⟩ ++ bA (Lib.itoa n) := by
    refine bA_eq ?_
    simp [bA_toL, opT, opTl, ByteArray.data_append]
  rw [hres]
  generalize bA (Lib.itoa n) = tk at htk IT
  have E0 := (Ext.refl w).alloc (.cells #[.int .i64 2, .string key, .string fr, .int .i64 n] 38)
  have b0 := blk4 (heap_alloc_new w (.cells #[.int .i64 2, .string key, .string fr, .int .i64 n] 38))
  have IT0 := hid (IT.out _ E0)
  clear L hn hres IT
  go_enter Tryd.func53, Tryd.ntmps53
  go_wp2_with fail
  refine (IT0.out).mono ?_
  clear IT0
  rintro e w1 ⟨rfl, E1⟩
  have HE := hid (E0.trans E1)
  have c0 := E1.cell b0.1
  have c1 := E1.cell b0.2.1
  have c2 := E1.cell b0.2.2.1
  clear b0 E0 E1
  have z1 : ¬ 9223372036854775807 < key.size + 1 := by omega
  have z2 : ¬ 9223372036854775807 < key.size + 1 + tk.size := by omega
  go_wp2
  go_ret
  exact ⟨rfl, HE.out⟩
set_option maxRecDepth 10000 in
theorem top_3 (n : Int) (key fr : ByteArray) (w : World) (L : LaidT w) (hk : key.size ≤ 6) (hf : fr.size ≤ 6) (hn : -9223372036854775808 ≤ n ∧ n ≤ 9223372036854775807) :
    Calls Tryd.prog 53 #[.agg #[.int .i64 3, .string key, .string fr, .int .i64 n]] w fun e w' => e = .returned (.string (bA (opT ⟨3, key, fr, n⟩))) ∧ Ext w w' := by
  have IT := hid (fun w' (q : Ext w w') => itoa_any n w' (L.ext q) hn.1 hn.2)
  have htk := itoa_len21 hn.1 hn.2
  rw [← bA_size] at htk
  have hres : bA (opT ⟨3, key, fr, n⟩) = key ++ ⟨#[60]⟩ ++ fr := by
    refine bA_eq ?_
    simp [bA_toL, opT, opTl, ByteArray.data_append]
  rw [hres]
  generalize bA (Lib.itoa n) = tk at htk IT
  have E0 := (Ext.refl w).alloc (.cells #[.int .i64 3, .string key, .string fr, .int .i64 n] 38)
  have b0 := blk4 (heap_alloc_new w (.cells #[.int .i64 3, .string key, .string fr, .int .i64 n] 38))
  have IT0 := hid (IT.out _ E0)
  clear L hn hres IT
  go_enter Tryd.func53, Tryd.ntmps53
  go_wp2_with fail
  refine (IT0.out).mono ?_
  clear IT0
  rintro e w1 ⟨rfl, E1⟩
  have HE := hid (E0.trans E1)
  have c0 := E1.cell b0.1
  have c1 := E1.cell b0.2.1
  have c2 := E1.cell b0.2.2.1
  clear b0 E0 E1
  have z1 : ¬ 9223372036854775807 < key.size + 1 := by omega
  have z2 : ¬ 9223372036854775807 < key.size + 1 + fr.size := by omega
  go_wp2
  go_ret
  exact ⟨rfl, HE.out⟩
set_option maxRecDepth 10000 in
theorem top_4 (n : Int) (key fr : ByteArray) (w : World) (L : LaidT w) (hk : key.size ≤ 6) (hn : -9223372036854775808 ≤ n ∧ n ≤ 9223372036854775807) :
    Calls Tryd.prog 53 #[.agg #[.int .i64 4, .string key, .string fr, .int .i64 n]] w fun e w' => e = .returned (.string (bA (opT ⟨4, key, fr, n⟩))) ∧ Ext w w' := by
  have IT := hid (fun w' (q : Ext w w') => itoa_any n w' (L.ext q) hn.1 hn.2)
  have htk := itoa_len21 hn.1 hn.2
  rw [← bA_size] at htk
  have hres : bA (opT ⟨4, key, fr, n⟩) = key ++ ⟨#[63]⟩ ++ bA (Lib.itoa n) := by
    refine bA_eq ?_
    simp [bA_toL, opT, opTl, ByteArray.data_append]
  rw [hres]
  generalize bA (Lib.itoa n) = tk at htk IT
  have E0 := (Ext.refl w).alloc (.cells #[.int .i64 4, .string key, .string fr, .int .i64 n] 38)
  have b0 := blk4 (heap_alloc_new w (.cells #[.int .i64 4, .string key, .string fr, .int .i64 n] 38))
  have IT0 := hid (IT.out _ E0)
  clear L hn hres IT
  go_enter Tryd.func53, Tryd.ntmps53
  go_wp2_with fail
  refine (IT0.out).mono ?_
  clear IT0
  rintro e w1 ⟨rfl, E1⟩
  have HE := hid (E0.trans E1)
  have c0 := E1.cell b0.1
  have c1 := E1.cell b0.2.1
  have c2 := E1.cell b0.2.2.1
  clear b0 E0 E1
  have z1 : ¬ 9223372036854775807 < key.size + 1 := by omega
  have z2 : ¬ 9223372036854775807 < key.size + 1 + tk.size := by omega
  go_wp2
  go_ret
  exact ⟨rfl, HE.out⟩
set_option maxRecDepth 10000 in
theorem top_5 (n : Int) (key fr : ByteArray) (w : World) (L : LaidT w) (hk : key.size ≤ 6) (hf : fr.size ≤ 6) (hn : -9223372036854775808 ≤ n ∧ n ≤ 9223372036854775807) :
    Calls Tryd.prog 53 #[.agg #[.int .i64 5, .string key, .string fr, .int .i64 n]] w fun e w' => e = .returned (.string (bA (opT ⟨5, key, fr, n⟩))) ∧ Ext w w' := by
  have IT := hid (fun w' (q : Ext w w') => itoa_any n w' (L.ext q) hn.1 hn.2)
  have htk := itoa_len21 hn.1 hn.2
  rw [← bA_size] at htk
  have hres : bA (opT ⟨5, key, fr, n⟩) = key ++ ⟨#[60]⟩ ++ fr ++ ⟨#[42]⟩ ++ bA (Lib.itoa n) := by
    refine bA_eq ?_
    simp [bA_toL, opT, opTl, ByteArray.data_append]
  rw [hres]
  generalize bA (Lib.itoa n) = tk at htk IT
  have E0 := (Ext.refl w).alloc (.cells #[.int .i64 5, .string key, .string fr, .int .i64 n] 38)
  have b0 := blk4 (heap_alloc_new w (.cells #[.int .i64 5, .string key, .string fr, .int .i64 n] 38))
  have IT0 := hid (IT.out _ E0)
  clear L hn hres IT
  go_enter Tryd.func53, Tryd.ntmps53
  go_wp2_with fail
  refine (IT0.out).mono ?_
  clear IT0
  rintro e w1 ⟨rfl, E1⟩
  have HE := hid (E0.trans E1)
  have c0 := E1.cell b0.1
  have c1 := E1.cell b0.2.1
  have c2 := E1.cell b0.2.2.1
  clear b0 E0 E1
  have z1 : ¬ 9223372036854775807 < key.size + 1 := by omega
  have z2 : ¬ 9223372036854775807 < key.size + 1 + fr.size := by omega
  have z3 : ¬ 9223372036854775807 < key.size + 1 + fr.size + 1 := by omega
  have z4 : ¬ 9223372036854775807 < key.size + 1 + fr.size + 1 + tk.size := by omega
  go_wp2
  go_ret
  exact ⟨rfl, HE.out⟩
theorem top_any (o : GOp) (w : World) (L : LaidT w) (ok : OpOk o) (hn : -9223372036854775808 ≤ o.n ∧ o.n ≤ 9223372036854775807) :
    Calls Tryd.prog 53 #[.agg #[.int .i64 o.kind, .string o.key, .string o.from_, .int .i64 o.n]] w fun e w' => e = .returned (.string (bA (opT o))) ∧ Ext w w' := by
  have hk := ok.kinds
  have hs := key_size ok.key
  obtain ⟨k, key, fr, n⟩ := o
  have hf := ok.from_
  simp only at hk hs hf hn
  rcases hk with rfl | rfl | rfl | rfl | rfl
  · exact top_1 n key fr w L hs hn
  · exact top_2 n key fr w L hs hn
  · exact top_3 n key fr w L hs (key_size (hf (.inl rfl)).1) hn
  · exact top_4 n key fr w L hs hn
  · exact top_5 n key fr w L hs (key_size (hf (.inr rfl)).1) hn
end Go.Proofs.YtnepdfpooobmcaaDoor

/- Contracts and lemmas for the proofs of this seat; each theorem states its own conditions. -/
namespace Go.Proofs.YtnepdfpooobmcaaDoor
open Go.RowKit
theorem cell_spot {w : World} {x : Addr} {v : Value} (h : w.cell? x = some v) : x.spot = none := by
  unfold World.cell? at h
  split at h
  · rename_i hx
    cases hs : x.spot with
    | none => rfl
    | some s => simp [hs] at h
  · cases h
/-- what the shell tells of a slice of numbers, as a slice of mine -/
theorem seg_of_row {w : World} {a : Option Addr} {len cap : Nat} {zs : List Int} (h : (a = none ∧ len = 0 ∧ cap = 0 ∧ zs = []) ∨
    ∃ x, a = some x ∧ len ≤ cap ∧ cap ≤ maxLen ∧ zs.length = cap ∧ (∀ i, i < zs.length → w.cell? (x.add i) = some (.int .i64 (zs.getD i 0))) ∧ ∀ n ∈ zs, (Lit.int .i64 n).wf = true) :
    Seg w (.slice a len cap) 1 (zs.take len).length (cI (zs.take len)) ∧ (∀ z ∈ zs.take len, -9223372036854775808 ≤ z ∧ z ≤ 9223372036854775807) ∧ (zs.take len).length = len := by
  rcases h with ⟨rfl, rfl, rfl, rfl⟩ | ⟨x, rfl, h1, h2, h3, h4, h5⟩
  · exact ⟨Seg.nil _ _, by simp, rfl⟩
  · have hl : (zs.take len).length = len := by rw [List.length_take]; omega
    refine ⟨⟨by rw [cI_len]; omega, some x, cap, by rw [hl], by omega, h2, fun hn => ?_⟩, fun z hz => ?_, hl⟩
    · have hs := cell_spot (h4 0 (by omega))
      obtain ⟨b, off, sp⟩ := x
      have : sp = none := by simpa [Addr.add] using hs
      subst this
      refine ⟨b, off, rfl, fun j u hu => ?_⟩
      rw [← addr_add]
      have hj : j < (zs.take len).length := by have := (List.getElem?_eq_some_iff.1 hu).1; rw [cI_len] at this; exact this
      rw [cI_at0 _ _ hj] at hu
      injection hu with hu; subst hu
      have hj' : j < zs.length := by omega
      rw [h4 j hj']
      simp [hj']
    · have := bounds_i64 (h5 z (List.mem_of_mem_take hz))
      exact this
end Go.Proofs.YtnepdfpooobmcaaDoor

/- Contracts and lemmas for the proofs of this seat; each theorem states its own conditions. -/
namespace Go.Proofs.YtnepdfpooobmcaaDoor
open Go.RowKit
end Go.Proofs.YtnepdfpooobmcaaDoor
