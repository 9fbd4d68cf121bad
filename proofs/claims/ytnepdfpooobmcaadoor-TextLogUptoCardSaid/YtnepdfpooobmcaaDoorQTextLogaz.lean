/- Contracts and lemmas for the proof of TextLog; each theorem states its own conditions. -/
import Derived.Test.YtnepdfpooobmcaaDoorQTextLogag
import Derived.Test.YtnepdfpooobmcaaDoorQTextLogax
import Derived.Test.YtnepdfpooobmcaaDoorQTextLogay
set_option linter.unusedVariables false
set_option linter.unusedSimpArgs false
/- Contracts and lemmas for the proofs of this seat; each theorem states its own conditions. -/
namespace Go.Proofs.YtnepdfpooobmcaaDoor
open Go.RowKit
/-! text.readOp -/
theorem blk4_sA {w : World} {b : Nat} {x y z u : Value} {t : TypeId} (h : w.heap[b]? = some (.cells #[x, y, z, u] t (0, 0))) (x' y' z' u' : Value) :
    ((((w.setCell ⟨b, 0, none⟩ x').setCell ⟨b, 1, none⟩ y').setCell ⟨b, 2, none⟩ z').setCell ⟨b, 3, none⟩ u').heap[b]? = some (.cells #[x', y', z', u'] t (0, 0)) := by
  simp [World.setCell, Array.getElem?_modify, h]
theorem ext_s4 {w0 w : World} (E : Ext w0 w) {p : Nat} (hp : w0.heap.size ≤ p) (x y z u : Value) :
    Ext w0 ((((w.setCell ⟨p, 0, none⟩ x).setCell ⟨p, 1, none⟩ y).setCell ⟨p, 2, none⟩ z).setCell ⟨p, 3, none⟩ u) :=
  (((E.setCell hp _).setCell hp _).setCell hp _).setCell hp _
theorem ix_any (s : ByteArray) (w : World) (hs : s.size < 4294967281) : Calls Tryd.prog 84 #[.string s, .string ⟨#[61, 43, 60, 63]⟩] w fun e w' => e = .returned (.int .i64 (Lib.indexAny s.data.toList [61, 43, 60, 63])) ∧ Ext w w' := by
  by_cases h8 : s.size ≤ 8
  · exact ixShort s w h8
  · have h116 : (Tryd.prog.info? (lays153_ren.t 116)).map (fun i => (i.zero, i.size)) = some (some (.agg (Array.replicate 256 (.bool false))), 256) := by kernel_rfl
    refine (Any.strings_IndexAny_long lays153 (zero_of_info h116).1 (zero_of_info h116).2 s ⟨#[61, 43, 60, 63]⟩ w (by decide) (by omega) hs (by decide) (fun j b hb => ?_)).mono ?_
    · have hm : b ∈ ([61, 43, 60, 63] : List UInt8) := List.mem_of_getElem? hb
      simp only [List.mem_cons, List.not_mem_nil, or_false] at hm
      rcases hm with rfl | rfl | rfl | rfl <;> decide
    · rintro e w' ⟨rfl, rfl⟩
      exact ⟨rfl, ((Ext.refl w).alloc _).alloc _⟩
theorem cut_any2 (s : ByteArray) (c : UInt8) (w : World) (L : LaidT w) (hs : s.size < 4294967281) :
    Calls Tryd.prog 85 #[.string s, .string ⟨#[c]⟩] w fun e w' => e = .returned (.tuple #[.string (bA (Lib.cut s.data.toList [c]).1), .string (bA (Lib.cut s.data.toList [c]).2.1), .bool (Lib.cut s.data.toList [c]).2.2]) ∧ Ext w w' := by
  obtain ⟨m, hm⟩ := L.mx
  refine (Any.strings_Cut lays145 s ⟨#[c]⟩ m w hs hm).mono ?_
  rintro e w' ⟨rfl, n, rfl⟩
  exact ⟨rfl, (Ext.refl w).drewN n⟩
def opV (o : GOp) : Value := .agg #[.int .i64 o.kind, .string o.key, .string o.from_, .int .i64 o.n]
def opZ : Value := .agg #[.int .i64 0, .string ⟨#[]⟩, .string ⟨#[]⟩, .int .i64 0]
set_option maxRecDepth 10000 in
set_option maxHeartbeats 2000000 in
theorem treadop_neg (s : ByteArray) (w : World) (hs : s.size ≤ 4000000000) (h : Lib.indexAny s.data.toList [61, 43, 60, 63] < 0) :
    Calls Tryd.prog 55 #[.string s] w fun e w' => e = .returned (.tuple #[opZ, .bool false]) ∧ Ext w w' := by
  have E0 := (Ext.refl w).alloc (.cells #[.int .i64 0, .string ⟨#[]⟩, .string ⟨#[]⟩, .int .i64 0] 38)
  have b0 := heap_alloc_new w (.cells #[.int .i64 0, .string ⟨#[]⟩, .string ⟨#[]⟩, .int .i64 0] 38)
  have IX := hid (ix_any s (w.alloc (.cells #[.int .i64 0, .string ⟨#[]⟩, .string ⟨#[]⟩, .int .i64 0] 38)) (by omega))
  generalize Lib.indexAny s.data.toList [61, 43, 60, 63] = ix at IX h
  go_enter Tryd.func55, Tryd.ntmps55
  go_wp2_with fail
  refine (IX.out).mono ?_
  clear IX
  rintro e w1 ⟨rfl, E1⟩
  have b1 := E1.heap b0
  have b1' := blk4 b1
  have f1 := frz4 b1
  obtain ⟨f1, f2, f3, f4⟩ := f1
  have b2 := blk4_sA b1 (.int .i64 0) (.string ⟨#[]⟩) (.string ⟨#[]⟩) (.int .i64 0)
  have r4 := blk4 b2
  have HE := hid (E0.trans E1)
  clear b0 E0 E1
  go_wp2
  exact bodyPost_ret (v := .tuple #[opZ, .bool false]) (by simp [results, Tryd.results55, go_sem, r4.1, r4.2.1, r4.2.2.1, r4.2.2.2, opZ]) rfl ⟨rfl, ext_s4 HE.out (by omega) _ _ _ _⟩
end Go.Proofs.YtnepdfpooobmcaaDoor
