/- Contracts and lemmas for the proof of ShardFind; each theorem states its own conditions. -/
import Derived.Test.YtnepdfpooobmcaaDoorQShardFindaw
set_option linter.unusedVariables false
set_option linter.unusedSimpArgs false
/- Contracts and lemmas for the proofs of this seat; each theorem states its own conditions. -/
namespace Go.Proofs.YtnepdfpooobmcaaDoor
open Go.RowKit
/-! text.ReadMap -/
/-- a map that is read: its box, its rows -/
structure RdI (w1 wr : World) (b4 : Nat) (cv ov : Value) (C : List ByteArray) (O : List Int) : Prop where
  lt : b4 < w1.heap.size
  box : wr.heap[b4]? = some (.cells #[cv, ov] 25 (0, 0))
  cuts : wr.ownsRow w1.heap.size 9 1 cv C.length (cS C)
  own : wr.ownsRow w1.heap.size 3 1 ov O.length (cI O)
  gb : w1.grownBy wr (some b4)
theorem RdI.ext {w1 wr w' : World} {b4 : Nat} {cv ov : Value} {C : List ByteArray} {O : List Int} (h : RdI w1 wr b4 cv ov C O) (E : Ext wr w') : RdI w1 w' b4 cv ov C O :=
  ⟨h.lt, E.heap h.box, own_ext h.cuts E, own_ext h.own E, h.gb.trans (grownX E _)⟩
theorem own_diff {w : World} {B e sz n : Nat} {v : Value} {xs : List Value} (h : w.ownsRow B e sz v n xs) {b : Nat} {cs : Array Value} {t : TypeId} {fr : Nat × Nat} (hb : w.heap[b]? = some (.cells cs t fr)) (hne : e ≠ t) : v.ownBlock ≠ some b := own_ne h hb hne
theorem RdI.cut {w1 wr w9 : World} {b4 : Nat} {cv ov v' : Value} {C : List ByteArray} {O : List Int} (h : RdI w1 wr b4 cv ov C O) {c : ByteArray} (ho : w9.ownsRow w1.heap.size 9 1 v' (C.length + 1) (cS C ++ [.string c])) (hg : wr.grownBy w9 cv.ownBlock) :
    w9.heap[b4]? = some (.cells #[cv, ov] 25 (0, 0)) ∧ RdI w1 (w9.setCell ⟨b4, 0, none⟩ v') b4 v' ov (C ++ [c]) O := by
  have hbx : w9.heap[b4]? = some (.cells #[cv, ov] 25 (0, 0)) := grown_heap hg h.box (own_diff h.cuts h.box (by decide))
  refine ⟨hbx, h.lt, blk2_set0 hbx v', ?_, ?_, ?_⟩
  · have := own_set_far (p := ⟨b4, 0, none⟩) (u := v') ho h.lt
    simpa [cS] using this
  · exact own_set_far (grown_own hg h.own (own_own_ne h.own h.cuts (by decide))) h.lt
  · have g1 : w1.grownBy w9 (some b4) := ⟨hg.os.trans h.gb.os, hg.tape.trans h.gb.tape, hg.output.trans h.gb.output, Nat.le_trans h.gb.size hg.size, fun k hk hne => by
      rw [hg.block k (Nat.lt_of_lt_of_le hk h.gb.size) (fun e => by have := own_ge h.cuts k e.symm; omega), h.gb.block k hk hne]⟩
    exact g1.trans (grownS _ _ _)
theorem RdI.E {w w1 wr : World} {b4 : Nat} {cv ov : Value} {C : List ByteArray} {O : List Int} (h : RdI w1 wr b4 cv ov C O) (E : Ext w w1) (hb : w.heap.size ≤ b4) : Ext w wr :=
  E.grown h.gb (fun k hk => by injection hk with hk; omega)
end Go.Proofs.YtnepdfpooobmcaaDoor
