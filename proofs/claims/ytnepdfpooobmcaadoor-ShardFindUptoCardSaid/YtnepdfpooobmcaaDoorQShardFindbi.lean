/- Contracts and lemmas for the proof of ShardFind; each theorem states its own conditions. -/
import Derived.Test.YtnepdfpooobmcaaDoorQShardFindbg
import Derived.Test.YtnepdfpooobmcaaDoorQShardFindbh
set_option linter.unusedVariables false
set_option linter.unusedSimpArgs false
/- Contracts and lemmas for the proofs of this seat; each theorem states its own conditions. -/
namespace Go.Proofs.YtnepdfpooobmcaaDoor
open Go.RowKit
/-! text.ReadDeed -/
theorem blk1 {w : World} {b : Nat} {x : Value} {t : TypeId} (h : w.heap[b]? = some (.cells #[x] t (0, 0))) : w.cell? ⟨b, 0, none⟩ = some x ∧ w.frozen? ⟨b, 0, none⟩ = false := by
  simp [World.cell?, World.frozen?, h]
theorem blk1_set {w : World} {b : Nat} {x : Value} {t : TypeId} (h : w.heap[b]? = some (.cells #[x] t (0, 0))) (u : Value) : (w.setCell ⟨b, 0, none⟩ u).heap[b]? = some (.cells #[u] t (0, 0)) := by
  simp [World.setCell, Array.getElem?_modify, h]
/-- a deed that is read: its box, its row -/
structure RdD (w1 wr : World) (b4 : Nat) (dv : Value) (D : Ops) : Prop where
  lt : b4 < w1.heap.size
  box : wr.heap[b4]? = some (.cells #[dv] 35 (0, 0))
  ops : wr.ownsRow w1.heap.size 38 4 dv D.length (cO D)
  gb : w1.grownBy wr (some b4)
theorem RdD.ext {w1 wr w' : World} {b4 : Nat} {dv : Value} {D : Ops} (h : RdD w1 wr b4 dv D) (E : Ext wr w') : RdD w1 w' b4 dv D :=
  ⟨h.lt, E.heap h.box, own_ext h.ops E, h.gb.trans (grownX E _)⟩
theorem RdD.E {w w1 wr : World} {b4 : Nat} {dv : Value} {D : Ops} (h : RdD w1 wr b4 dv D) (E : Ext w w1) (hb : w.heap.size ≤ b4) : Ext w wr :=
  E.grown h.gb (fun k hk => by injection hk with hk; omega)
end Go.Proofs.YtnepdfpooobmcaaDoor
