/- Contracts and lemmas for the proof of TopMoves; each theorem states its own conditions. -/
import Derived.Test.YtnepdfpooobmcaaGreatQTopMovesbk
import Derived.Test.YtnepdfpooobmcaaGreatQTopMovesbd
import Derived.Shelf.Sort.Plain
import Derived.Shelf.Slices.Turned
import Derived.Ground.Names2Prog
import Derived.Shelf.Slices.CompactI
import Derived.Shelf.Slices.In.SortNone
import Derived.Shelf.Slices.Empties2
import Derived.Test.YtnepdfpooobmcaaGreatProg
import Derived.Test.YtnepdfpooobmcaaGreatQTopMovesaa
import Derived.Test.YtnepdfpooobmcaaGreatQTopMovesbg
import Derived.Test.YtnepdfpooobmcaaGreatQTopMovesbi
import Derived.Test.YtnepdfpooobmcaaGreatQTopMovesat
import Derived.Test.YtnepdfpooobmcaaGreatQTopMovesbj
import Derived.Test.YtnepdfpooobmcaaGreatQTopMovesas
import Derived.Test.YtnepdfpooobmcaaGreatQTopMovesbh
import Derived.Test.YtnepdfpooobmcaaGreatQTopMovesah
import Derived.Test.YtnepdfpooobmcaaGreatQTopMovesbb
import Derived.BigQuiet
import Derived.Test.YtnepdfpooobmcaaGreatQTopMovesaf
import Derived.Test.YtnepdfpooobmcaaGreatQTopMovesag
set_option linter.unusedVariables false
set_option linter.unusedSimpArgs false
/- Contracts and lemmas for the proofs of this seat; each theorem states its own conditions. -/
namespace Go.Proofs.YtnepdfpooobmcaaGreat
open Go.RowKit
/-! rokeep.partsBegun -/
end Go.Proofs.YtnepdfpooobmcaaGreat

/- Contracts and lemmas for the proofs of this seat; each theorem states its own conditions. -/
namespace Go.Proofs.YtnepdfpooobmcaaGreat
open Go.RowKit
/-! what a turn of a box of parts leaves -/
end Go.Proofs.YtnepdfpooobmcaaGreat

/- Contracts and lemmas for the proofs of this seat; each theorem states its own conditions. -/
namespace Go.Proofs.YtnepdfpooobmcaaGreat
open Go.Shelf
end Go.Proofs.YtnepdfpooobmcaaGreat

/- Contracts and lemmas for the proofs of this seat; each theorem states its own conditions. -/
namespace Go.Proofs.YtnepdfpooobmcaaGreat
open Go.RowKit Go.Maps
/-! Free -/
end Go.Proofs.YtnepdfpooobmcaaGreat

/- Contracts and lemmas for the proofs of this seat; each theorem states its own conditions. -/
namespace Go.Proofs.YtnepdfpooobmcaaGreat
open Go.RowKit Go.Shelf Go.Lib Go.Sort
/-! slices.Sort, slices.Compact at rows of texts of one's own; slices.Contains -/
end Go.Proofs.YtnepdfpooobmcaaGreat

/- Contracts and lemmas for the proofs of this seat; each theorem states its own conditions. -/
namespace Go.Proofs.YtnepdfpooobmcaaGreat
open Go.RowKit Go.Maps
/-! an append to a row of claims in a region that draws its order -/
def AppK (G : Nat → Option (Nat × List Value)) (N B : Nat) (r : Value) (n : Nat) (xs : List Value) (v : Value) (w : World) : Prop :=
  OwnG G B 178 2 v n xs w ∧ ∀ k, v.ownBlock = some k → r.ownBlock = some k ∨ N ≤ k
theorem AppK.st {G : Nat → Option (Nat × List Value)} {N B n : Nat} {r v : Value} {xs : List Value} {w w' : World} (hF : GF G w w') (h : AppK G N B r n xs v w) : AppK G N B r n xs v w' := ⟨OwnG.st hF h.1, h.2⟩
end Go.Proofs.YtnepdfpooobmcaaGreat

/- Contracts and lemmas for the proofs of this seat; each theorem states its own conditions. -/
namespace Go.Proofs.YtnepdfpooobmcaaGreat
open Go.RowKit Go.Maps
/-! Add -/
end Go.Proofs.YtnepdfpooobmcaaGreat

/- Contracts and lemmas for the proofs of this seat; each theorem states its own conditions. -/
namespace Go.Proofs.YtnepdfpooobmcaaGreat
open Go.RowKit Go.Maps
/-! Free of one that may go on -/
end Go.Proofs.YtnepdfpooobmcaaGreat

/- Contracts and lemmas for the proofs of this seat; each theorem states its own conditions. -/
namespace Go.Proofs.YtnepdfpooobmcaaGreat
open Go.RowKit Go.Maps
/-! rokeep.lockBegun -/
end Go.Proofs.YtnepdfpooobmcaaGreat

/- Contracts and lemmas for the proofs of this seat; each theorem states its own conditions. -/
namespace Go.Proofs.YtnepdfpooobmcaaGreat
/-! plain laws of plan's rows -/
def iN (l : List Nat) : List Int := l.map fun (n : Nat) => (n : Int)
def oL (A : List Ops) (n i : Nat) : List Int := iN (rndTo A i) ++ List.replicate (n - i) 0
end Go.Proofs.YtnepdfpooobmcaaGreat

/- Contracts and lemmas for the proofs of this seat; each theorem states its own conditions. -/
namespace Go.Proofs.YtnepdfpooobmcaaGreat
/-! plan.Play, in plain lists -/
end Go.Proofs.YtnepdfpooobmcaaGreat

/- Contracts and lemmas for the proofs of this seat; each theorem states its own conditions. -/
namespace Go.Proofs.YtnepdfpooobmcaaGreat
open Go.RowKit
/-! plan.laid -/
end Go.Proofs.YtnepdfpooobmcaaGreat

/- Contracts and lemmas for the proofs of this seat; each theorem states its own conditions. -/
namespace Go.Proofs.YtnepdfpooobmcaaGreat
open Go.RowKit
/-! plan.Order -/
end Go.Proofs.YtnepdfpooobmcaaGreat

/- Contracts and lemmas for the proofs of this seat; each theorem states its own conditions. -/
namespace Go.Proofs.YtnepdfpooobmcaaGreat
open Go.RowKit
/-! plan.Rounds -/
end Go.Proofs.YtnepdfpooobmcaaGreat

/- Contracts and lemmas for the proofs of this seat; each theorem states its own conditions. -/
namespace Go.Proofs.YtnepdfpooobmcaaGreat
open Go.RowKit
end Go.Proofs.YtnepdfpooobmcaaGreat

/- Contracts and lemmas for the proofs of this seat; each theorem states its own conditions. -/
namespace Go.Proofs.YtnepdfpooobmcaaGreat
open Go.RowKit Go.Shelf Go.Lib Go.Sort
/-! parts.Who -/
end Go.Proofs.YtnepdfpooobmcaaGreat

/- Contracts and lemmas for the proofs of this seat; each theorem states its own conditions. -/
namespace Go.Proofs.YtnepdfpooobmcaaGreat
open Go.RowKit

structure TP (w1 : World) (bx : Nat) (v1 v2 : Value) (C : List ByteArray) (O : List Int) (y1 : ByteArray) (y2 : Int) (L : Nat → Bool) (x : Nat → Value) (w' : World) : Prop where
  ext : Ext w1 w'
  new : w1.heap.size ≤ bx
  box : w'.heap[bx]? = some (.cells #[if L 11 then x 4 else v1, if L 13 then x 9 else v2] 33 (0, 0))
  na : L 3 = true → L 4 = false → ∃ b, x 3 = .slice (some ⟨b, 0, none⟩) 1 1 ∧ w'.heap[b]? = some (.cells #[.string y1] 9 (0, 0))
  oa : L 4 = false → w'.ownsRow w1.heap.size 9 1 v1 C.length (cS C)
  oa' : L 4 = true → (∃ a c, x 4 = .slice a (C.length + 1) c) ∧ w'.ownsRow w1.heap.size 9 1 (x 4) (C.length + 1) (cS C ++ [.string y1])
  nb : L 8 = true → L 9 = false → ∃ b, x 8 = .slice (some ⟨b, 0, none⟩) 1 1 ∧ w'.heap[b]? = some (.cells #[.int .i64 y2] 3 (0, 0)) ∧ (L 4 = false → v1.ownBlock ≠ some b) ∧ v2.ownBlock ≠ some b
  ob : L 9 = false → w'.ownsRow w1.heap.size 3 1 v2 O.length (cI O)
  ob' : L 9 = true → (∃ a c, x 9 = .slice a (O.length + 1) c) ∧ w'.ownsRow w1.heap.size 3 1 (x 9) (O.length + 1) (cI O ++ [.int .i64 y2])
theorem TP.big {w1 w' : World} {bx : Nat} {v1 v2 : Value} {C : List ByteArray} {O : List Int} {y1 : ByteArray} {y2 : Int} {L : Nat → Bool} {x : Nat → Value} (h : TP w1 bx v1 v2 C O y1 y2 L x w') : w1.heap.size ≤ w'.heap.size := h.ext.size'
theorem TP.quiet {w1 w' : World} {bx : Nat} {v1 v2 : Value} {C : List ByteArray} {O : List Int} {y1 : ByteArray} {y2 : Int} {L : Nat → Bool} {x : Nat → Value} (h : TP w1 bx v1 v2 C O y1 y2 L x w') (i : Nat) (v : Value)
    (hi : i ≠ 3 ∧ i ≠ 4 ∧ i ≠ 8 ∧ i ≠ 9 ∧ i ≠ 11 ∧ i ≠ 13) : TP w1 bx v1 v2 C O y1 y2 (upd L i true) (upd x i v) w' := by
  obtain ⟨hia, hja, hib, hjb, hsa, hsb⟩ := hi
  have e (j : Nat) (hj : i ≠ j) : upd L i true j = L j := upd_ne _ _ (Ne.symm hj)
  have e' (j : Nat) (hj : i ≠ j) : upd x i v j = x j := upd_ne _ _ (Ne.symm hj)
  refine ⟨h.ext, h.new, ?_, ?_, ?_, ?_, ?_, ?_, ?_⟩
  · rw [e _ hsa, e _ hsb, e' _ hja, e' _ hjb]; exact h.box
  · rw [e _ hia, e' _ hia, e _ hja]; exact h.na
  · rw [e _ hja]; exact h.oa
  · rw [e _ hja, e' _ hja]; exact h.oa'
  · rw [e _ hib, e' _ hib, e _ hjb, e _ hja]; exact h.nb
  · rw [e _ hjb]; exact h.ob
  · rw [e _ hjb, e' _ hjb]; exact h.ob'
theorem TP.box0 {w1 w' : World} {bx : Nat} {v1 v2 : Value} {C : List ByteArray} {O : List Int} {y1 : ByteArray} {y2 : Int} {L : Nat → Bool} {x : Nat → Value} (h : TP w1 bx v1 v2 C O y1 y2 L x w') (hsa : L 11 = false) (hsb : L 13 = false) : w'.heap[bx]? = some (.cells #[v1, v2] 33 (0, 0)) := by
  have := h.box; rw [hsa, hsb] at this; simpa using this
theorem TP.box1 {w1 w' : World} {bx : Nat} {v1 v2 : Value} {C : List ByteArray} {O : List Int} {y1 : ByteArray} {y2 : Int} {L : Nat → Bool} {x : Nat → Value} (h : TP w1 bx v1 v2 C O y1 y2 L x w') (hsa : L 11 = true) (hsb : L 13 = false) : w'.heap[bx]? = some (.cells #[x 4, v2] 33 (0, 0)) := by
  have := h.box; rw [hsa, hsb] at this; simpa using this
theorem TP.bsA {w1 w' : World} {bx : Nat} {v1 v2 : Value} {C : List ByteArray} {O : List Int} {y1 : ByteArray} {y2 : Int} {L : Nat → Bool} {x : Nat → Value} (h : TP w1 bx v1 v2 C O y1 y2 L x w') : TP w1 bx v1 v2 C O y1 y2 (upd L 3 true) (upd x 3 (.slice (some ⟨w'.heap.size, 0, none⟩) 1 1)) (w'.alloc (.cells #[.string y1] 9)) := by
  have k := (Ext.refl w').alloc (.cells #[.string y1] 9)
  refine ⟨h.ext.trans k, h.new, k.heap h.box, fun _ _ => ⟨_, rfl, heap_alloc_new _ _⟩, fun q => (h.oa q).alloc _, fun q => ⟨(h.oa' q).1, (h.oa' q).2.alloc _⟩, fun q q' => ?_, fun q => (h.ob q).alloc _, fun q => ⟨(h.ob' q).1, (h.ob' q).2.alloc _⟩⟩
  obtain ⟨b, q1, q2, q3, q4⟩ := h.nb q q'
  exact ⟨b, q1, k.heap q2, q3, q4⟩
theorem TP.bsB {w1 w' : World} {bx : Nat} {v1 v2 : Value} {C : List ByteArray} {O : List Int} {y1 : ByteArray} {y2 : Int} {L : Nat → Bool} {x : Nat → Value} (h : TP w1 bx v1 v2 C O y1 y2 L x w') (hjb : L 9 = false) : TP w1 bx v1 v2 C O y1 y2 (upd L 8 true) (upd x 8 (.slice (some ⟨w'.heap.size, 0, none⟩) 1 1)) (w'.alloc (.cells #[.int .i64 y2] 3)) := by
  have k := (Ext.refl w').alloc (.cells #[.int .i64 y2] 3)
  refine ⟨h.ext.trans k, h.new, k.heap h.box, fun q q' => ?_, fun q => (h.oa q).alloc _, fun q => ⟨(h.oa' q).1, (h.oa' q).2.alloc _⟩, fun _ _ => ⟨_, rfl, heap_alloc_new _ _, fun q e => ?_, fun e => ?_⟩, fun q => (h.ob q).alloc _, fun q => ⟨(h.ob' q).1, (h.ob' q).2.alloc _⟩⟩
  · obtain ⟨b, q1, q2⟩ := h.na q q'
    exact ⟨b, q1, k.heap q2⟩
  · have := ((h.oa q).lt _ e).2; omega
  · have := ((h.ob hjb).lt _ e).2; omega
theorem TP.apA {w1 w' : World} {bx : Nat} {v1 v2 : Value} {C : List ByteArray} {O : List Int} {y1 : ByteArray} {y2 : Int} {L : Nat → Bool} {x : Nat → Value} {w2 : World} {v' : Value} (h : TP w1 bx v1 v2 C O y1 y2 L x w') (hja : L 4 = false) (hjb : L 9 = false) (hsa : L 11 = false) (hsb : L 13 = false)
    (ho : w2.ownsRow w1.heap.size 9 1 v' (C.length + 1) (cS C ++ [.string y1])) (hg : w'.grownBy w2 v1.ownBlock) : TP w1 bx v1 v2 C O y1 y2 (upd L 4 true) (upd x 4 v') w2 := by
  have o1 := h.oa hja
  refine ⟨h.ext.grown hg (own_ge o1), h.new, ?_, fun _ q => absurd q (by simp [upd]), fun q => absurd q (by simp [upd]), fun _ => ⟨own_form ho, ho⟩, fun q q' => ?_, fun _ => grown_own hg (h.ob hjb) (own_own_ne (h.ob hjb) o1 (by decide)), fun q => absurd q (by simp [upd, hjb])⟩
  · have b := grown_heap hg (h.box0 hsa hsb) (own_ne o1 (h.box0 hsa hsb) (by decide))
    simpa [upd, hsa, hsb] using b
  · obtain ⟨b, q1, q2, q3, q4⟩ := h.nb (by simpa [upd] using q) hjb
    exact ⟨b, by simpa [upd] using q1, grown_heap hg q2 (q3 hja), fun q => absurd q (by simp [upd]), q4⟩
theorem TP.apB {w1 w' : World} {bx : Nat} {v1 v2 : Value} {C : List ByteArray} {O : List Int} {y1 : ByteArray} {y2 : Int} {L : Nat → Bool} {x : Nat → Value} {w2 : World} {v' : Value} (h : TP w1 bx v1 v2 C O y1 y2 L x w') (hja : L 4 = true) (hjb : L 9 = false) (hsa : L 11 = false) (hsb : L 13 = false)
    (ho : w2.ownsRow w1.heap.size 3 1 v' (O.length + 1) (cI O ++ [.int .i64 y2])) (hg : w'.grownBy w2 v2.ownBlock) : TP w1 bx v1 v2 C O y1 y2 (upd L 9 true) (upd x 9 v') w2 := by
  have o1 := h.ob hjb
  refine ⟨h.ext.grown hg (own_ge o1), h.new, ?_, fun _ q => absurd q (by simp [upd, hja]), fun q => absurd q (by simp [upd, hja]), fun _ => ⟨(h.oa' hja).1, grown_own hg (h.oa' hja).2 (own_own_ne (h.oa' hja).2 o1 (by decide))⟩, fun _ q => absurd q (by simp [upd]), fun q => absurd q (by simp [upd]), fun _ => ⟨own_form ho, ho⟩⟩
  have b := grown_heap hg (h.box0 hsa hsb) (own_ne o1 (h.box0 hsa hsb) (by decide))
  simpa [upd, hsa, hsb] using b
theorem TP.stA {w1 w' : World} {bx : Nat} {v1 v2 : Value} {C : List ByteArray} {O : List Int} {y1 : ByteArray} {y2 : Int} {L : Nat → Bool} {x : Nat → Value} (h : TP w1 bx v1 v2 C O y1 y2 L x w') (hja : L 4 = true) (hjb : L 9 = true) (hsa : L 11 = false) (hsb : L 13 = false) (v : Value) :
    TP w1 bx v1 v2 C O y1 y2 (upd L 11 true) (upd x 11 v) (w'.setCell ⟨bx, 0, none⟩ (x 4)) := by
  have b := h.box0 hsa hsb
  refine ⟨h.ext.setCell h.new _, h.new, ?_, fun _ q => absurd q (by simp [upd, hja]), fun q => absurd q (by simp [upd, hja]), fun _ => ⟨(h.oa' hja).1, own_set_other (h.oa' hja).2 (own_ne (h.oa' hja).2 b (by decide)) _⟩, fun _ q => absurd q (by simp [upd, hjb]), fun q => absurd q (by simp [upd, hjb]), fun _ => ⟨(h.ob' hjb).1, own_set_other (h.ob' hjb).2 (own_ne (h.ob' hjb).2 b (by decide)) _⟩⟩
  simp [upd, hsb, World.setCell, Array.getElem?_modify, b]
theorem TP.stB {w1 w' : World} {bx : Nat} {v1 v2 : Value} {C : List ByteArray} {O : List Int} {y1 : ByteArray} {y2 : Int} {L : Nat → Bool} {x : Nat → Value} (h : TP w1 bx v1 v2 C O y1 y2 L x w') (hja : L 4 = true) (hjb : L 9 = true) (hsa : L 11 = true) (hsb : L 13 = false) (v : Value) :
    TP w1 bx v1 v2 C O y1 y2 (upd L 13 true) (upd x 13 v) (w'.setCell ⟨bx, 1, none⟩ (x 9)) := by
  have b := h.box1 hsa hsb
  refine ⟨h.ext.setCell h.new _, h.new, ?_, fun _ q => absurd q (by simp [upd, hja]), fun q => absurd q (by simp [upd, hja]), fun _ => ⟨(h.oa' hja).1, own_set_other (h.oa' hja).2 (own_ne (h.oa' hja).2 b (by decide)) _⟩, fun _ q => absurd q (by simp [upd, hjb]), fun q => absurd q (by simp [upd, hjb]), fun _ => ⟨(h.ob' hjb).1, own_set_other (h.ob' hjb).2 (own_ne (h.ob' hjb).2 b (by decide)) _⟩⟩
  simp [upd, hsa, World.setCell, Array.getElem?_modify, b]

end Go.Proofs.YtnepdfpooobmcaaGreat
