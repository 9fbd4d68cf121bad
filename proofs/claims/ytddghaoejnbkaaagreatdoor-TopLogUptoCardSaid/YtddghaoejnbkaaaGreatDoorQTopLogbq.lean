/- Contracts and lemmas for the proof of TopLog; each theorem states its own conditions. -/
import Derived.Test.YtddghaoejnbkaaaGreatDoorQTopLogbm
import Derived.Test.YtddghaoejnbkaaaGreatDoorQTopLogbg
import Derived.Shelf.Sort.Plain
import Derived.Shelf.Slices.Turned
import Derived.Ground.Names2Prog
import Derived.Shelf.Slices.CompactI
import Derived.Shelf.Slices.In.SortNone
import Derived.Shelf.Slices.Empties2
import Derived.Test.YtddghaoejnbkaaaGreatDoorProg
import Derived.Test.YtddghaoejnbkaaaGreatDoorQTopLogaa
import Derived.Test.YtddghaoejnbkaaaGreatDoorQTopLogbi
import Derived.Test.YtddghaoejnbkaaaGreatDoorQTopLogbk
import Derived.Test.YtddghaoejnbkaaaGreatDoorQTopLogax
import Derived.Test.YtddghaoejnbkaaaGreatDoorQTopLogbl
import Derived.Test.YtddghaoejnbkaaaGreatDoorQTopLogbj
import Derived.Test.YtddghaoejnbkaaaGreatDoorQTopLogac
import Derived.Test.YtddghaoejnbkaaaGreatDoorQTopLogbf
import Derived.Test.YtddghaoejnbkaaaGreatDoorQTopLogbh
import Derived.BigQuiet
import Derived.Test.YtddghaoejnbkaaaGreatDoorQTopLogag
import Derived.Test.YtddghaoejnbkaaaGreatDoorQTopLogab
import Derived.Test.YtddghaoejnbkaaaGreatDoorQTopLogai
import Derived.Shelf.Strings.SlTrimAscii
import Derived.Ground.NamesProg
import Derived.Test.YtddghaoejnbkaaaGreatDoorQTopLogaw
import Derived.Test.YtddghaoejnbkaaaGreatDoorQTopLogaf
import Derived.Lib.SlTrimSet
import Derived.Test.YtddghaoejnbkaaaGreatDoorQTopLogak
import Derived.Test.YtddghaoejnbkaaaGreatDoorQTopLogay
import Derived.WalkLawsBesides
import Derived.Carry
import Derived.Test.YtddghaoejnbkaaaGreatDoorQTopLogap
import Derived.Test.YtddghaoejnbkaaaGreatDoorQTopLogbn
set_option linter.unusedVariables false
set_option linter.unusedSimpArgs false
/- Contracts and lemmas for the proofs of this seat; each theorem states its own conditions. -/
namespace Go.Proofs.YtddghaoejnbkaaaGreatDoor
open Go.RowKit
/-! rokeep.partsBegun -/
end Go.Proofs.YtddghaoejnbkaaaGreatDoor

/- Contracts and lemmas for the proofs of this seat; each theorem states its own conditions. -/
namespace Go.Proofs.YtddghaoejnbkaaaGreatDoor
open Go.RowKit
/-! what a turn of a box of parts leaves -/
end Go.Proofs.YtddghaoejnbkaaaGreatDoor

/- Contracts and lemmas for the proofs of this seat; each theorem states its own conditions. -/
namespace Go.Proofs.YtddghaoejnbkaaaGreatDoor
open Go.Shelf
end Go.Proofs.YtddghaoejnbkaaaGreatDoor

/- Contracts and lemmas for the proofs of this seat; each theorem states its own conditions. -/
namespace Go.Proofs.YtddghaoejnbkaaaGreatDoor
open Go.RowKit Go.Maps
/-! Free -/
end Go.Proofs.YtddghaoejnbkaaaGreatDoor

/- Contracts and lemmas for the proofs of this seat; each theorem states its own conditions. -/
namespace Go.Proofs.YtddghaoejnbkaaaGreatDoor
open Go.RowKit Go.Shelf Go.Lib Go.Sort
/-! slices.Sort, slices.Compact at rows of texts of one's own; slices.Contains -/
end Go.Proofs.YtddghaoejnbkaaaGreatDoor

/- Contracts and lemmas for the proofs of this seat; each theorem states its own conditions. -/
namespace Go.Proofs.YtddghaoejnbkaaaGreatDoor
open Go.RowKit Go.Maps
/-! an append to a row of claims in a region that draws its order -/
end Go.Proofs.YtddghaoejnbkaaaGreatDoor

/- Contracts and lemmas for the proofs of this seat; each theorem states its own conditions. -/
namespace Go.Proofs.YtddghaoejnbkaaaGreatDoor
open Go.RowKit Go.Maps
/-! Add -/
end Go.Proofs.YtddghaoejnbkaaaGreatDoor

/- Contracts and lemmas for the proofs of this seat; each theorem states its own conditions. -/
namespace Go.Proofs.YtddghaoejnbkaaaGreatDoor
open Go.RowKit Go.Maps
/-! Free of one that may go on -/
end Go.Proofs.YtddghaoejnbkaaaGreatDoor

/- Contracts and lemmas for the proofs of this seat; each theorem states its own conditions. -/
namespace Go.Proofs.YtddghaoejnbkaaaGreatDoor
open Go.RowKit Go.Maps
/-! rokeep.lockBegun -/
end Go.Proofs.YtddghaoejnbkaaaGreatDoor

/- Contracts and lemmas for the proofs of this seat; each theorem states its own conditions. -/
namespace Go.Proofs.YtddghaoejnbkaaaGreatDoor
/-! plain laws of plan's rows -/
def iN (l : List Nat) : List Int := l.map fun (n : Nat) => (n : Int)
def oL (A : List Ops) (n i : Nat) : List Int := iN (rndTo A i) ++ List.replicate (n - i) 0
end Go.Proofs.YtddghaoejnbkaaaGreatDoor

/- Contracts and lemmas for the proofs of this seat; each theorem states its own conditions. -/
namespace Go.Proofs.YtddghaoejnbkaaaGreatDoor
/-! plan.Play, in plain lists -/
end Go.Proofs.YtddghaoejnbkaaaGreatDoor

/- Contracts and lemmas for the proofs of this seat; each theorem states its own conditions. -/
namespace Go.Proofs.YtddghaoejnbkaaaGreatDoor
open Go.RowKit
/-! plan.laid -/
end Go.Proofs.YtddghaoejnbkaaaGreatDoor

/- Contracts and lemmas for the proofs of this seat; each theorem states its own conditions. -/
namespace Go.Proofs.YtddghaoejnbkaaaGreatDoor
open Go.RowKit
/-! plan.Order -/
end Go.Proofs.YtddghaoejnbkaaaGreatDoor

/- Contracts and lemmas for the proofs of this seat; each theorem states its own conditions. -/
namespace Go.Proofs.YtddghaoejnbkaaaGreatDoor
open Go.RowKit
/-! plan.Rounds -/
end Go.Proofs.YtddghaoejnbkaaaGreatDoor

/- Contracts and lemmas for the proofs of this seat; each theorem states its own conditions. -/
namespace Go.Proofs.YtddghaoejnbkaaaGreatDoor
open Go.RowKit
end Go.Proofs.YtddghaoejnbkaaaGreatDoor

/- Contracts and lemmas for the proofs of this seat; each theorem states its own conditions. -/
namespace Go.Proofs.YtddghaoejnbkaaaGreatDoor
open Go.RowKit Go.Shelf Go.Lib Go.Sort
/-! parts.Who -/
end Go.Proofs.YtddghaoejnbkaaaGreatDoor

/- Contracts and lemmas for the proofs of this seat; each theorem states its own conditions. -/
namespace Go.Proofs.YtddghaoejnbkaaaGreatDoor
open Go.RowKit

structure TP (w1 : World) (bx : Nat) (v1 v2 : Value) (C : List ByteArray) (O : List Int) (y1 : ByteArray) (y2 : Int) (L : Nat → Bool) (x : Nat → Value) (w' : World) : Prop where
  ext : Ext w1 w'
  new : w1.heap.size ≤ bx
  box : w'.heap[bx]? = some (.cells #[if L 11 then x 4 else v1, if L 13 then x 9 else v2] 34 (0, 0))
  na : L 3 = true → L 4 = false → ∃ b, x 3 = .slice (some ⟨b, 0, none⟩) 1 1 ∧ w'.heap[b]? = some (.cells #[.string y1] 9 (0, 0))
  oa : L 4 = false → w'.ownsRow w1.heap.size 9 1 v1 C.length (cS C)
  oa' : L 4 = true → (∃ a c, x 4 = .slice a (C.length + 1) c) ∧ w'.ownsRow w1.heap.size 9 1 (x 4) (C.length + 1) (cS C ++ [.string y1])
  nb : L 8 = true → L 9 = false → ∃ b, x 8 = .slice (some ⟨b, 0, none⟩) 1 1 ∧ w'.heap[b]? = some (.cells #[.int .i64 y2] 3 (0, 0)) ∧ (L 4 = false → v1.ownBlock ≠ some b) ∧ v2.ownBlock ≠ some b
  ob : L 9 = false → w'.ownsRow w1.heap.size 3 1 v2 O.length (cI O)
  ob' : L 9 = true → (∃ a c, x 9 = .slice a (O.length + 1) c) ∧ w'.ownsRow w1.heap.size 3 1 (x 9) (O.length + 1) (cI O ++ [.int .i64 y2])
theorem TP.big {w1 w' : World} {bx : Nat} {v1 v2 : Value} {C : List ByteArray} {O : List Int} {y1 : ByteArray} {y2 : Int} {L : Nat → Bool} {x : Nat → Value} (h : TP w1 bx v1 v2 C O y1 y2 L x w') : w1.heap.size ≤ w'.heap.size := h.ext.size'
theorem TP.quiet {w1 w' : World} {bx : Nat} {v1 v2 : Value} {C : List ByteArray} {O : List Int} {y1 : ByteArray} {y2 : Int} {L : Nat → Bool} {x : Nat → Value} (h : TP w1 bx v1 v2 C O y1 y2 L x w') (i : Nat) (v : Value)
    (hi : i ≠ 3 ∧ i ≠ 4 ∧ i ≠ 8 ∧ i ≠ 9 ∧ i ≠ 11 ∧ i ≠ 13) : TP w1 bx v1 v2 C O y1 y2 (upd L i true) (upd x i v) w' := by
  obtain ⟨hia, hja, hib, hjb, hsa, hsb⟩ := hi
  have e (j : Nat) (hj : i ≠ j) : upd L i true j = L j := upd_ne _ _ (Ne.symm hj)
  have e' (j : Nat) (hj : i ≠ j) : upd x i v j = x j := upd_ne _ _ (Ne.symm hj)
  refine ⟨h.ext, h.new, ?_, ?_, ?_, ?_, ?_, ?_, ?_⟩
  · rw [e _ hsa, e _ hsb, e' _ hja, e' _ hjb]; exact h.box
  · rw [e _ hia, e' _ hia, e _ hja]; exact h.na
  · rw [e _ hja]; exact h.oa
  · rw [e _ hja, e' _ hja]; exact h.oa'
  · rw [e _ hib, e' _ hib, e _ hjb, e _ hja]; exact h.nb
  · rw [e _ hjb]; exact h.ob
  · rw [e _ hjb, e' _ hjb]; exact h.ob'
theorem TP.box0 {w1 w' : World} {bx : Nat} {v1 v2 : Value} {C : List ByteArray} {O : List Int} {y1 : ByteArray} {y2 : Int} {L : Nat → Bool} {x : Nat → Value} (h : TP w1 bx v1 v2 C O y1 y2 L x w') (hsa : L 11 = false) (hsb : L 13 = false) : w'.heap[bx]? = some (.cells #[v1, v2] 34 (0, 0)) := by
  have := h.box; rw [hsa, hsb] at this; simpa using this
theorem TP.box1 {w1 w' : World} {bx : Nat} {v1 v2 : Value} {C : List ByteArray} {O : List Int} {y1 : ByteArray} {y2 : Int} {L : Nat → Bool} {x : Nat → Value} (h : TP w1 bx v1 v2 C O y1 y2 L x w') (hsa : L 11 = true) (hsb : L 13 = false) : w'.heap[bx]? = some (.cells #[x 4, v2] 34 (0, 0)) := by
  have := h.box; rw [hsa, hsb] at this; simpa using this
theorem TP.bsA {w1 w' : World} {bx : Nat} {v1 v2 : Value} {C : List ByteArray} {O : List Int} {y1 : ByteArray} {y2 : Int} {L : Nat → Bool} {x : Nat → Value} (h : TP w1 bx v1 v2 C O y1 y2 L x w') : TP w1 bx v1 v2 C O y1 y2 (upd L 3 true) (upd x 3 (.slice (some ⟨w'.heap.size, 0, none⟩) 1 1)) (w'.alloc (.cells #[.string y1] 9)) := by
  have k := (Ext.refl w').alloc (.cells #[.string y1] 9)
  refine ⟨h.ext.trans k, h.new, k.heap h.box, fun _ _ => ⟨_, rfl, heap_alloc_new _ _⟩, fun q => (h.oa q).alloc _, fun q => ⟨(h.oa' q).1, (h.oa' q).2.alloc _⟩, fun q q' => ?_, fun q => (h.ob q).alloc _, fun q => ⟨(h.ob' q).1, (h.ob' q).2.alloc _⟩⟩
  obtain ⟨b, q1, q2, q3, q4⟩ := h.nb q q'
  exact ⟨b, q1, k.heap q2, q3, q4⟩
theorem TP.bsB {w1 w' : World} {bx : Nat} {v1 v2 : Value} {C : List ByteArray} {O : List Int} {y1 : ByteArray} {y2 : Int} {L : Nat → Bool} {x : Nat → Value} (h : TP w1 bx v1 v2 C O y1 y2 L x w') (hjb : L 9 = false) : TP w1 bx v1 v2 C O y1 y2 (upd L 8 true) (upd x 8 (.slice (some ⟨w'.heap.size, 0, none⟩) 1 1)) (w'.alloc (.cells #[.int .i64 y2] 3)) := by
  have k := (Ext.refl w').alloc (.cells #[.int .i64 y2] 3)
  refine ⟨h.ext.trans k, h.new, k.heap h.box, fun q q' => ?_, fun q => (h.oa q).alloc _, fun q => ⟨(h.oa' q).1, (h.oa' q).2.alloc _⟩, fun _ _ => ⟨_, rfl, heap_alloc_new _ _, fun q e => ?_, fun e => ?_⟩, fun q => (h.ob q).alloc _, fun q => ⟨(h.ob' q).1, (h.ob' q).2.alloc _⟩⟩
  · obtain ⟨b, q1, q2⟩ := h.na q q'
    exact ⟨b, q1, k.heap q2⟩
  · have := ((h.oa q).lt _ e).2; omega
  · have := ((h.ob hjb).lt _ e).2; omega
theorem TP.apA {w1 w' : World} {bx : Nat} {v1 v2 : Value} {C : List ByteArray} {O : List Int} {y1 : ByteArray} {y2 : Int} {L : Nat → Bool} {x : Nat → Value} {w2 : World} {v' : Value} (h : TP w1 bx v1 v2 C O y1 y2 L x w') (hja : L 4 = false) (hjb : L 9 = false) (hsa : L 11 = false) (hsb : L 13 = false)
    (ho : w2.ownsRow w1.heap.size 9 1 v' (C.length + 1) (cS C ++ [.string y1])) (hg : w'.grownBy w2 v1.ownBlock) : TP w1 bx v1 v2 C O y1 y2 (upd L 4 true) (upd x 4 v') w2 := by
  have o1 := h.oa hja
  refine ⟨h.ext.grown hg (own_ge o1), h.new, ?_, fun _ q => absurd q (by simp [upd]), fun q => absurd q (by simp [upd]), fun _ => ⟨own_form ho, ho⟩, fun q q' => ?_, fun _ => grown_own hg (h.ob hjb) (own_own_ne (h.ob hjb) o1 (by decide)), fun q => absurd q (by simp [upd, hjb])⟩
  · have b := grown_heap hg (h.box0 hsa hsb) (own_ne o1 (h.box0 hsa hsb) (by decide))
    simpa [upd, hsa, hsb] using b
  · obtain ⟨b, q1, q2, q3, q4⟩ := h.nb (by simpa [upd] using q) hjb
    exact ⟨b, by simpa [upd] using q1, grown_heap hg q2 (q3 hja), fun q => absurd q (by simp [upd]), q4⟩
theorem TP.apB {w1 w' : World} {bx : Nat} {v1 v2 : Value} {C : List ByteArray} {O : List Int} {y1 : ByteArray} {y2 : Int} {L : Nat → Bool} {x : Nat → Value} {w2 : World} {v' : Value} (h : TP w1 bx v1 v2 C O y1 y2 L x w') (hja : L 4 = true) (hjb : L 9 = false) (hsa : L 11 = false) (hsb : L 13 = false)
    (ho : w2.ownsRow w1.heap.size 3 1 v' (O.length + 1) (cI O ++ [.int .i64 y2])) (hg : w'.grownBy w2 v2.ownBlock) : TP w1 bx v1 v2 C O y1 y2 (upd L 9 true) (upd x 9 v') w2 := by
  have o1 := h.ob hjb
  refine ⟨h.ext.grown hg (own_ge o1), h.new, ?_, fun _ q => absurd q (by simp [upd, hja]), fun q => absurd q (by simp [upd, hja]), fun _ => ⟨(h.oa' hja).1, grown_own hg (h.oa' hja).2 (own_own_ne (h.oa' hja).2 o1 (by decide))⟩, fun _ q => absurd q (by simp [upd]), fun q => absurd q (by simp [upd]), fun _ => ⟨own_form ho, ho⟩⟩
  have b := grown_heap hg (h.box0 hsa hsb) (own_ne o1 (h.box0 hsa hsb) (by decide))
  simpa [upd, hsa, hsb] using b
theorem TP.stA {w1 w' : World} {bx : Nat} {v1 v2 : Value} {C : List ByteArray} {O : List Int} {y1 : ByteArray} {y2 : Int} {L : Nat → Bool} {x : Nat → Value} (h : TP w1 bx v1 v2 C O y1 y2 L x w') (hja : L 4 = true) (hjb : L 9 = true) (hsa : L 11 = false) (hsb : L 13 = false) (v : Value) :
    TP w1 bx v1 v2 C O y1 y2 (upd L 11 true) (upd x 11 v) (w'.setCell ⟨bx, 0, none⟩ (x 4)) := by
  have b := h.box0 hsa hsb
  refine ⟨h.ext.setCell h.new _, h.new, ?_, fun _ q => absurd q (by simp [upd, hja]), fun q => absurd q (by simp [upd, hja]), fun _ => ⟨(h.oa' hja).1, own_set_other (h.oa' hja).2 (own_ne (h.oa' hja).2 b (by decide)) _⟩, fun _ q => absurd q (by simp [upd, hjb]), fun q => absurd q (by simp [upd, hjb]), fun _ => ⟨(h.ob' hjb).1, own_set_other (h.ob' hjb).2 (own_ne (h.ob' hjb).2 b (by decide)) _⟩⟩
  simp [upd, hsb, World.setCell, Array.getElem?_modify, b]
theorem TP.stB {w1 w' : World} {bx : Nat} {v1 v2 : Value} {C : List ByteArray} {O : List Int} {y1 : ByteArray} {y2 : Int} {L : Nat → Bool} {x : Nat → Value} (h : TP w1 bx v1 v2 C O y1 y2 L x w') (hja : L 4 = true) (hjb : L 9 = true) (hsa : L 11 = true) (hsb : L 13 = false) (v : Value) :
    TP w1 bx v1 v2 C O y1 y2 (upd L 13 true) (upd x 13 v) (w'.setCell ⟨bx, 1, none⟩ (x 9)) := by
  have b := h.box1 hsa hsb
  refine ⟨h.ext.setCell h.new _, h.new, ?_, fun _ q => absurd q (by simp [upd, hja]), fun q => absurd q (by simp [upd, hja]), fun _ => ⟨(h.oa' hja).1, own_set_other (h.oa' hja).2 (own_ne (h.oa' hja).2 b (by decide)) _⟩, fun _ q => absurd q (by simp [upd, hjb]), fun q => absurd q (by simp [upd, hjb]), fun _ => ⟨(h.ob' hjb).1, own_set_other (h.ob' hjb).2 (own_ne (h.ob' hjb).2 b (by decide)) _⟩⟩
  simp [upd, hsa, World.setCell, Array.getElem?_modify, b]

end Go.Proofs.YtddghaoejnbkaaaGreatDoor

/- Contracts and lemmas for the proofs of this seat; each theorem states its own conditions. -/
namespace Go.Proofs.YtddghaoejnbkaaaGreatDoor
open Go.RowKit
/-- what stands after k rounds of Plain: w1 is the world ahead of the loop -/
def PS (w1 wr : World) (bx : Nat) (C : List ByteArray) (O : List Int) (k : Nat) : Prop :=
  ∃ a1 c1 a2 c2, wr.heap[bx]? = some (.cells #[.slice a1 (pl C O k).1.length c1, .slice a2 (pl C O k).2.length c2] 34 (0, 0)) ∧
    wr.ownsRow w1.heap.size 9 1 (.slice a1 (pl C O k).1.length c1) (pl C O k).1.length (cS (pl C O k).1) ∧
    wr.ownsRow w1.heap.size 3 1 (.slice a2 (pl C O k).2.length c2) (pl C O k).2.length (cI (pl C O k).2) ∧ Ext w1 wr
end Go.Proofs.YtddghaoejnbkaaaGreatDoor

/- Contracts and lemmas for the proofs of this seat; each theorem states its own conditions. -/
namespace Go.Proofs.YtddghaoejnbkaaaGreatDoor
open Go.RowKit
end Go.Proofs.YtddghaoejnbkaaaGreatDoor

/- Contracts and lemmas for the proofs of this seat; each theorem states its own conditions. -/
namespace Go.Proofs.YtddghaoejnbkaaaGreatDoor
open Go.RowKit
/-! shard.Plain, Same, Part at whatever is handed in -/
end Go.Proofs.YtddghaoejnbkaaaGreatDoor

/- Contracts and lemmas for the proofs of this seat; each theorem states its own conditions. -/
namespace Go.Proofs.YtddghaoejnbkaaaGreatDoor
open Go.Shelf
end Go.Proofs.YtddghaoejnbkaaaGreatDoor

/- Contracts and lemmas for the proofs of this seat; each theorem states its own conditions. -/
namespace Go.Proofs.YtddghaoejnbkaaaGreatDoor
open Go.RowKit
end Go.Proofs.YtddghaoejnbkaaaGreatDoor

/- Contracts and lemmas for the proofs of this seat; each theorem states its own conditions. -/
namespace Go.Proofs.YtddghaoejnbkaaaGreatDoor
open Go.RowKit
/-! the document's Key, Map, Whose -/
end Go.Proofs.YtddghaoejnbkaaaGreatDoor

/- Contracts and lemmas for the proofs of this seat; each theorem states its own conditions. -/
namespace Go.Proofs.YtddghaoejnbkaaaGreatDoor
open Go.RowKit
end Go.Proofs.YtddghaoejnbkaaaGreatDoor

/- Contracts and lemmas for the proofs of this seat; each theorem states its own conditions. -/
namespace Go.Proofs.YtddghaoejnbkaaaGreatDoor
open Go.RowKit Go.Maps
/-! maps of texts to numbers: m[k] -/
section
variable {P : Program} (w : World) {ops : Array Oper} {rest : List Oper} {o : Oper} {a : Act} {Q : Exit → Act → World → Prop}
end
end Go.Proofs.YtddghaoejnbkaaaGreatDoor

/- Contracts and lemmas for the proofs of this seat; each theorem states its own conditions. -/
namespace Go.Proofs.YtddghaoejnbkaaaGreatDoor
open Go.RowKit Go.Maps
/-! the document's Value, Store, Of -/
end Go.Proofs.YtddghaoejnbkaaaGreatDoor

/- Contracts and lemmas for the proofs of this seat; each theorem states its own conditions. -/
namespace Go.Proofs.YtddghaoejnbkaaaGreatDoor
open Go.RowKit
/-! the document's Store -/
end Go.Proofs.YtddghaoejnbkaaaGreatDoor

/- Contracts and lemmas for the proofs of this seat; each theorem states its own conditions. -/
namespace Go.Proofs.YtddghaoejnbkaaaGreatDoor
open Go.RowKit
/-! the document's Deed -/
end Go.Proofs.YtddghaoejnbkaaaGreatDoor

/- Contracts and lemmas for the proofs of this seat; each theorem states its own conditions. -/
namespace Go.Proofs.YtddghaoejnbkaaaGreatDoor
open Go.RowKit Go.Maps
/-! the document's Touches -/
/-- a set of texts, as a map to true -/
def setF (L : List ByteArray) : ByteArray → Option Bool := fun x => if memB L x = true then some true else none
/-- two sets in memory -/
def TRel (w : World) (b c : Nat) (R W : List ByteArray) (wr : World) : Prop :=
  ∃ (D F : DU), wr.ownsMap Tryz.prog 9 (plainElem Tryz.prog 4) b R.length D ∧ MapF kS okS dB D (setF R) ∧ wr.ownsMap Tryz.prog 9 (plainElem Tryz.prog 4) c W.length F ∧ MapF kS okS dB F (setF W) ∧ Ext w wr
theorem TRel.ext {w w1 w2 : World} {b c : Nat} {R W : List ByteArray} (h : TRel w b c R W w1) (E : Ext w1 w2) : TRel w b c R W w2 := by
  obtain ⟨D, F, h1, h2, h3, h4, h5⟩ := h
  exact ⟨D, F, ownsMap_ext h1 E, h2, ownsMap_ext h3 E, h4, h5.trans E⟩
theorem TRel.lt {w w1 : World} {b c : Nat} {R W : List ByteArray} (h : TRel w b c R W w1) : b < w1.heap.size ∧ c < w1.heap.size := by
  obtain ⟨D, F, h1, h2, h3, h4, h5⟩ := h
  exact ⟨h1.lt, h3.lt⟩
theorem TRel.start (w w0 : World) (E : Ext w w0) : TRel w w0.heap.size (w0.heap.size + 1) [] [] ((w0.alloc (.map #[] 0)).alloc (.map #[] 0)) := by
  have h1 := (World.ownsMap_made w0 Tryz.prog 9 (plainElem (H := Unit) Tryz.prog 4)).alloc (.map #[] 0)
  have h2 := World.ownsMap_made (w0.alloc (.map #[] 0)) Tryz.prog 9 (plainElem (H := Unit) Tryz.prog 4)
  have e : setF [] = fun _ => none := by funext x; simp [setF, memB]
  exact ⟨.map [], .map [], h1, e ▸ MapF.empty, by simpa using h2, e ▸ MapF.empty, (E.alloc _).alloc _⟩
section
variable {ops : Array Oper} {rest : List Oper} {o : Oper} {a : Act} {Q : Exit → Act → World → Prop}
end
end Go.Proofs.YtddghaoejnbkaaaGreatDoor

/- Contracts and lemmas for the proofs of this seat; each theorem states its own conditions. -/
namespace Go.Proofs.YtddghaoejnbkaaaGreatDoor
open Go.RowKit Go.Maps Go.Sort
/-! the document's Names -/
section
variable {P : Program} (w : World) {ops : Array Oper} {rest : List Oper} {o : Oper} {a : Act} {Q : Exit → Act → World → Prop}
end
end Go.Proofs.YtddghaoejnbkaaaGreatDoor

/- Contracts and lemmas for the proofs of this seat; each theorem states its own conditions. -/
namespace Go.Proofs.YtddghaoejnbkaaaGreatDoor
open Go.RowKit Go.Maps
/-! the document's Clash -/
/-- a loop over a set of texts: what stands behind it, and what has been seen -/
def CRel (w : World) (b r n : Nat) (D : DU) (P : ByteArray → Prop) (wr : World) : Prop :=
  ∃ (left : Lit → Bool) (cnt : Nat), wr.ranges Tryz.prog 9 (plainElem Tryz.prog 4) b r n D left cnt ∧ (∀ k, okS k → left (kS k) = false → P k) ∧ Ext w wr
theorem CRel.step {left : Lit → Bool} {P : ByteArray → Prop} {x : ByteArray} (hP : ∀ k, okS k → left (kS k) = false → P k) (hx : P x) : ∀ k, okS k → (left (kS k) && !(kS k).sameKey (kS x)) = false → P k := by
  intro k hk h
  by_cases e : k = x
  · subst e; exact hx
  · rw [sameKey_kS e] at h
    exact hP k hk (by simpa using h)
end Go.Proofs.YtddghaoejnbkaaaGreatDoor

/- Contracts and lemmas for the proofs of this seat; each theorem states its own conditions. -/
namespace Go.Proofs.YtddghaoejnbkaaaGreatDoor
open Go.RowKit Go.Maps
/-! deed.Keys, deed.Clash at whatever is handed in -/
end Go.Proofs.YtddghaoejnbkaaaGreatDoor

/- Contracts and lemmas for the proofs of this seat; each theorem states its own conditions. -/
namespace Go.Proofs.YtddghaoejnbkaaaGreatDoor
open Go.RowKit
/-! parts at whatever is handed in -/
set_option maxRecDepth 100000 in
set_option maxHeartbeats 1000000 in
theorem pmap_ok {w : World} {bt : Nat} {C : List ByteArray} {O : List Int} {P : Nat → Prs} {vc vo : Value} {pv : Nat → Value} (h : PartsSt w bt C O P vc vo pv) (hm : MapOk C O) :
    Calls Tryz.prog 80 #[.pointer (some ⟨bt, 0, none⟩)] w fun e w' => ∃ v', e = .returned v' ∧ OwnMap w' w.heap.size v' C O ∧ Ext w w' := by
  have E0 := (Ext.refl w).alloc (.cells #[.slice none 0 0, .slice none 0 0] 34)
  have hb := heap_alloc_new w (.cells #[.slice none 0 0, .slice none 0 0] 34)
  obtain ⟨w0, hw0⟩ : ∃ w0, w.alloc (.cells #[.slice none 0 0, .slice none 0 0] 34) = w0 := ⟨_, rfl⟩
  obtain ⟨rb, hrb⟩ : ∃ rb, w.heap.size = rb := ⟨_, rfl⟩
  have hs0 : w0.heap.size = rb + 1 := by rw [← hw0, ← hrb]; simp
  rw [hw0] at E0 hb
  rw [hrb] at hb
  replace h := h.ext E0
  have x := h.cell0
  obtain ⟨a1, k1, e1⟩ := own_form h.cuts
  obtain ⟨a2, k2, e2⟩ := own_form h.owners
  have hI := h.is
  rw [e1, e2] at hI x
  have few := hm.few
  have len := hm.len
  have CP := hid (copied_any _ C O w0 hI (by omega) (by omega))
  have HS0 := hid hs0
  have HB := hid hb
  have hrl : w.heap.size ≤ rb := by omega
  clear h hI e1 e2 len few hs0 hb
  go_enter Tryz.func80, Tryz.ntmps80
  go_wp2_with fail
  refine (CP.out).mono ?_
  clear CP hw0 hrb
  rintro e w1 ⟨v', rfl, hmy, E1⟩
  have hbR := E1.heap HB.out
  obtain ⟨c', o', rfl, q1, q2⟩ := hmy
  obtain ⟨a3, k3, rfl⟩ := own_form q1
  obtain ⟨a4, k4, rfl⟩ := own_form q2
  have hb2 := blk2 hbR
  have rB := blk2 (blk2_set2 (u := .slice a3 C.length k3) (v := .slice a4 O.length k4) hbR)
  have EE := hid (((E0.trans E1).setCell (p := ⟨rb, 0, none⟩) hrl (.slice a3 C.length k3)).setCell (p := ⟨rb, 1, none⟩) hrl (.slice a4 O.length k4))
  have HM := hid (show OwnMap ((w1.setCell ⟨rb, 0, none⟩ (.slice a3 C.length k3)).setCell ⟨rb, 1, none⟩ (.slice a4 O.length k4)) w.heap.size (.agg #[.slice a3 C.length k3, .slice a4 O.length k4]) C O from
    ⟨_, _, rfl, own_base (own_set2 q1 (by show rb < _; rw [HS0.out]; omega) (by show rb < _; rw [HS0.out]; omega)) E0.size', own_base (own_set2 q2 (by show rb < _; rw [HS0.out]; omega) (by show rb < _; rw [HS0.out]; omega)) E0.size'⟩)
  clear q1 q2 E1 hbR
  go_wp2
  exact bodyPost_ret (v := .agg #[.slice a3 C.length k3, .slice a4 O.length k4]) (by simp [results, Tryz.results80, go_sem, rB.1, rB.2.1]) rfl ⟨_, rfl, HM.out, EE.out⟩
end Go.Proofs.YtddghaoejnbkaaaGreatDoor
