/- Contracts and lemmas for the proof of TextSays; each theorem states its own conditions. -/
import Derived.Test.YtnepdfpooobmcaaGreatDoorQTextSaysar
import Derived.Test.YtnepdfpooobmcaaGreatDoorQTextSaysaa
import Derived.Laws.IdiomCopy
import Derived.Test.YtnepdfpooobmcaaGreatDoorQTextSaysau
import Derived.Test.YtnepdfpooobmcaaGreatDoorQTextSaysak
import Derived.Shelf.Sort.Plain
import Derived.Shelf.Slices.In.SortNone
import Derived.Shelf.Slices.CompactS
import Derived.Test.YtnepdfpooobmcaaGreatDoorQTextSaysbe
import Derived.Test.YtnepdfpooobmcaaGreatDoorQTextSaysaw
import Derived.Test.YtnepdfpooobmcaaGreatDoorQTextSaysag
import Derived.WalkLawsBesides
import Derived.Carry
import Derived.Test.YtnepdfpooobmcaaGreatDoorProg
import Derived.WalkSpells
import Derived.Test.YtnepdfpooobmcaaGreatDoorQTextSaysam
set_option linter.unusedVariables false
set_option linter.unusedSimpArgs false
/- Contracts and lemmas for the proofs of this seat; each theorem states its own conditions. -/
namespace Go.Proofs.YtnepdfpooobmcaaGreatDoor
/-! the table of claims, in plain lists -/
end Go.Proofs.YtnepdfpooobmcaaGreatDoor

/- Contracts and lemmas for the proofs of this seat; each theorem states its own conditions. -/
namespace Go.Proofs.YtnepdfpooobmcaaGreatDoor
open Go.RowKit
/-! Many cells written in one block -/
end Go.Proofs.YtnepdfpooobmcaaGreatDoor

/- Contracts and lemmas for the proofs of this seat; each theorem states its own conditions. -/
namespace Go.Proofs.YtnepdfpooobmcaaGreatDoor
open Go.RowKit Go.Shelf Go.Lib Go.Sort
/-! deed.sorted: texts in order, each once -/
end Go.Proofs.YtnepdfpooobmcaaGreatDoor

/- Contracts and lemmas for the proofs of this seat; each theorem states its own conditions. -/
namespace Go.Proofs.YtnepdfpooobmcaaGreatDoor
open Go.RowKit Go.Maps
/-! the lock table, in memory -/
end Go.Proofs.YtnepdfpooobmcaaGreatDoor

/- Contracts and lemmas for the proofs of this seat; each theorem states its own conditions. -/
namespace Go.Proofs.YtnepdfpooobmcaaGreatDoor
open Go.RowKit Go.Maps
/-! lock.New, holds, May, Ready, Left -/
end Go.Proofs.YtnepdfpooobmcaaGreatDoor

/- Contracts and lemmas for the proofs of this seat; each theorem states its own conditions. -/
namespace Go.Proofs.YtnepdfpooobmcaaGreatDoor
open Go.RowKit
/-! plain laws of Join, Scan, Total -/
def joinP (a b : Prs) : Prs := b.foldl (fun o p => withP o p.1 p.2) a
theorem join_cons (a : Prs) (p : ByteArray × Int) (b : Prs) : joinP a (p :: b) = joinP (withP a p.1 p.2) b := rfl
end Go.Proofs.YtnepdfpooobmcaaGreatDoor

/- Contracts and lemmas for the proofs of this seat; each theorem states its own conditions. -/
namespace Go.Proofs.YtnepdfpooobmcaaGreatDoor
open Go.RowKit Go.Maps
/-! May, Ready, Left -/
end Go.Proofs.YtnepdfpooobmcaaGreatDoor

/- Contracts and lemmas for the proofs of this seat; each theorem states its own conditions. -/
namespace Go.Proofs.YtnepdfpooobmcaaGreatDoor
open Go.RowKit
/-! Join -/
end Go.Proofs.YtnepdfpooobmcaaGreatDoor

/- Contracts and lemmas for the proofs of this seat; each theorem states its own conditions. -/
namespace Go.Proofs.YtnepdfpooobmcaaGreatDoor
open Go.RowKit Go.Maps
/-! rokeep.Pairs -/
end Go.Proofs.YtnepdfpooobmcaaGreatDoor

/- Contracts and lemmas for the proofs of this seat; each theorem states its own conditions. -/
namespace Go.Proofs.YtnepdfpooobmcaaGreatDoor
open Go.RowKit
end Go.Proofs.YtnepdfpooobmcaaGreatDoor

/- Contracts and lemmas for the proofs of this seat; each theorem states its own conditions. -/
namespace Go.Proofs.YtnepdfpooobmcaaGreatDoor
open Go.RowKit
/-! rokeep.run, deedBegun, deed.Serial -/
/-- deeds, in a row -/
def SegDs (w : World) (v : Value) (D : List Ops) : Prop :=
  ∃ vs : List Value, vs.length = D.length ∧ Seg w v 1 vs.length vs ∧ ∀ (i : Nat) (u : Value) (d : Ops), vs[i]? = some u → D[i]? = some d → Seg w u 4 d.length (cO d)
theorem SegDs.ext {w w' : World} {v : Value} {D : List Ops} (h : SegDs w v D) (k : Ext w w') : SegDs w' v D := by
  obtain ⟨vs, h1, h2, h3⟩ := h
  exact ⟨vs, h1, h2.ext k, fun i u d a b => (h3 i u d a b).ext k⟩
theorem OwnDs.seg {w : World} {B B' : Nat} {v : Value} {vs : List Value} {D : List Ops} (h : OwnDs w B vs D) (ho : w.ownsRow B' 24 1 v vs.length vs) : SegDs w v D :=
  ⟨vs, h.len, own_seg ho, fun i u d a b => own_seg (h.own i u d a b)⟩
end Go.Proofs.YtnepdfpooobmcaaGreatDoor

/- Contracts and lemmas for the proofs of this seat; each theorem states its own conditions. -/
namespace Go.Proofs.YtnepdfpooobmcaaGreatDoor
open Go.RowKit
variable {eB : Nat}
/-! merge: Rounds, many, Waits -/
end Go.Proofs.YtnepdfpooobmcaaGreatDoor
