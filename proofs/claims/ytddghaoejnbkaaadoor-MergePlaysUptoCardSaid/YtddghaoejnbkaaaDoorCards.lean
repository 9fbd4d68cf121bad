/-
  DERIVED. GIVEN WITH THE SEED: THE CARDS: each row of YtddghaoejnbkaaaDoorRows.lean that lists a variable, with what it lists TIED to the program's text (the seventh form; the later family's looks); each row that meets fmt, with fmt's text TOLD by the authors' own Lean function (tested against real Go, not proved from fmt's source: count such statements apart). THE CARD IS WHAT COUNTS. Prove the row's statement (the work); the ties are given (YtddghaoejnbkaaaDoorTie.lean); close each card by the builder's one call (the guide's Derived/Test/ToyasCard.lean, 'card_holds'). Laid BY PROGRAM, IN A SANDBOX (cutbox-door.mjs). By AI agents, Wed Nov 11 2026. No macro, syntax, notation, axiom, sorry.
-/
import Derived.Test.YtddghaoejnbkaaaDoorRows
import GoSem.ClaimSeven
namespace Go.Proofs.YtddghaoejnbkaaaDoor
namespace Rows

/-- THE TIED CARD OF 'rolaw.MergePlays'. -/
def mergePlaysCard : Claim7 := { stood := { row := mergePlaysRow, standIns := [], harness := (true, "57bf75d547b10385f650450ca134b48c1a7443f86ffea27b1c9f7d3009eafba4"), looks := false }, kinds := [], alts := [], laidByText := true, laidKinds := [.data, .pinned], laidTests := true, laidLooks := .later }
def MergePlaysCardSaid : Prop := Claim7.holds Tryd.pinned (.plain (OpenSpec.ofChange mergePlaysSpec)) mergePlaysCard

/-- THE SECOND FORM's CARD OF 'rolaw.MergePlays'. -/
def mergePlaysUptoCard : Claim7 := { stood := { row := mergePlaysUptoRow, standIns := [], harness := (true, "57bf75d547b10385f650450ca134b48c1a7443f86ffea27b1c9f7d3009eafba4"), looks := false }, kinds := [], alts := [], laidByText := true, laidKinds := [.data, .pinned], laidTests := true, laidLooks := .later }
def MergePlaysUptoCardSaid : Prop := Claim7.holds Tryd.pinned (.plain (OpenSpec.upto mergePlaysSpec)) mergePlaysUptoCard
end Rows
end Go.Proofs.YtddghaoejnbkaaaDoor
