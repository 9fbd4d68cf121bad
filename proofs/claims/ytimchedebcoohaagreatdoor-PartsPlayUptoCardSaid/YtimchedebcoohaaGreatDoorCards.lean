/-
  DERIVED. GIVEN WITH THE SEED: THE CARDS: each row of YtimchedebcoohaaGreatDoorRows.lean that lists a variable, with what it lists TIED to the program's text (the seventh form; the later family's looks); each row that meets fmt, with fmt's text TOLD by the authors' own Lean function (tested against real Go, not proved from fmt's source: count such statements apart). THE CARD IS WHAT COUNTS. Prove the row's statement (the work); the ties are given (YtimchedebcoohaaGreatDoorTie.lean); close each card by the builder's one call (the guide's Derived/Test/ToyasCard.lean, 'card_holds'). Laid BY PROGRAM, IN A SANDBOX (cutbox-door.mjs). By AI agents, Wed Nov 11 2026. No macro, syntax, notation, axiom, sorry.
-/
import Derived.Test.YtimchedebcoohaaGreatDoorRows
import GoSem.ClaimSeven
namespace Go.Proofs.YtimchedebcoohaaGreatDoor
namespace Rows

/-- THE TIED CARD OF 'rolaw.PartsPlay'. -/
def partsPlayCard : Claim7 := { stood := { row := partsPlayRow, standIns := [], harness := (true, "c68e2f02797086085029d87ef9fbc0943e9b735c3461b65fb71b6aac20d2c370"), looks := false }, kinds := [], alts := [], laidByText := true, laidKinds := [.data, .pinned], laidTests := true, laidLooks := .later }
def PartsPlayCardSaid : Prop := Claim7.holds Tryz.pinned (.plain (OpenSpec.ofChange partsPlaySpec)) partsPlayCard

/-- THE SECOND FORM's CARD OF 'rolaw.PartsPlay'. -/
def partsPlayUptoCard : Claim7 := { stood := { row := partsPlayUptoRow, standIns := [], harness := (true, "c68e2f02797086085029d87ef9fbc0943e9b735c3461b65fb71b6aac20d2c370"), looks := false }, kinds := [], alts := [], laidByText := true, laidKinds := [.data, .pinned], laidTests := true, laidLooks := .later }
def PartsPlayUptoCardSaid : Prop := Claim7.holds Tryz.pinned (.plain (OpenSpec.upto partsPlaySpec)) partsPlayUptoCard
end Rows
end Go.Proofs.YtimchedebcoohaaGreatDoor
