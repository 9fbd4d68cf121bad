/-
  DERIVED. GIVEN WITH THE SEED: THE CARDS: each row of YtghemmmkbpfdhaaGreatDoorRows.lean that lists a variable, with what it lists TIED to the program's text (the seventh form; the later family's looks); each row that meets fmt, with fmt's text TOLD by the authors' own Lean function (tested against real Go, not proved from fmt's source: count such statements apart). THE CARD IS WHAT COUNTS. Prove the row's statement (the work); the ties are given (YtghemmmkbpfdhaaGreatDoorTie.lean); close each card by the builder's one call (the guide's Derived/Test/ToyasCard.lean, 'card_holds'). Laid BY PROGRAM, IN A SANDBOX (cutbox-door.mjs). By AI agents, Wed Nov 11 2026. No macro, syntax, notation, axiom, sorry.
-/
import Derived.Test.YtghemmmkbpfdhaaGreatDoorRows
import GoSem.ClaimSeven
namespace Go.Proofs.YtghemmmkbpfdhaaGreatDoor
namespace Rows

/-- THE TIED CARD OF 'rolaw.PlanPlays'. -/
def planPlaysCard : Claim7 := { stood := { row := planPlaysRow, standIns := [], harness := (true, "f4bcfbbd6f5d5d81eb69ce77646465f4c6a0bc552589202d2695b7c3b8d4aaaf"), looks := false }, kinds := [], alts := [], laidByText := true, laidKinds := [.data, .pinned], laidTests := true, laidLooks := .later }
def PlanPlaysCardSaid : Prop := Claim7.holds Tryz.pinned (.plain (OpenSpec.ofChange planPlaysSpec)) planPlaysCard

/-- THE TIED CARD OF 'rolaw.PartsPlay'. -/
def partsPlayCard : Claim7 := { stood := { row := partsPlayRow, standIns := [], harness := (true, "f4bcfbbd6f5d5d81eb69ce77646465f4c6a0bc552589202d2695b7c3b8d4aaaf"), looks := false }, kinds := [], alts := [], laidByText := true, laidKinds := [.data, .pinned], laidTests := true, laidLooks := .later }
def PartsPlayCardSaid : Prop := Claim7.holds Tryz.pinned (.plain (OpenSpec.ofChange partsPlaySpec)) partsPlayCard

/-- THE SECOND FORM's CARD OF 'rolaw.PlanPlays'. -/
def planPlaysUptoCard : Claim7 := { stood := { row := planPlaysUptoRow, standIns := [], harness := (true, "f4bcfbbd6f5d5d81eb69ce77646465f4c6a0bc552589202d2695b7c3b8d4aaaf"), looks := false }, kinds := [], alts := [], laidByText := true, laidKinds := [.data, .pinned], laidTests := true, laidLooks := .later }
def PlanPlaysUptoCardSaid : Prop := Claim7.holds Tryz.pinned (.plain (OpenSpec.upto planPlaysSpec)) planPlaysUptoCard

/-- THE SECOND FORM's CARD OF 'rolaw.PartsPlay'. -/
def partsPlayUptoCard : Claim7 := { stood := { row := partsPlayUptoRow, standIns := [], harness := (true, "f4bcfbbd6f5d5d81eb69ce77646465f4c6a0bc552589202d2695b7c3b8d4aaaf"), looks := false }, kinds := [], alts := [], laidByText := true, laidKinds := [.data, .pinned], laidTests := true, laidLooks := .later }
def PartsPlayUptoCardSaid : Prop := Claim7.holds Tryz.pinned (.plain (OpenSpec.upto partsPlaySpec)) partsPlayUptoCard
end Rows
end Go.Proofs.YtghemmmkbpfdhaaGreatDoor
