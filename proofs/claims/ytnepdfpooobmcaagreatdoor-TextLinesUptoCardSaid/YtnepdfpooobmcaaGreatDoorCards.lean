/-
  DERIVED. GIVEN WITH THE SEED: THE CARDS: each row of YtnepdfpooobmcaaGreatDoorRows.lean that lists a variable, with what it lists TIED to the program's text (the seventh form; the later family's looks); each row that meets fmt, with fmt's text TOLD by the authors' own Lean function (tested against real Go, not proved from fmt's source: count such statements apart). THE CARD IS WHAT COUNTS. Prove the row's statement (the work); the ties are given (YtnepdfpooobmcaaGreatDoorTie.lean); close each card by the builder's one call (the guide's Derived/Test/ToyasCard.lean, 'card_holds'). Laid BY PROGRAM, IN A SANDBOX (cutbox-door.mjs). By AI agents, Wed Nov 11 2026. No macro, syntax, notation, axiom, sorry.
-/
import Derived.Test.YtnepdfpooobmcaaGreatDoorRows
import GoSem.ClaimSeven
namespace Go.Proofs.YtnepdfpooobmcaaGreatDoor
namespace Rows

/-- THE TIED CARD OF 'rolaw.TextSays'. -/
def textSaysCard : Claim7 := { stood := { row := textSaysRow, standIns := [], harness := (true, "153047a389f89eea4d6329a12dfa14fdeb1bbc948f5c80038ed1af588f65a541"), looks := true }, kinds := [], alts := [], laidByText := true, laidKinds := [.data, .data, .data, .data, .sentinel, .sentinel, .pinned], laidTests := true, laidLooks := .later }
def TextSaysCardSaid : Prop := Claim7.holds Tryz.pinned (.plain (OpenSpec.ofChange textSaysSpec)) textSaysCard

/-- THE TIED CARD OF 'rolaw.TextLines'. -/
def textLinesCard : Claim7 := { stood := { row := textLinesRow, standIns := [], harness := (true, "153047a389f89eea4d6329a12dfa14fdeb1bbc948f5c80038ed1af588f65a541"), looks := true }, kinds := [], alts := [], laidByText := true, laidKinds := [.data, .data, .data, .data, .sentinel, .sentinel, .pinned], laidTests := true, laidLooks := .later }
def TextLinesCardSaid : Prop := Claim7.holds Tryz.pinned (.plain (OpenSpec.ofChange textLinesSpec)) textLinesCard

/-- THE TIED CARD OF 'rokeep.MapOwn'. -/
def mapOwnCard : Claim7 := { stood := { row := mapOwnRow, standIns := [], harness := (true, "153047a389f89eea4d6329a12dfa14fdeb1bbc948f5c80038ed1af588f65a541"), looks := true }, kinds := [], alts := [], laidByText := true, laidKinds := [.data, .data, .data, .data, .sentinel, .sentinel, .pinned], laidTests := true, laidLooks := .later }
def MapOwnCardSaid : Prop := Claim7.holds Tryz.pinned (.plain (OpenSpec.ofChange mapOwnSpec)) mapOwnCard

/-- THE TIED CARD OF 'rolaw.CopiesPlay'. -/
def copiesPlayCard : Claim7 := { stood := { row := copiesPlayRow, standIns := [], harness := (true, "153047a389f89eea4d6329a12dfa14fdeb1bbc948f5c80038ed1af588f65a541"), looks := true }, kinds := [], alts := [], laidByText := true, laidKinds := [.data, .pinned], laidTests := true, laidLooks := .later }
def CopiesPlayCardSaid : Prop := Claim7.holds Tryz.pinned (.plain (OpenSpec.ofChange copiesPlaySpec)) copiesPlayCard

/-- THE SECOND FORM's CARD OF 'rolaw.TextSays'. -/
def textSaysUptoCard : Claim7 := { stood := { row := textSaysUptoRow, standIns := [], harness := (true, "153047a389f89eea4d6329a12dfa14fdeb1bbc948f5c80038ed1af588f65a541"), looks := true }, kinds := [], alts := [], laidByText := true, laidKinds := [.data, .data, .data, .data, .sentinel, .sentinel, .pinned], laidTests := true, laidLooks := .later }
def TextSaysUptoCardSaid : Prop := Claim7.holds Tryz.pinned (.plain (OpenSpec.upto textSaysSpec)) textSaysUptoCard

/-- THE SECOND FORM's CARD OF 'rolaw.TextLines'. -/
def textLinesUptoCard : Claim7 := { stood := { row := textLinesUptoRow, standIns := [], harness := (true, "153047a389f89eea4d6329a12dfa14fdeb1bbc948f5c80038ed1af588f65a541"), looks := true }, kinds := [], alts := [], laidByText := true, laidKinds := [.data, .data, .data, .data, .sentinel, .sentinel, .pinned], laidTests := true, laidLooks := .later }
def TextLinesUptoCardSaid : Prop := Claim7.holds Tryz.pinned (.plain (OpenSpec.upto textLinesSpec)) textLinesUptoCard

/-- THE SECOND FORM's CARD OF 'rokeep.MapOwn'. -/
def mapOwnUptoCard : Claim7 := { stood := { row := mapOwnUptoRow, standIns := [], harness := (true, "153047a389f89eea4d6329a12dfa14fdeb1bbc948f5c80038ed1af588f65a541"), looks := true }, kinds := [], alts := [], laidByText := true, laidKinds := [.data, .data, .data, .data, .sentinel, .sentinel, .pinned], laidTests := true, laidLooks := .later }
def MapOwnUptoCardSaid : Prop := Claim7.holds Tryz.pinned (.plain (OpenSpec.upto mapOwnSpec)) mapOwnUptoCard

/-- THE SECOND FORM's CARD OF 'rolaw.CopiesPlay'. -/
def copiesPlayUptoCard : Claim7 := { stood := { row := copiesPlayUptoRow, standIns := [], harness := (true, "153047a389f89eea4d6329a12dfa14fdeb1bbc948f5c80038ed1af588f65a541"), looks := true }, kinds := [], alts := [], laidByText := true, laidKinds := [.data, .pinned], laidTests := true, laidLooks := .later }
def CopiesPlayUptoCardSaid : Prop := Claim7.holds Tryz.pinned (.plain (OpenSpec.upto copiesPlaySpec)) copiesPlayUptoCard
end Rows
end Go.Proofs.YtnepdfpooobmcaaGreatDoor
