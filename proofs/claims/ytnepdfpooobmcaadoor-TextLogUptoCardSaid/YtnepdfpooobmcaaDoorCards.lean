/-
  DERIVED. GIVEN WITH THE SEED: THE CARDS: each row of YtnepdfpooobmcaaDoorRows.lean that lists a variable, with what it lists TIED to the program's text (the seventh form; the later family's looks); each row that meets fmt, with fmt's text TOLD by the authors' own Lean function (tested against real Go, not proved from fmt's source: count such statements apart). THE CARD IS WHAT COUNTS. Prove the row's statement (the work); the ties are given (YtnepdfpooobmcaaDoorTie.lean); close each card by the builder's one call (the guide's Derived/Test/ToyasCard.lean, 'card_holds'). Laid BY PROGRAM, IN A SANDBOX (cutbox-door.mjs). By AI agents, Wed Nov 11 2026. No macro, syntax, notation, axiom, sorry.
-/
import Derived.Test.YtnepdfpooobmcaaDoorRows
import GoSem.ClaimSeven
namespace Go.Proofs.YtnepdfpooobmcaaDoor
namespace Rows

/-- THE TIED CARD OF 'rokeep.TextMap'. -/
def textMapCard : Claim7 := { stood := { row := textMapRow, standIns := [], harness := (true, "8b45b577ea99123af4a00cbc8163d865034cdcb9b47b6f3c3b963415cc7d535f"), looks := true }, kinds := [], alts := [], laidByText := true, laidKinds := [.data, .data, .data, .data, .sentinel, .sentinel, .pinned], laidTests := true, laidLooks := .later }
def TextMapCardSaid : Prop := Claim7.holds Tryd.pinned (.plain (OpenSpec.ofChange textMapSpec)) textMapCard

/-- THE TIED CARD OF 'rokeep.TextDeed'. -/
def textDeedCard : Claim7 := { stood := { row := textDeedRow, standIns := [], harness := (true, "8b45b577ea99123af4a00cbc8163d865034cdcb9b47b6f3c3b963415cc7d535f"), looks := true }, kinds := [], alts := [], laidByText := true, laidKinds := [.data, .data, .data, .data, .sentinel, .sentinel, .pinned], laidTests := true, laidLooks := .later }
def TextDeedCardSaid : Prop := Claim7.holds Tryd.pinned (.plain (OpenSpec.ofChange textDeedSpec)) textDeedCard

/-- THE TIED CARD OF 'rokeep.TextEntry'. -/
def textEntryCard : Claim7 := { stood := { row := textEntryRow, standIns := [], harness := (true, "8b45b577ea99123af4a00cbc8163d865034cdcb9b47b6f3c3b963415cc7d535f"), looks := true }, kinds := [], alts := [], laidByText := true, laidKinds := [.data, .data, .data, .data, .sentinel, .sentinel, .pinned], laidTests := true, laidLooks := .later }
def TextEntryCardSaid : Prop := Claim7.holds Tryd.pinned (.plain (OpenSpec.ofChange textEntrySpec)) textEntryCard

/-- THE TIED CARD OF 'rokeep.TextLog'. -/
def textLogCard : Claim7 := { stood := { row := textLogRow, standIns := [], harness := (true, "8b45b577ea99123af4a00cbc8163d865034cdcb9b47b6f3c3b963415cc7d535f"), looks := true }, kinds := [], alts := [], laidByText := true, laidKinds := [.data, .data, .data, .data, .sentinel, .sentinel, .pinned], laidTests := true, laidLooks := .later }
def TextLogCardSaid : Prop := Claim7.holds Tryd.pinned (.plain (OpenSpec.ofChange textLogSpec)) textLogCard

/-- THE TIED CARD OF 'rokeep.ShardFind'. -/
def shardFindCard : Claim7 := { stood := { row := shardFindRow, standIns := [], harness := (true, "8b45b577ea99123af4a00cbc8163d865034cdcb9b47b6f3c3b963415cc7d535f"), looks := true }, kinds := [], alts := [], laidByText := true, laidKinds := [.data, .pinned], laidTests := true, laidLooks := .later }
def ShardFindCardSaid : Prop := Claim7.holds Tryd.pinned (.plain (OpenSpec.ofChange shardFindSpec)) shardFindCard

/-- THE TIED CARD OF 'rolaw.MergePlays'. -/
def mergePlaysCard : Claim7 := { stood := { row := mergePlaysRow, standIns := [], harness := (true, "8b45b577ea99123af4a00cbc8163d865034cdcb9b47b6f3c3b963415cc7d535f"), looks := true }, kinds := [], alts := [], laidByText := true, laidKinds := [.data, .pinned], laidTests := true, laidLooks := .later }
def MergePlaysCardSaid : Prop := Claim7.holds Tryd.pinned (.plain (OpenSpec.ofChange mergePlaysSpec)) mergePlaysCard

/-- THE SECOND FORM's CARD OF 'rokeep.TextMap'. -/
def textMapUptoCard : Claim7 := { stood := { row := textMapUptoRow, standIns := [], harness := (true, "8b45b577ea99123af4a00cbc8163d865034cdcb9b47b6f3c3b963415cc7d535f"), looks := true }, kinds := [], alts := [], laidByText := true, laidKinds := [.data, .data, .data, .data, .sentinel, .sentinel, .pinned], laidTests := true, laidLooks := .later }
def TextMapUptoCardSaid : Prop := Claim7.holds Tryd.pinned (.plain (OpenSpec.upto textMapSpec)) textMapUptoCard

/-- THE SECOND FORM's CARD OF 'rokeep.TextDeed'. -/
def textDeedUptoCard : Claim7 := { stood := { row := textDeedUptoRow, standIns := [], harness := (true, "8b45b577ea99123af4a00cbc8163d865034cdcb9b47b6f3c3b963415cc7d535f"), looks := true }, kinds := [], alts := [], laidByText := true, laidKinds := [.data, .data, .data, .data, .sentinel, .sentinel, .pinned], laidTests := true, laidLooks := .later }
def TextDeedUptoCardSaid : Prop := Claim7.holds Tryd.pinned (.plain (OpenSpec.upto textDeedSpec)) textDeedUptoCard

/-- THE SECOND FORM's CARD OF 'rokeep.TextEntry'. -/
def textEntryUptoCard : Claim7 := { stood := { row := textEntryUptoRow, standIns := [], harness := (true, "8b45b577ea99123af4a00cbc8163d865034cdcb9b47b6f3c3b963415cc7d535f"), looks := true }, kinds := [], alts := [], laidByText := true, laidKinds := [.data, .data, .data, .data, .sentinel, .sentinel, .pinned], laidTests := true, laidLooks := .later }
def TextEntryUptoCardSaid : Prop := Claim7.holds Tryd.pinned (.plain (OpenSpec.upto textEntrySpec)) textEntryUptoCard

/-- THE SECOND FORM's CARD OF 'rokeep.TextLog'. -/
def textLogUptoCard : Claim7 := { stood := { row := textLogUptoRow, standIns := [], harness := (true, "8b45b577ea99123af4a00cbc8163d865034cdcb9b47b6f3c3b963415cc7d535f"), looks := true }, kinds := [], alts := [], laidByText := true, laidKinds := [.data, .data, .data, .data, .sentinel, .sentinel, .pinned], laidTests := true, laidLooks := .later }
def TextLogUptoCardSaid : Prop := Claim7.holds Tryd.pinned (.plain (OpenSpec.upto textLogSpec)) textLogUptoCard

/-- THE SECOND FORM's CARD OF 'rokeep.ShardFind'. -/
def shardFindUptoCard : Claim7 := { stood := { row := shardFindUptoRow, standIns := [], harness := (true, "8b45b577ea99123af4a00cbc8163d865034cdcb9b47b6f3c3b963415cc7d535f"), looks := true }, kinds := [], alts := [], laidByText := true, laidKinds := [.data, .pinned], laidTests := true, laidLooks := .later }
def ShardFindUptoCardSaid : Prop := Claim7.holds Tryd.pinned (.plain (OpenSpec.upto shardFindSpec)) shardFindUptoCard

/-- THE SECOND FORM's CARD OF 'rolaw.MergePlays'. -/
def mergePlaysUptoCard : Claim7 := { stood := { row := mergePlaysUptoRow, standIns := [], harness := (true, "8b45b577ea99123af4a00cbc8163d865034cdcb9b47b6f3c3b963415cc7d535f"), looks := true }, kinds := [], alts := [], laidByText := true, laidKinds := [.data, .pinned], laidTests := true, laidLooks := .later }
def MergePlaysUptoCardSaid : Prop := Claim7.holds Tryd.pinned (.plain (OpenSpec.upto mergePlaysSpec)) mergePlaysUptoCard
end Rows
end Go.Proofs.YtnepdfpooobmcaaDoor
