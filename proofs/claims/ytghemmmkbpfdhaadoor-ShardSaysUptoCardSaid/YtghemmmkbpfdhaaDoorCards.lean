/-
  DERIVED. GIVEN WITH THE SEED: THE CARDS: each row of YtghemmmkbpfdhaaDoorRows.lean that lists a variable, with what it lists TIED to the program's text (the seventh form; the later family's looks); each row that meets fmt, with fmt's text TOLD by the authors' own Lean function (tested against real Go, not proved from fmt's source: count such statements apart). THE CARD IS WHAT COUNTS. Prove the row's statement (the work); the ties are given (YtghemmmkbpfdhaaDoorTie.lean); close each card by the builder's one call (the guide's Derived/Test/ToyasCard.lean, 'card_holds'). Laid BY PROGRAM, IN A SANDBOX (cutbox-door.mjs). By AI agents, Wed Nov 11 2026. No macro, syntax, notation, axiom, sorry.
-/
import Derived.Test.YtghemmmkbpfdhaaDoorRows
import GoSem.ClaimSeven
namespace Go.Proofs.YtghemmmkbpfdhaaDoor
namespace Rows

/-- THE TIED CARD OF 'rokeep.ShardFind'. -/
def shardFindCard : Claim7 := { stood := { row := shardFindRow, standIns := [], harness := (true, "4121dbf37d81afe0d7c21361b4f5074e13afa10c472f6262704f9dc1d7d13538"), looks := false }, kinds := [], alts := [], laidByText := true, laidKinds := [.data, .pinned], laidTests := true, laidLooks := .later }
def ShardFindCardSaid : Prop := Claim7.holds Tryd.pinned (.plain (OpenSpec.ofChange shardFindSpec)) shardFindCard

/-- THE TIED CARD OF 'rolaw.MergePlays'. -/
def mergePlaysCard : Claim7 := { stood := { row := mergePlaysRow, standIns := [], harness := (true, "4121dbf37d81afe0d7c21361b4f5074e13afa10c472f6262704f9dc1d7d13538"), looks := false }, kinds := [], alts := [], laidByText := true, laidKinds := [.data, .pinned], laidTests := true, laidLooks := .later }
def MergePlaysCardSaid : Prop := Claim7.holds Tryd.pinned (.plain (OpenSpec.ofChange mergePlaysSpec)) mergePlaysCard

/-- THE TIED CARD OF 'rolaw.ShardSays'. -/
def shardSaysCard : Claim7 := { stood := { row := shardSaysRow, standIns := [], harness := (true, "4121dbf37d81afe0d7c21361b4f5074e13afa10c472f6262704f9dc1d7d13538"), looks := false }, kinds := [], alts := [], laidByText := true, laidKinds := [.data, .pinned], laidTests := true, laidLooks := .later }
def ShardSaysCardSaid : Prop := Claim7.holds Tryd.pinned (.plain (OpenSpec.ofChange shardSaysSpec)) shardSaysCard

/-- THE TIED CARD OF 'rolaw.ShardTells'. -/
def shardTellsCard : Claim7 := { stood := { row := shardTellsRow, standIns := [], harness := (true, "4121dbf37d81afe0d7c21361b4f5074e13afa10c472f6262704f9dc1d7d13538"), looks := false }, kinds := [], alts := [], laidByText := true, laidKinds := [.data, .pinned], laidTests := true, laidLooks := .later }
def ShardTellsCardSaid : Prop := Claim7.holds Tryd.pinned (.plain (OpenSpec.ofChange shardTellsSpec)) shardTellsCard

/-- THE SECOND FORM's CARD OF 'rokeep.ShardFind'. -/
def shardFindUptoCard : Claim7 := { stood := { row := shardFindUptoRow, standIns := [], harness := (true, "4121dbf37d81afe0d7c21361b4f5074e13afa10c472f6262704f9dc1d7d13538"), looks := false }, kinds := [], alts := [], laidByText := true, laidKinds := [.data, .pinned], laidTests := true, laidLooks := .later }
def ShardFindUptoCardSaid : Prop := Claim7.holds Tryd.pinned (.plain (OpenSpec.upto shardFindSpec)) shardFindUptoCard

/-- THE SECOND FORM's CARD OF 'rolaw.MergePlays'. -/
def mergePlaysUptoCard : Claim7 := { stood := { row := mergePlaysUptoRow, standIns := [], harness := (true, "4121dbf37d81afe0d7c21361b4f5074e13afa10c472f6262704f9dc1d7d13538"), looks := false }, kinds := [], alts := [], laidByText := true, laidKinds := [.data, .pinned], laidTests := true, laidLooks := .later }
def MergePlaysUptoCardSaid : Prop := Claim7.holds Tryd.pinned (.plain (OpenSpec.upto mergePlaysSpec)) mergePlaysUptoCard

/-- THE SECOND FORM's CARD OF 'rolaw.ShardSays'. -/
def shardSaysUptoCard : Claim7 := { stood := { row := shardSaysUptoRow, standIns := [], harness := (true, "4121dbf37d81afe0d7c21361b4f5074e13afa10c472f6262704f9dc1d7d13538"), looks := false }, kinds := [], alts := [], laidByText := true, laidKinds := [.data, .pinned], laidTests := true, laidLooks := .later }
def ShardSaysUptoCardSaid : Prop := Claim7.holds Tryd.pinned (.plain (OpenSpec.upto shardSaysSpec)) shardSaysUptoCard

/-- THE SECOND FORM's CARD OF 'rolaw.ShardTells'. -/
def shardTellsUptoCard : Claim7 := { stood := { row := shardTellsUptoRow, standIns := [], harness := (true, "4121dbf37d81afe0d7c21361b4f5074e13afa10c472f6262704f9dc1d7d13538"), looks := false }, kinds := [], alts := [], laidByText := true, laidKinds := [.data, .pinned], laidTests := true, laidLooks := .later }
def ShardTellsUptoCardSaid : Prop := Claim7.holds Tryd.pinned (.plain (OpenSpec.upto shardTellsSpec)) shardTellsUptoCard
end Rows
end Go.Proofs.YtghemmmkbpfdhaaDoor
