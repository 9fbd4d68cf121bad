/-
  DERIVED. GIVEN WITH THE SEED: THE CARDS: each row of YtomgeolmfpijoaaDoorRows.lean that lists a variable, with what it lists TIED to the program's text (the seventh form; the later family's looks); each row that meets fmt, with fmt's text TOLD by the authors' own Lean function (tested against real Go, not proved from fmt's source: count such statements apart). THE CARD IS WHAT COUNTS. Prove the row's statement (the work); the ties are given (YtomgeolmfpijoaaDoorTie.lean); close each card by the builder's one call (the guide's Derived/Test/ToyasCard.lean, 'card_holds'). Laid BY PROGRAM, IN A SANDBOX (cutbox-door.mjs). By AI agents, Wed Nov 11 2026. No macro, syntax, notation, axiom, sorry.
-/
import Derived.Test.YtomgeolmfpijoaaDoorRows
import GoSem.ClaimSeven
namespace Go.Proofs.YtomgeolmfpijoaaDoor
namespace Rows

/-- THE TIED CARD OF 'rokeep.ShardFind'. -/
def shardFindCard : Claim7 := { stood := { row := shardFindRow, standIns := [], harness := (true, "171c3aea3a12ac17e847820a825ed1f99a0ed1eba9686705c9e0b5a1fc338621"), looks := false }, kinds := [], alts := [], laidByText := true, laidKinds := [.data, .pinned], laidTests := true, laidLooks := .later }
def ShardFindCardSaid : Prop := Claim7.holds Tryd.pinned (.plain (OpenSpec.ofChange shardFindSpec)) shardFindCard

/-- THE TIED CARD OF 'rolaw.MergePlays'. -/
def mergePlaysCard : Claim7 := { stood := { row := mergePlaysRow, standIns := [], harness := (true, "171c3aea3a12ac17e847820a825ed1f99a0ed1eba9686705c9e0b5a1fc338621"), looks := false }, kinds := [], alts := [], laidByText := true, laidKinds := [.data, .pinned], laidTests := true, laidLooks := .later }
def MergePlaysCardSaid : Prop := Claim7.holds Tryd.pinned (.plain (OpenSpec.ofChange mergePlaysSpec)) mergePlaysCard

/-- THE TIED CARD OF 'rolaw.ShardSays'. -/
def shardSaysCard : Claim7 := { stood := { row := shardSaysRow, standIns := [], harness := (true, "171c3aea3a12ac17e847820a825ed1f99a0ed1eba9686705c9e0b5a1fc338621"), looks := false }, kinds := [], alts := [], laidByText := true, laidKinds := [.data, .pinned], laidTests := true, laidLooks := .later }
def ShardSaysCardSaid : Prop := Claim7.holds Tryd.pinned (.plain (OpenSpec.ofChange shardSaysSpec)) shardSaysCard

/-- THE TIED CARD OF 'rolaw.LockPlays'. -/
def lockPlaysCard : Claim7 := { stood := { row := lockPlaysRow, standIns := [], harness := (true, "171c3aea3a12ac17e847820a825ed1f99a0ed1eba9686705c9e0b5a1fc338621"), looks := false }, kinds := [], alts := [], laidByText := true, laidKinds := [.data, .pinned], laidTests := true, laidLooks := .later }
def LockPlaysCardSaid : Prop := Claim7.holds Tryd.pinned (.plain (OpenSpec.ofChange lockPlaysSpec)) lockPlaysCard

/-- THE TIED CARD OF 'rolaw.PlanSays'. -/
def planSaysCard : Claim7 := { stood := { row := planSaysRow, standIns := [], harness := (true, "171c3aea3a12ac17e847820a825ed1f99a0ed1eba9686705c9e0b5a1fc338621"), looks := false }, kinds := [], alts := [], laidByText := true, laidKinds := [.data, .pinned], laidTests := true, laidLooks := .later }
def PlanSaysCardSaid : Prop := Claim7.holds Tryd.pinned (.plain (OpenSpec.ofChange planSaysSpec)) planSaysCard

/-- THE TIED CARD OF 'rolaw.ShardTells'. -/
def shardTellsCard : Claim7 := { stood := { row := shardTellsRow, standIns := [], harness := (true, "171c3aea3a12ac17e847820a825ed1f99a0ed1eba9686705c9e0b5a1fc338621"), looks := false }, kinds := [], alts := [], laidByText := true, laidKinds := [.data, .pinned], laidTests := true, laidLooks := .later }
def ShardTellsCardSaid : Prop := Claim7.holds Tryd.pinned (.plain (OpenSpec.ofChange shardTellsSpec)) shardTellsCard

/-- THE TIED CARD OF 'rolaw.DeedRuns'. -/
def deedRunsCard : Claim7 := { stood := { row := deedRunsRow, standIns := [], harness := (true, "171c3aea3a12ac17e847820a825ed1f99a0ed1eba9686705c9e0b5a1fc338621"), looks := false }, kinds := [], alts := [], laidByText := true, laidKinds := [.data, .pinned], laidTests := true, laidLooks := .later }
def DeedRunsCardSaid : Prop := Claim7.holds Tryd.pinned (.plain (OpenSpec.ofChange deedRunsSpec)) deedRunsCard

/-- THE SECOND FORM's CARD OF 'rokeep.ShardFind'. -/
def shardFindUptoCard : Claim7 := { stood := { row := shardFindUptoRow, standIns := [], harness := (true, "171c3aea3a12ac17e847820a825ed1f99a0ed1eba9686705c9e0b5a1fc338621"), looks := false }, kinds := [], alts := [], laidByText := true, laidKinds := [.data, .pinned], laidTests := true, laidLooks := .later }
def ShardFindUptoCardSaid : Prop := Claim7.holds Tryd.pinned (.plain (OpenSpec.upto shardFindSpec)) shardFindUptoCard

/-- THE SECOND FORM's CARD OF 'rolaw.MergePlays'. -/
def mergePlaysUptoCard : Claim7 := { stood := { row := mergePlaysUptoRow, standIns := [], harness := (true, "171c3aea3a12ac17e847820a825ed1f99a0ed1eba9686705c9e0b5a1fc338621"), looks := false }, kinds := [], alts := [], laidByText := true, laidKinds := [.data, .pinned], laidTests := true, laidLooks := .later }
def MergePlaysUptoCardSaid : Prop := Claim7.holds Tryd.pinned (.plain (OpenSpec.upto mergePlaysSpec)) mergePlaysUptoCard

/-- THE SECOND FORM's CARD OF 'rolaw.ShardSays'. -/
def shardSaysUptoCard : Claim7 := { stood := { row := shardSaysUptoRow, standIns := [], harness := (true, "171c3aea3a12ac17e847820a825ed1f99a0ed1eba9686705c9e0b5a1fc338621"), looks := false }, kinds := [], alts := [], laidByText := true, laidKinds := [.data, .pinned], laidTests := true, laidLooks := .later }
def ShardSaysUptoCardSaid : Prop := Claim7.holds Tryd.pinned (.plain (OpenSpec.upto shardSaysSpec)) shardSaysUptoCard

/-- THE SECOND FORM's CARD OF 'rolaw.LockPlays'. -/
def lockPlaysUptoCard : Claim7 := { stood := { row := lockPlaysUptoRow, standIns := [], harness := (true, "171c3aea3a12ac17e847820a825ed1f99a0ed1eba9686705c9e0b5a1fc338621"), looks := false }, kinds := [], alts := [], laidByText := true, laidKinds := [.data, .pinned], laidTests := true, laidLooks := .later }
def LockPlaysUptoCardSaid : Prop := Claim7.holds Tryd.pinned (.plain (OpenSpec.upto lockPlaysSpec)) lockPlaysUptoCard

/-- THE SECOND FORM's CARD OF 'rolaw.PlanSays'. -/
def planSaysUptoCard : Claim7 := { stood := { row := planSaysUptoRow, standIns := [], harness := (true, "171c3aea3a12ac17e847820a825ed1f99a0ed1eba9686705c9e0b5a1fc338621"), looks := false }, kinds := [], alts := [], laidByText := true, laidKinds := [.data, .pinned], laidTests := true, laidLooks := .later }
def PlanSaysUptoCardSaid : Prop := Claim7.holds Tryd.pinned (.plain (OpenSpec.upto planSaysSpec)) planSaysUptoCard

/-- THE SECOND FORM's CARD OF 'rolaw.ShardTells'. -/
def shardTellsUptoCard : Claim7 := { stood := { row := shardTellsUptoRow, standIns := [], harness := (true, "171c3aea3a12ac17e847820a825ed1f99a0ed1eba9686705c9e0b5a1fc338621"), looks := false }, kinds := [], alts := [], laidByText := true, laidKinds := [.data, .pinned], laidTests := true, laidLooks := .later }
def ShardTellsUptoCardSaid : Prop := Claim7.holds Tryd.pinned (.plain (OpenSpec.upto shardTellsSpec)) shardTellsUptoCard

/-- THE SECOND FORM's CARD OF 'rolaw.DeedRuns'. -/
def deedRunsUptoCard : Claim7 := { stood := { row := deedRunsUptoRow, standIns := [], harness := (true, "171c3aea3a12ac17e847820a825ed1f99a0ed1eba9686705c9e0b5a1fc338621"), looks := false }, kinds := [], alts := [], laidByText := true, laidKinds := [.data, .pinned], laidTests := true, laidLooks := .later }
def DeedRunsUptoCardSaid : Prop := Claim7.holds Tryd.pinned (.plain (OpenSpec.upto deedRunsSpec)) deedRunsUptoCard
end Rows
end Go.Proofs.YtomgeolmfpijoaaDoor
