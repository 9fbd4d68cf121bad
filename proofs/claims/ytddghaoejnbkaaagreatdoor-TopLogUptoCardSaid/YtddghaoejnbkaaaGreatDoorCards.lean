/-
  DERIVED. GIVEN WITH THE SEED: THE CARDS: each row of YtddghaoejnbkaaaGreatDoorRows.lean that lists a variable, with what it lists TIED to the program's text (the seventh form; the later family's looks); each row that meets fmt, with fmt's text TOLD by the authors' own Lean function (tested against real Go, not proved from fmt's source: count such statements apart). THE CARD IS WHAT COUNTS. Prove the row's statement (the work); the ties are given (YtddghaoejnbkaaaGreatDoorTie.lean); close each card by the builder's one call (the guide's Derived/Test/ToyasCard.lean, 'card_holds'). Laid BY PROGRAM, IN A SANDBOX (cutbox-door.mjs). By AI agents, Wed Nov 11 2026. No macro, syntax, notation, axiom, sorry.
-/
import Derived.Test.YtddghaoejnbkaaaGreatDoorRows
import GoSem.ClaimSeven
namespace Go.Proofs.YtddghaoejnbkaaaGreatDoor
namespace Rows

/-- THE TIED CARD OF 'rotop.TopLog'. -/
def topLogCard : Claim7 := { stood := { row := topLogRow, standIns := [], harness := (true, "4884db2237e7df32b1e81a5995431151f8789ef2653d2187328d13cf047b66b6"), looks := true }, kinds := [], alts := [], laidByText := true, laidKinds := [.data, .data, .data, .data, .sentinel, .sentinel, .pinned], laidTests := true, laidLooks := .later }
def TopLogCardSaid : Prop := Claim7.holds Tryz.pinned (.plain (OpenSpec.ofChange topLogSpec)) topLogCard

/-- THE TIED CARD OF 'rolaw.CopiesPlay'. -/
def copiesPlayCard : Claim7 := { stood := { row := copiesPlayRow, standIns := [], harness := (true, "4884db2237e7df32b1e81a5995431151f8789ef2653d2187328d13cf047b66b6"), looks := true }, kinds := [], alts := [], laidByText := true, laidKinds := [.data, .pinned], laidTests := true, laidLooks := .later }
def CopiesPlayCardSaid : Prop := Claim7.holds Tryz.pinned (.plain (OpenSpec.ofChange copiesPlaySpec)) copiesPlayCard

/-- THE TIED CARD OF 'rokeep.MapOwn'. -/
def mapOwnCard : Claim7 := { stood := { row := mapOwnRow, standIns := [], harness := (true, "4884db2237e7df32b1e81a5995431151f8789ef2653d2187328d13cf047b66b6"), looks := true }, kinds := [], alts := [], laidByText := true, laidKinds := [.data, .data, .data, .data, .sentinel, .sentinel, .pinned], laidTests := true, laidLooks := .later }
def MapOwnCardSaid : Prop := Claim7.holds Tryz.pinned (.plain (OpenSpec.ofChange mapOwnSpec)) mapOwnCard

/-- THE TIED CARD OF 'rokeep.LogOwn'. -/
def logOwnCard : Claim7 := { stood := { row := logOwnRow, standIns := [], harness := (true, "4884db2237e7df32b1e81a5995431151f8789ef2653d2187328d13cf047b66b6"), looks := true }, kinds := [], alts := [], laidByText := true, laidKinds := [.data, .data, .data, .data, .sentinel, .sentinel, .pinned], laidTests := true, laidLooks := .later }
def LogOwnCardSaid : Prop := Claim7.holds Tryz.pinned (.plain (OpenSpec.ofChange logOwnSpec)) logOwnCard

/-- THE SECOND FORM's CARD OF 'rotop.TopLog'. -/
def topLogUptoCard : Claim7 := { stood := { row := topLogUptoRow, standIns := [], harness := (true, "4884db2237e7df32b1e81a5995431151f8789ef2653d2187328d13cf047b66b6"), looks := true }, kinds := [], alts := [], laidByText := true, laidKinds := [.data, .data, .data, .data, .sentinel, .sentinel, .pinned], laidTests := true, laidLooks := .later }
def TopLogUptoCardSaid : Prop := Claim7.holds Tryz.pinned (.plain (OpenSpec.upto topLogSpec)) topLogUptoCard

/-- THE SECOND FORM's CARD OF 'rolaw.CopiesPlay'. -/
def copiesPlayUptoCard : Claim7 := { stood := { row := copiesPlayUptoRow, standIns := [], harness := (true, "4884db2237e7df32b1e81a5995431151f8789ef2653d2187328d13cf047b66b6"), looks := true }, kinds := [], alts := [], laidByText := true, laidKinds := [.data, .pinned], laidTests := true, laidLooks := .later }
def CopiesPlayUptoCardSaid : Prop := Claim7.holds Tryz.pinned (.plain (OpenSpec.upto copiesPlaySpec)) copiesPlayUptoCard

/-- THE SECOND FORM's CARD OF 'rokeep.MapOwn'. -/
def mapOwnUptoCard : Claim7 := { stood := { row := mapOwnUptoRow, standIns := [], harness := (true, "4884db2237e7df32b1e81a5995431151f8789ef2653d2187328d13cf047b66b6"), looks := true }, kinds := [], alts := [], laidByText := true, laidKinds := [.data, .data, .data, .data, .sentinel, .sentinel, .pinned], laidTests := true, laidLooks := .later }
def MapOwnUptoCardSaid : Prop := Claim7.holds Tryz.pinned (.plain (OpenSpec.upto mapOwnSpec)) mapOwnUptoCard

/-- THE SECOND FORM's CARD OF 'rokeep.LogOwn'. -/
def logOwnUptoCard : Claim7 := { stood := { row := logOwnUptoRow, standIns := [], harness := (true, "4884db2237e7df32b1e81a5995431151f8789ef2653d2187328d13cf047b66b6"), looks := true }, kinds := [], alts := [], laidByText := true, laidKinds := [.data, .data, .data, .data, .sentinel, .sentinel, .pinned], laidTests := true, laidLooks := .later }
def LogOwnUptoCardSaid : Prop := Claim7.holds Tryz.pinned (.plain (OpenSpec.upto logOwnSpec)) logOwnUptoCard
end Rows
end Go.Proofs.YtddghaoejnbkaaaGreatDoor
