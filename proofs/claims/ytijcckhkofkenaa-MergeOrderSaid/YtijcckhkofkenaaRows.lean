/-
  No cell of these rows narrows 'for every input' (looked for: loops, veiled, ifaces, maps, wideKeys, modest, calm, conditions, laid).
  DERIVED. THE GIVEN ROWS OF THIS SEAT. 18 by the template 'for every input the law returns true; each argument reads behind the call as it read before'; 0 by the template 'total and deterministic' (their statements: YtijcckhkofkenaaTotals.lean).
  GIVEN WITH THE SEED: the statements are not yours to turn. If you find one false, say at which input.
  Laid BY PROGRAM, IN A SANDBOX (cutbox-rows.mjs): the forced cells as the released guide's own fill.sh prints them over the translation 7143c030454f37b7… (all of the seat's roots in one cut). By AI agents, Wed Nov 11 2026. No macro, syntax, notation, axiom, sorry.
-/
import Derived.Test.YtijcckhkofkenaaChecked
import GoSem.Claim
import GoSem.ClaimJoined
import GoSem.ClaimMapViews
import Derived.JoinedTies
import Derived.KernelRfl
namespace Go.Proofs.Ytijcckhkofkenaa
/- THE CELL 'sum', in the pinned program and in every row, IS THE sha256 OF THE DUMP (.gsa) THAT YtijcckhkofkenaaProg.lean LOADS. Nothing in Lean hashes anything: it is a label: what it is worth is what the hold of that sum in a sandbox is worth. -/
noncomputable def Try.pinned : Pinned := { name := "ytijcckhkofkenaa", sum := "7143c030454f37b7c6969c0d724f5839253fc91dda8858e4cba558c4f1de0551", checked := Try.checked }
namespace Rows
def none {H : Type} : Left H := { results := [], args := [] }

/-- 'rokeep.ShardGives': WHATEVER THE INPUT: true; the input reads as it did. -/
def shardGivesSpec : ChangeSpec := { name := "shardGives", fn := fun _ => fun
  | [d1, d2, d3] => { results := [.lit (.bool true)], args := [d1, d2, d3] }
  | _ => none }
def shardGivesRow : OpenClaim := { program := "ytijcckhkofkenaa", sum := "7143c030454f37b7c6969c0d724f5839253fc91dda8858e4cba558c4f1de0551", func := "ropery/rokeep.ShardGives", spec := "shardGives", apart := false }
def ShardGivesSaid : Prop := shardGivesRow.holds Try.pinned (OpenSpec.ofChange shardGivesSpec)

/-- ITS FALSE NEIGHBOUR: 'it returns false'. Refute it at one input. -/
def shardGivesWrong : ChangeSpec := { name := "shardGives", fn := fun _ => fun
  | [d1, d2, d3] => { results := [.lit (.bool false)], args := [d1, d2, d3] }
  | _ => none }
def ShardGivesWrongFalsely : Prop := shardGivesRow.holds Try.pinned (OpenSpec.ofChange shardGivesWrong)

/-- 'rokeep.ShardPlain': WHATEVER THE INPUT: true; the input reads as it did. -/
def shardPlainSpec : ChangeSpec := { name := "shardPlain", fn := fun _ => fun
  | [d1, d2] => { results := [.lit (.bool true)], args := [d1, d2] }
  | _ => none }
def shardPlainRow : OpenClaim := { program := "ytijcckhkofkenaa", sum := "7143c030454f37b7c6969c0d724f5839253fc91dda8858e4cba558c4f1de0551", func := "ropery/rokeep.ShardPlain", spec := "shardPlain", apart := false }
def ShardPlainSaid : Prop := shardPlainRow.holds Try.pinned (OpenSpec.ofChange shardPlainSpec)

/-- ITS FALSE NEIGHBOUR: 'it returns false'. Refute it at one input. -/
def shardPlainWrong : ChangeSpec := { name := "shardPlain", fn := fun _ => fun
  | [d1, d2] => { results := [.lit (.bool false)], args := [d1, d2] }
  | _ => none }
def ShardPlainWrongFalsely : Prop := shardPlainRow.holds Try.pinned (OpenSpec.ofChange shardPlainWrong)

/-- 'rokeep.MergeGrows': WHATEVER THE INPUT: true; the input reads as it did. -/
def mergeGrowsSpec : ChangeSpec := { name := "mergeGrows", fn := fun _ => fun
  | [d1, d2, d3] => { results := [.lit (.bool true)], args := [d1, d2, d3] }
  | _ => none }
def mergeGrowsRow : OpenClaim := { program := "ytijcckhkofkenaa", sum := "7143c030454f37b7c6969c0d724f5839253fc91dda8858e4cba558c4f1de0551", func := "ropery/rokeep.MergeGrows", spec := "mergeGrows", unfollowed := true, recurses := true, apart := false }
def MergeGrowsSaid : Prop := mergeGrowsRow.holds Try.pinned (OpenSpec.ofChange mergeGrowsSpec)

/-- ITS FALSE NEIGHBOUR: 'it returns false'. Refute it at one input. -/
def mergeGrowsWrong : ChangeSpec := { name := "mergeGrows", fn := fun _ => fun
  | [d1, d2, d3] => { results := [.lit (.bool false)], args := [d1, d2, d3] }
  | _ => none }
def MergeGrowsWrongFalsely : Prop := mergeGrowsRow.holds Try.pinned (OpenSpec.ofChange mergeGrowsWrong)

/-- 'rokeep.MergeOrder': WHATEVER THE INPUT: true; the input reads as it did. -/
def mergeOrderSpec : ChangeSpec := { name := "mergeOrder", fn := fun _ => fun
  | [d1, d2, d3] => { results := [.lit (.bool true)], args := [d1, d2, d3] }
  | _ => none }
def mergeOrderRow : OpenClaim := { program := "ytijcckhkofkenaa", sum := "7143c030454f37b7c6969c0d724f5839253fc91dda8858e4cba558c4f1de0551", func := "ropery/rokeep.MergeOrder", spec := "mergeOrder", unfollowed := true, recurses := true, apart := false }
def MergeOrderSaid : Prop := mergeOrderRow.holds Try.pinned (OpenSpec.ofChange mergeOrderSpec)

/-- ITS FALSE NEIGHBOUR: 'it returns false'. Refute it at one input. -/
def mergeOrderWrong : ChangeSpec := { name := "mergeOrder", fn := fun _ => fun
  | [d1, d2, d3] => { results := [.lit (.bool false)], args := [d1, d2, d3] }
  | _ => none }
def MergeOrderWrongFalsely : Prop := mergeOrderRow.holds Try.pinned (OpenSpec.ofChange mergeOrderWrong)

/-- 'rokeep.ShardCuts': WHATEVER THE INPUT: true; the input reads as it did. -/
def shardCutsSpec : ChangeSpec := { name := "shardCuts", fn := fun _ => fun
  | [d1, d2, d3] => { results := [.lit (.bool true)], args := [d1, d2, d3] }
  | _ => none }
def shardCutsRow : OpenClaim := { program := "ytijcckhkofkenaa", sum := "7143c030454f37b7c6969c0d724f5839253fc91dda8858e4cba558c4f1de0551", func := "ropery/rokeep.ShardCuts", spec := "shardCuts", inPlace := ["slices.overlaps[string]", "slices.overlaps[int]"], apart := false }
def ShardCutsSaid : Prop := shardCutsRow.holds Try.pinned (OpenSpec.ofChange shardCutsSpec)

/-- ITS FALSE NEIGHBOUR: 'it returns false'. Refute it at one input. -/
def shardCutsWrong : ChangeSpec := { name := "shardCuts", fn := fun _ => fun
  | [d1, d2, d3] => { results := [.lit (.bool false)], args := [d1, d2, d3] }
  | _ => none }
def ShardCutsWrongFalsely : Prop := shardCutsRow.holds Try.pinned (OpenSpec.ofChange shardCutsWrong)

/-- 'rokeep.LockOrder': WHATEVER THE INPUT: true; the input reads as it did. -/
def lockOrderSpec : ChangeSpec := { name := "lockOrder", fn := fun _ => fun
  | [d1, d2] => { results := [.lit (.bool true)], args := [d1, d2] }
  | _ => none }
def lockOrderRow : OpenClaim := { program := "ytijcckhkofkenaa", sum := "7143c030454f37b7c6969c0d724f5839253fc91dda8858e4cba558c4f1de0551", func := "ropery/rokeep.LockOrder", spec := "lockOrder", unfollowed := true, recurses := true, apart := false }
def LockOrderSaid : Prop := lockOrderRow.holds Try.pinned (OpenSpec.ofChange lockOrderSpec)

/-- ITS FALSE NEIGHBOUR: 'it returns false'. Refute it at one input. -/
def lockOrderWrong : ChangeSpec := { name := "lockOrder", fn := fun _ => fun
  | [d1, d2] => { results := [.lit (.bool false)], args := [d1, d2] }
  | _ => none }
def LockOrderWrongFalsely : Prop := lockOrderRow.holds Try.pinned (OpenSpec.ofChange lockOrderWrong)

/-- 'rokeep.LockApart': WHATEVER THE INPUT: true; the input reads as it did. -/
def lockApartSpec : ChangeSpec := { name := "lockApart", fn := fun _ => fun
  | [d1, d2] => { results := [.lit (.bool true)], args := [d1, d2] }
  | _ => none }
def lockApartRow : OpenClaim := { program := "ytijcckhkofkenaa", sum := "7143c030454f37b7c6969c0d724f5839253fc91dda8858e4cba558c4f1de0551", func := "ropery/rokeep.LockApart", spec := "lockApart", unfollowed := true, recurses := true, apart := false }
def LockApartSaid : Prop := lockApartRow.holds Try.pinned (OpenSpec.ofChange lockApartSpec)

/-- ITS FALSE NEIGHBOUR: 'it returns false'. Refute it at one input. -/
def lockApartWrong : ChangeSpec := { name := "lockApart", fn := fun _ => fun
  | [d1, d2] => { results := [.lit (.bool false)], args := [d1, d2] }
  | _ => none }
def LockApartWrongFalsely : Prop := lockApartRow.holds Try.pinned (OpenSpec.ofChange lockApartWrong)

/-- 'rokeep.PlanRounds': WHATEVER THE INPUT: true; the input reads as it did. -/
def planRoundsSpec : ChangeSpec := { name := "planRounds", fn := fun _ => fun
  | [d] => { results := [.lit (.bool true)], args := [d] }
  | _ => none }
def planRoundsRow : OpenClaim := { program := "ytijcckhkofkenaa", sum := "7143c030454f37b7c6969c0d724f5839253fc91dda8858e4cba558c4f1de0551", func := "ropery/rokeep.PlanRounds", spec := "planRounds", unfollowed := true, recurses := true, apart := false }
def PlanRoundsSaid : Prop := planRoundsRow.holds Try.pinned (OpenSpec.ofChange planRoundsSpec)

/-- ITS FALSE NEIGHBOUR: 'it returns false'. Refute it at one input. -/
def planRoundsWrong : ChangeSpec := { name := "planRounds", fn := fun _ => fun
  | [d] => { results := [.lit (.bool false)], args := [d] }
  | _ => none }
def PlanRoundsWrongFalsely : Prop := planRoundsRow.holds Try.pinned (OpenSpec.ofChange planRoundsWrong)

/-- 'rokeep.StorePuts': WHATEVER THE INPUT: true; the input reads as it did. -/
def storePutsSpec : ChangeSpec := { name := "storePuts", fn := fun _ => fun
  | [d1, d2, d3, d4, d5] => { results := [.lit (.bool true)], args := [d1, d2, d3, d4, d5] }
  | _ => none }
def storePutsRow : OpenClaim := { program := "ytijcckhkofkenaa", sum := "7143c030454f37b7c6969c0d724f5839253fc91dda8858e4cba558c4f1de0551", func := "ropery/rokeep.StorePuts", spec := "storePuts", inPlace := ["internal/bytealg.abigen_runtime_cmpstring", "slices.overlaps[ropery/api.Pair]", "internal/reflectlite.ValueOf", "internal/reflectlite.Swapper", "(internal/reflectlite.Value).Len"], unfollowed := true, recurses := true, apart := false }
def StorePutsSaid : Prop := storePutsRow.holds Try.pinned (OpenSpec.ofChange storePutsSpec)

/-- ITS FALSE NEIGHBOUR: 'it returns false'. Refute it at one input. -/
def storePutsWrong : ChangeSpec := { name := "storePuts", fn := fun _ => fun
  | [d1, d2, d3, d4, d5] => { results := [.lit (.bool false)], args := [d1, d2, d3, d4, d5] }
  | _ => none }
def StorePutsWrongFalsely : Prop := storePutsRow.holds Try.pinned (OpenSpec.ofChange storePutsWrong)

/-- 'rokeep.StoreTotals': WHATEVER THE INPUT: true; the input reads as it did. -/
def storeTotalsSpec : ChangeSpec := { name := "storeTotals", fn := fun _ => fun
  | [d1, d2, d3] => { results := [.lit (.bool true)], args := [d1, d2, d3] }
  | _ => none }
def storeTotalsRow : OpenClaim := { program := "ytijcckhkofkenaa", sum := "7143c030454f37b7c6969c0d724f5839253fc91dda8858e4cba558c4f1de0551", func := "ropery/rokeep.StoreTotals", spec := "storeTotals", inPlace := ["internal/reflectlite.ValueOf", "internal/reflectlite.Swapper", "(internal/reflectlite.Value).Len", "internal/bytealg.abigen_runtime_cmpstring", "slices.overlaps[ropery/api.Pair]"], unfollowed := true, recurses := true, apart := false }
def StoreTotalsSaid : Prop := storeTotalsRow.holds Try.pinned (OpenSpec.ofChange storeTotalsSpec)

/-- ITS FALSE NEIGHBOUR: 'it returns false'. Refute it at one input. -/
def storeTotalsWrong : ChangeSpec := { name := "storeTotals", fn := fun _ => fun
  | [d1, d2, d3] => { results := [.lit (.bool false)], args := [d1, d2, d3] }
  | _ => none }
def StoreTotalsWrongFalsely : Prop := storeTotalsRow.holds Try.pinned (OpenSpec.ofChange storeTotalsWrong)

/-- 'rokeep.StoreScans': WHATEVER THE INPUT: true; the input reads as it did. -/
def storeScansSpec : ChangeSpec := { name := "storeScans", fn := fun _ => fun
  | [d1, d2, d3] => { results := [.lit (.bool true)], args := [d1, d2, d3] }
  | _ => none }
def storeScansRow : OpenClaim := { program := "ytijcckhkofkenaa", sum := "7143c030454f37b7c6969c0d724f5839253fc91dda8858e4cba558c4f1de0551", func := "ropery/rokeep.StoreScans", spec := "storeScans", inPlace := ["internal/reflectlite.ValueOf", "internal/reflectlite.Swapper", "(internal/reflectlite.Value).Len", "internal/bytealg.abigen_runtime_cmpstring", "slices.overlaps[ropery/api.Pair]"], unfollowed := true, recurses := true, apart := false }
def StoreScansSaid : Prop := storeScansRow.holds Try.pinned (OpenSpec.ofChange storeScansSpec)

/-- ITS FALSE NEIGHBOUR: 'it returns false'. Refute it at one input. -/
def storeScansWrong : ChangeSpec := { name := "storeScans", fn := fun _ => fun
  | [d1, d2, d3] => { results := [.lit (.bool false)], args := [d1, d2, d3] }
  | _ => none }
def StoreScansWrongFalsely : Prop := storeScansRow.holds Try.pinned (OpenSpec.ofChange storeScansWrong)

/-- 'rokeep.DeedMoves': WHATEVER THE INPUT: true; the input reads as it did. -/
def deedMovesSpec : ChangeSpec := { name := "deedMoves", fn := fun _ => fun
  | [d1, d2] => { results := [.lit (.bool true)], args := [d1, d2] }
  | _ => none }
def deedMovesRow : OpenClaim := { program := "ytijcckhkofkenaa", sum := "7143c030454f37b7c6969c0d724f5839253fc91dda8858e4cba558c4f1de0551", func := "ropery/rokeep.DeedMoves", spec := "deedMoves", inPlace := ["internal/bytealg.abigen_runtime_cmpstring", "slices.overlaps[ropery/api.Pair]", "internal/reflectlite.ValueOf", "internal/reflectlite.Swapper", "(internal/reflectlite.Value).Len"], unfollowed := true, recurses := true, apart := false }
def DeedMovesSaid : Prop := deedMovesRow.holds Try.pinned (OpenSpec.ofChange deedMovesSpec)

/-- ITS FALSE NEIGHBOUR: 'it returns false'. Refute it at one input. -/
def deedMovesWrong : ChangeSpec := { name := "deedMoves", fn := fun _ => fun
  | [d1, d2] => { results := [.lit (.bool false)], args := [d1, d2] }
  | _ => none }
def DeedMovesWrongFalsely : Prop := deedMovesRow.holds Try.pinned (OpenSpec.ofChange deedMovesWrong)

/-- 'rokeep.DeedSerial': WHATEVER THE INPUT: true; the input reads as it did. -/
def deedSerialSpec : ChangeSpec := { name := "deedSerial", fn := fun _ => fun
  | [d1, d2, d3] => { results := [.lit (.bool true)], args := [d1, d2, d3] }
  | _ => none }
def deedSerialRow : OpenClaim := { program := "ytijcckhkofkenaa", sum := "7143c030454f37b7c6969c0d724f5839253fc91dda8858e4cba558c4f1de0551", func := "ropery/rokeep.DeedSerial", spec := "deedSerial", inPlace := ["internal/bytealg.abigen_runtime_cmpstring", "slices.overlaps[ropery/api.Pair]", "internal/reflectlite.ValueOf", "internal/reflectlite.Swapper", "(internal/reflectlite.Value).Len"], unfollowed := true, recurses := true, apart := false }
def DeedSerialSaid : Prop := deedSerialRow.holds Try.pinned (OpenSpec.ofChange deedSerialSpec)

/-- ITS FALSE NEIGHBOUR: 'it returns false'. Refute it at one input. -/
def deedSerialWrong : ChangeSpec := { name := "deedSerial", fn := fun _ => fun
  | [d1, d2, d3] => { results := [.lit (.bool false)], args := [d1, d2, d3] }
  | _ => none }
def DeedSerialWrongFalsely : Prop := deedSerialRow.holds Try.pinned (OpenSpec.ofChange deedSerialWrong)

/-- 'rokeep.ShardParts': WHATEVER THE INPUT: true; the input reads as it did. -/
def shardPartsSpec : ChangeSpec := { name := "shardParts", fn := fun _ => fun
  | [d1, d2] => { results := [.lit (.bool true)], args := [d1, d2] }
  | _ => none }
def shardPartsRow : OpenClaim := { program := "ytijcckhkofkenaa", sum := "7143c030454f37b7c6969c0d724f5839253fc91dda8858e4cba558c4f1de0551", func := "ropery/rokeep.ShardParts", spec := "shardParts", inPlace := ["internal/reflectlite.ValueOf", "internal/reflectlite.Swapper", "(internal/reflectlite.Value).Len", "internal/bytealg.abigen_runtime_cmpstring", "slices.overlaps[ropery/api.Pair]"], unfollowed := true, recurses := true, apart := false }
def ShardPartsSaid : Prop := shardPartsRow.holds Try.pinned (OpenSpec.ofChange shardPartsSpec)

/-- ITS FALSE NEIGHBOUR: 'it returns false'. Refute it at one input. -/
def shardPartsWrong : ChangeSpec := { name := "shardParts", fn := fun _ => fun
  | [d1, d2] => { results := [.lit (.bool false)], args := [d1, d2] }
  | _ => none }
def ShardPartsWrongFalsely : Prop := shardPartsRow.holds Try.pinned (OpenSpec.ofChange shardPartsWrong)

/-- 'rokeep.StoreForms': WHATEVER THE INPUT: true; the input reads as it did. -/
def storeFormsSpec : ChangeSpec := { name := "storeForms", fn := fun _ => fun
  | [d1, d2, d3, d4, d5] => { results := [.lit (.bool true)], args := [d1, d2, d3, d4, d5] }
  | _ => none }
def storeFormsRow : OpenClaim := { program := "ytijcckhkofkenaa", sum := "7143c030454f37b7c6969c0d724f5839253fc91dda8858e4cba558c4f1de0551", func := "ropery/rokeep.StoreForms", spec := "storeForms", inPlace := ["internal/bytealg.abigen_runtime_cmpstring", "slices.overlaps[ropery/api.Pair]", "internal/reflectlite.ValueOf", "internal/reflectlite.Swapper", "(internal/reflectlite.Value).Len"], unfollowed := true, recurses := true, apart := false }
def StoreFormsSaid : Prop := storeFormsRow.holds Try.pinned (OpenSpec.ofChange storeFormsSpec)

/-- ITS FALSE NEIGHBOUR: 'it returns false'. Refute it at one input. -/
def storeFormsWrong : ChangeSpec := { name := "storeForms", fn := fun _ => fun
  | [d1, d2, d3, d4, d5] => { results := [.lit (.bool false)], args := [d1, d2, d3, d4, d5] }
  | _ => none }
def StoreFormsWrongFalsely : Prop := storeFormsRow.holds Try.pinned (OpenSpec.ofChange storeFormsWrong)

/-- 'rokeep.DeedWrites': WHATEVER THE INPUT: true; the input reads as it did. -/
def deedWritesSpec : ChangeSpec := { name := "deedWrites", fn := fun _ => fun
  | [d1, d2] => { results := [.lit (.bool true)], args := [d1, d2] }
  | _ => none }
def deedWritesRow : OpenClaim := { program := "ytijcckhkofkenaa", sum := "7143c030454f37b7c6969c0d724f5839253fc91dda8858e4cba558c4f1de0551", func := "ropery/rokeep.DeedWrites", spec := "deedWrites", inPlace := ["internal/bytealg.abigen_runtime_cmpstring", "slices.overlaps[ropery/api.Pair]", "internal/reflectlite.ValueOf", "internal/reflectlite.Swapper", "(internal/reflectlite.Value).Len"], unfollowed := true, recurses := true, apart := false }
def DeedWritesSaid : Prop := deedWritesRow.holds Try.pinned (OpenSpec.ofChange deedWritesSpec)

/-- ITS FALSE NEIGHBOUR: 'it returns false'. Refute it at one input. -/
def deedWritesWrong : ChangeSpec := { name := "deedWrites", fn := fun _ => fun
  | [d1, d2] => { results := [.lit (.bool false)], args := [d1, d2] }
  | _ => none }
def DeedWritesWrongFalsely : Prop := deedWritesRow.holds Try.pinned (OpenSpec.ofChange deedWritesWrong)

/-- 'rokeep.DeedReads': WHATEVER THE INPUT: true; the input reads as it did. -/
def deedReadsSpec : ChangeSpec := { name := "deedReads", fn := fun _ => fun
  | [d1, d2, d3] => { results := [.lit (.bool true)], args := [d1, d2, d3] }
  | _ => none }
def deedReadsRow : OpenClaim := { program := "ytijcckhkofkenaa", sum := "7143c030454f37b7c6969c0d724f5839253fc91dda8858e4cba558c4f1de0551", func := "ropery/rokeep.DeedReads", spec := "deedReads", inPlace := ["internal/bytealg.abigen_runtime_cmpstring", "slices.overlaps[ropery/api.Pair]", "internal/reflectlite.ValueOf", "internal/reflectlite.Swapper", "(internal/reflectlite.Value).Len"], unfollowed := true, recurses := true, apart := false }
def DeedReadsSaid : Prop := deedReadsRow.holds Try.pinned (OpenSpec.ofChange deedReadsSpec)

/-- ITS FALSE NEIGHBOUR: 'it returns false'. Refute it at one input. -/
def deedReadsWrong : ChangeSpec := { name := "deedReads", fn := fun _ => fun
  | [d1, d2, d3] => { results := [.lit (.bool false)], args := [d1, d2, d3] }
  | _ => none }
def DeedReadsWrongFalsely : Prop := deedReadsRow.holds Try.pinned (OpenSpec.ofChange deedReadsWrong)

/-- 'rokeep.DeedClash': WHATEVER THE INPUT: true; the input reads as it did. -/
def deedClashSpec : ChangeSpec := { name := "deedClash", fn := fun _ => fun
  | [d1, d2] => { results := [.lit (.bool true)], args := [d1, d2] }
  | _ => none }
def deedClashRow : OpenClaim := { program := "ytijcckhkofkenaa", sum := "7143c030454f37b7c6969c0d724f5839253fc91dda8858e4cba558c4f1de0551", func := "ropery/rokeep.DeedClash", spec := "deedClash", inPlace := ["internal/reflectlite.ValueOf", "internal/reflectlite.Swapper", "(internal/reflectlite.Value).Len", "internal/bytealg.abigen_runtime_cmpstring", "slices.overlaps[ropery/api.Pair]"], unfollowed := true, recurses := true, apart := false }
def DeedClashSaid : Prop := deedClashRow.holds Try.pinned (OpenSpec.ofChange deedClashSpec)

/-- ITS FALSE NEIGHBOUR: 'it returns false'. Refute it at one input. -/
def deedClashWrong : ChangeSpec := { name := "deedClash", fn := fun _ => fun
  | [d1, d2] => { results := [.lit (.bool false)], args := [d1, d2] }
  | _ => none }
def DeedClashWrongFalsely : Prop := deedClashRow.holds Try.pinned (OpenSpec.ofChange deedClashWrong)

/- THE SECOND FORM. 'bulk': how many values and letters a reading holds, each counted each time it is reached (what is shared counts as often as it is met; a slice's spare places count too). A statement '..UptoSaid' is the law's where the arguments, and the package variables that the reading takes, are together of bulk at most 1048576: NARROWER than '..Said'. Prove '..Said' where nothing that the law and all that it calls make is longer than what came in: it says more and counts as full. Else prove '..UptoSaid'. A law counts once. -/
mutual
def uptoBulk {H : Type} : DataW H → Nat
  | .lit (.string bytes) => bytes.length + 1
  | .lit _ => 1
  | .nil => 1
  | .ptr d => uptoBulk d + 1
  | .slice elems spare => uptoBulkAll elems + uptoBulkAll spare + 1
  | .agg parts => uptoBulkAll parts + 1
  | .iface _ d => uptoBulk d + 1
  | .map entries => uptoBulkEntries entries + 1
  | .held _ => 1
def uptoBulkAll {H : Type} : List (DataW H) → Nat
  | [] => 0
  | d :: r => uptoBulk d + uptoBulkAll r
def uptoBulkEntries {H : Type} : List (Lit × DataW H) → Nat
  | [] => 0
  | x :: r => uptoBulkEntry x + uptoBulkEntries r
def uptoBulkEntry {H : Type} : Lit × DataW H → Nat
  | (.string bytes, d) => bytes.length + uptoBulk d + 1
  | (_, d) => uptoBulk d + 1
 end
def uptoSmall : (H : Type) → List (DataW H) → Bool := fun _ ds => decide (uptoBulkAll ds ≤ 1048576)
def OpenSpec.upto (s : _root_.Go.ChangeSpec) : _root_.Go.OpenSpec := { _root_.Go.OpenSpec.ofChange s with cond := some uptoSmall }

/-- 'rokeep.ShardGives', WHERE WHAT IT READS IS OF BULK AT MOST 1048576: true; the input reads as it did. -/
def shardGivesUptoRow : OpenClaim := { program := "ytijcckhkofkenaa", sum := "7143c030454f37b7c6969c0d724f5839253fc91dda8858e4cba558c4f1de0551", func := "ropery/rokeep.ShardGives", spec := "shardGives", apart := false, narrowed := true }
def ShardGivesUptoSaid : Prop := shardGivesUptoRow.holds Try.pinned (OpenSpec.upto shardGivesSpec)

/-- 'rokeep.ShardPlain', WHERE WHAT IT READS IS OF BULK AT MOST 1048576: true; the input reads as it did. -/
def shardPlainUptoRow : OpenClaim := { program := "ytijcckhkofkenaa", sum := "7143c030454f37b7c6969c0d724f5839253fc91dda8858e4cba558c4f1de0551", func := "ropery/rokeep.ShardPlain", spec := "shardPlain", apart := false, narrowed := true }
def ShardPlainUptoSaid : Prop := shardPlainUptoRow.holds Try.pinned (OpenSpec.upto shardPlainSpec)

/-- 'rokeep.MergeGrows', WHERE WHAT IT READS IS OF BULK AT MOST 1048576: true; the input reads as it did. -/
def mergeGrowsUptoRow : OpenClaim := { program := "ytijcckhkofkenaa", sum := "7143c030454f37b7c6969c0d724f5839253fc91dda8858e4cba558c4f1de0551", func := "ropery/rokeep.MergeGrows", spec := "mergeGrows", unfollowed := true, recurses := true, apart := false, narrowed := true }
def MergeGrowsUptoSaid : Prop := mergeGrowsUptoRow.holds Try.pinned (OpenSpec.upto mergeGrowsSpec)

/-- 'rokeep.MergeOrder', WHERE WHAT IT READS IS OF BULK AT MOST 1048576: true; the input reads as it did. -/
def mergeOrderUptoRow : OpenClaim := { program := "ytijcckhkofkenaa", sum := "7143c030454f37b7c6969c0d724f5839253fc91dda8858e4cba558c4f1de0551", func := "ropery/rokeep.MergeOrder", spec := "mergeOrder", unfollowed := true, recurses := true, apart := false, narrowed := true }
def MergeOrderUptoSaid : Prop := mergeOrderUptoRow.holds Try.pinned (OpenSpec.upto mergeOrderSpec)

/-- 'rokeep.ShardCuts', WHERE WHAT IT READS IS OF BULK AT MOST 1048576: true; the input reads as it did. -/
def shardCutsUptoRow : OpenClaim := { program := "ytijcckhkofkenaa", sum := "7143c030454f37b7c6969c0d724f5839253fc91dda8858e4cba558c4f1de0551", func := "ropery/rokeep.ShardCuts", spec := "shardCuts", inPlace := ["slices.overlaps[string]", "slices.overlaps[int]"], apart := false, narrowed := true }
def ShardCutsUptoSaid : Prop := shardCutsUptoRow.holds Try.pinned (OpenSpec.upto shardCutsSpec)

/-- 'rokeep.LockOrder', WHERE WHAT IT READS IS OF BULK AT MOST 1048576: true; the input reads as it did. -/
def lockOrderUptoRow : OpenClaim := { program := "ytijcckhkofkenaa", sum := "7143c030454f37b7c6969c0d724f5839253fc91dda8858e4cba558c4f1de0551", func := "ropery/rokeep.LockOrder", spec := "lockOrder", unfollowed := true, recurses := true, apart := false, narrowed := true }
def LockOrderUptoSaid : Prop := lockOrderUptoRow.holds Try.pinned (OpenSpec.upto lockOrderSpec)

/-- 'rokeep.LockApart', WHERE WHAT IT READS IS OF BULK AT MOST 1048576: true; the input reads as it did. -/
def lockApartUptoRow : OpenClaim := { program := "ytijcckhkofkenaa", sum := "7143c030454f37b7c6969c0d724f5839253fc91dda8858e4cba558c4f1de0551", func := "ropery/rokeep.LockApart", spec := "lockApart", unfollowed := true, recurses := true, apart := false, narrowed := true }
def LockApartUptoSaid : Prop := lockApartUptoRow.holds Try.pinned (OpenSpec.upto lockApartSpec)

/-- 'rokeep.PlanRounds', WHERE WHAT IT READS IS OF BULK AT MOST 1048576: true; the input reads as it did. -/
def planRoundsUptoRow : OpenClaim := { program := "ytijcckhkofkenaa", sum := "7143c030454f37b7c6969c0d724f5839253fc91dda8858e4cba558c4f1de0551", func := "ropery/rokeep.PlanRounds", spec := "planRounds", unfollowed := true, recurses := true, apart := false, narrowed := true }
def PlanRoundsUptoSaid : Prop := planRoundsUptoRow.holds Try.pinned (OpenSpec.upto planRoundsSpec)

/-- 'rokeep.StorePuts', WHERE WHAT IT READS IS OF BULK AT MOST 1048576: true; the input reads as it did. -/
def storePutsUptoRow : OpenClaim := { program := "ytijcckhkofkenaa", sum := "7143c030454f37b7c6969c0d724f5839253fc91dda8858e4cba558c4f1de0551", func := "ropery/rokeep.StorePuts", spec := "storePuts", inPlace := ["internal/bytealg.abigen_runtime_cmpstring", "slices.overlaps[ropery/api.Pair]", "internal/reflectlite.ValueOf", "internal/reflectlite.Swapper", "(internal/reflectlite.Value).Len"], unfollowed := true, recurses := true, apart := false, narrowed := true }
def StorePutsUptoSaid : Prop := storePutsUptoRow.holds Try.pinned (OpenSpec.upto storePutsSpec)

/-- 'rokeep.StoreTotals', WHERE WHAT IT READS IS OF BULK AT MOST 1048576: true; the input reads as it did. -/
def storeTotalsUptoRow : OpenClaim := { program := "ytijcckhkofkenaa", sum := "7143c030454f37b7c6969c0d724f5839253fc91dda8858e4cba558c4f1de0551", func := "ropery/rokeep.StoreTotals", spec := "storeTotals", inPlace := ["internal/reflectlite.ValueOf", "internal/reflectlite.Swapper", "(internal/reflectlite.Value).Len", "internal/bytealg.abigen_runtime_cmpstring", "slices.overlaps[ropery/api.Pair]"], unfollowed := true, recurses := true, apart := false, narrowed := true }
def StoreTotalsUptoSaid : Prop := storeTotalsUptoRow.holds Try.pinned (OpenSpec.upto storeTotalsSpec)

/-- 'rokeep.StoreScans', WHERE WHAT IT READS IS OF BULK AT MOST 1048576: true; the input reads as it did. -/
def storeScansUptoRow : OpenClaim := { program := "ytijcckhkofkenaa", sum := "7143c030454f37b7c6969c0d724f5839253fc91dda8858e4cba558c4f1de0551", func := "ropery/rokeep.StoreScans", spec := "storeScans", inPlace := ["internal/reflectlite.ValueOf", "internal/reflectlite.Swapper", "(internal/reflectlite.Value).Len", "internal/bytealg.abigen_runtime_cmpstring", "slices.overlaps[ropery/api.Pair]"], unfollowed := true, recurses := true, apart := false, narrowed := true }
def StoreScansUptoSaid : Prop := storeScansUptoRow.holds Try.pinned (OpenSpec.upto storeScansSpec)

/-- 'rokeep.DeedMoves', WHERE WHAT IT READS IS OF BULK AT MOST 1048576: true; the input reads as it did. -/
def deedMovesUptoRow : OpenClaim := { program := "ytijcckhkofkenaa", sum := "7143c030454f37b7c6969c0d724f5839253fc91dda8858e4cba558c4f1de0551", func := "ropery/rokeep.DeedMoves", spec := "deedMoves", inPlace := ["internal/bytealg.abigen_runtime_cmpstring", "slices.overlaps[ropery/api.Pair]", "internal/reflectlite.ValueOf", "internal/reflectlite.Swapper", "(internal/reflectlite.Value).Len"], unfollowed := true, recurses := true, apart := false, narrowed := true }
def DeedMovesUptoSaid : Prop := deedMovesUptoRow.holds Try.pinned (OpenSpec.upto deedMovesSpec)

/-- 'rokeep.DeedSerial', WHERE WHAT IT READS IS OF BULK AT MOST 1048576: true; the input reads as it did. -/
def deedSerialUptoRow : OpenClaim := { program := "ytijcckhkofkenaa", sum := "7143c030454f37b7c6969c0d724f5839253fc91dda8858e4cba558c4f1de0551", func := "ropery/rokeep.DeedSerial", spec := "deedSerial", inPlace := ["internal/bytealg.abigen_runtime_cmpstring", "slices.overlaps[ropery/api.Pair]", "internal/reflectlite.ValueOf", "internal/reflectlite.Swapper", "(internal/reflectlite.Value).Len"], unfollowed := true, recurses := true, apart := false, narrowed := true }
def DeedSerialUptoSaid : Prop := deedSerialUptoRow.holds Try.pinned (OpenSpec.upto deedSerialSpec)

/-- 'rokeep.ShardParts', WHERE WHAT IT READS IS OF BULK AT MOST 1048576: true; the input reads as it did. -/
def shardPartsUptoRow : OpenClaim := { program := "ytijcckhkofkenaa", sum := "7143c030454f37b7c6969c0d724f5839253fc91dda8858e4cba558c4f1de0551", func := "ropery/rokeep.ShardParts", spec := "shardParts", inPlace := ["internal/reflectlite.ValueOf", "internal/reflectlite.Swapper", "(internal/reflectlite.Value).Len", "internal/bytealg.abigen_runtime_cmpstring", "slices.overlaps[ropery/api.Pair]"], unfollowed := true, recurses := true, apart := false, narrowed := true }
def ShardPartsUptoSaid : Prop := shardPartsUptoRow.holds Try.pinned (OpenSpec.upto shardPartsSpec)

/-- 'rokeep.StoreForms', WHERE WHAT IT READS IS OF BULK AT MOST 1048576: true; the input reads as it did. -/
def storeFormsUptoRow : OpenClaim := { program := "ytijcckhkofkenaa", sum := "7143c030454f37b7c6969c0d724f5839253fc91dda8858e4cba558c4f1de0551", func := "ropery/rokeep.StoreForms", spec := "storeForms", inPlace := ["internal/bytealg.abigen_runtime_cmpstring", "slices.overlaps[ropery/api.Pair]", "internal/reflectlite.ValueOf", "internal/reflectlite.Swapper", "(internal/reflectlite.Value).Len"], unfollowed := true, recurses := true, apart := false, narrowed := true }
def StoreFormsUptoSaid : Prop := storeFormsUptoRow.holds Try.pinned (OpenSpec.upto storeFormsSpec)

/-- 'rokeep.DeedWrites', WHERE WHAT IT READS IS OF BULK AT MOST 1048576: true; the input reads as it did. -/
def deedWritesUptoRow : OpenClaim := { program := "ytijcckhkofkenaa", sum := "7143c030454f37b7c6969c0d724f5839253fc91dda8858e4cba558c4f1de0551", func := "ropery/rokeep.DeedWrites", spec := "deedWrites", inPlace := ["internal/bytealg.abigen_runtime_cmpstring", "slices.overlaps[ropery/api.Pair]", "internal/reflectlite.ValueOf", "internal/reflectlite.Swapper", "(internal/reflectlite.Value).Len"], unfollowed := true, recurses := true, apart := false, narrowed := true }
def DeedWritesUptoSaid : Prop := deedWritesUptoRow.holds Try.pinned (OpenSpec.upto deedWritesSpec)

/-- 'rokeep.DeedReads', WHERE WHAT IT READS IS OF BULK AT MOST 1048576: true; the input reads as it did. -/
def deedReadsUptoRow : OpenClaim := { program := "ytijcckhkofkenaa", sum := "7143c030454f37b7c6969c0d724f5839253fc91dda8858e4cba558c4f1de0551", func := "ropery/rokeep.DeedReads", spec := "deedReads", inPlace := ["internal/bytealg.abigen_runtime_cmpstring", "slices.overlaps[ropery/api.Pair]", "internal/reflectlite.ValueOf", "internal/reflectlite.Swapper", "(internal/reflectlite.Value).Len"], unfollowed := true, recurses := true, apart := false, narrowed := true }
def DeedReadsUptoSaid : Prop := deedReadsUptoRow.holds Try.pinned (OpenSpec.upto deedReadsSpec)

/-- 'rokeep.DeedClash', WHERE WHAT IT READS IS OF BULK AT MOST 1048576: true; the input reads as it did. -/
def deedClashUptoRow : OpenClaim := { program := "ytijcckhkofkenaa", sum := "7143c030454f37b7c6969c0d724f5839253fc91dda8858e4cba558c4f1de0551", func := "ropery/rokeep.DeedClash", spec := "deedClash", inPlace := ["internal/reflectlite.ValueOf", "internal/reflectlite.Swapper", "(internal/reflectlite.Value).Len", "internal/bytealg.abigen_runtime_cmpstring", "slices.overlaps[ropery/api.Pair]"], unfollowed := true, recurses := true, apart := false, narrowed := true }
def DeedClashUptoSaid : Prop := deedClashUptoRow.holds Try.pinned (OpenSpec.upto deedClashSpec)

end Rows
end Go.Proofs.Ytijcckhkofkenaa
