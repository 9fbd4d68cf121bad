/-
  No cell of these rows narrows 'for every input' (looked for: loops, veiled, ifaces, maps, wideKeys, modest, calm, conditions, laid).
  DERIVED. THE GIVEN ROWS OF THIS SEAT. 7 by the template 'for every input the law returns true; each argument reads behind the call as it read before'; 0 by the template 'total and deterministic' (their statements: YtijcckhkofkenaaGreatTotals.lean).
  GIVEN WITH THE SEED: the statements are not yours to turn. If you find one false, say at which input.
  Laid BY PROGRAM, IN A SANDBOX (cutbox-rows.mjs): the forced cells as the released guide's own fill.sh prints them over the translation dc6a858e0523fe9f… (all of the seat's roots in one cut). By AI agents, Wed Nov 11 2026. No macro, syntax, notation, axiom, sorry.
-/
import Derived.Test.YtijcckhkofkenaaGreatChecked
import GoSem.Claim
import GoSem.ClaimJoined
import GoSem.ClaimMapViews
import Derived.JoinedTies
import Derived.KernelRfl
namespace Go.Proofs.YtijcckhkofkenaaGreat
/- THE CELL 'sum', in the pinned program and in every row, IS THE sha256 OF THE DUMP (.gsa) THAT YtijcckhkofkenaaGreatProg.lean LOADS. Nothing in Lean hashes anything: it is a label: what it is worth is what the hold of that sum in a sandbox is worth. -/
noncomputable def Tryz.pinned : Pinned := { name := "ytijcckhkofkenaagreat", sum := "dc6a858e0523fe9f5bed93dedc1c8cb7155f75c56cb34d539cbd4ed1dbcad938", checked := Tryz.checked }
namespace Rows
def none {H : Type} : Left H := { results := [], args := [] }

/-- 'rokeep.StoreOwn': WHATEVER THE INPUT: true; the input reads as it did. -/
def storeOwnSpec : ChangeSpec := { name := "storeOwn", fn := fun _ => fun
  | [d1, d2, d3, d4, d5] => { results := [.lit (.bool true)], args := [d1, d2, d3, d4, d5] }
  | _ => none }
def storeOwnRow : OpenClaim := { program := "ytijcckhkofkenaagreat", sum := "dc6a858e0523fe9f5bed93dedc1c8cb7155f75c56cb34d539cbd4ed1dbcad938", func := "ropery/rokeep.StoreOwn", spec := "storeOwn", inPlace := ["internal/bytealg.abigen_runtime_cmpstring", "slices.overlaps[ropery/api.Pair]"], unfollowed := true, recurses := true, apart := false }
def StoreOwnSaid : Prop := storeOwnRow.holds Tryz.pinned (OpenSpec.ofChange storeOwnSpec)

/-- ITS FALSE NEIGHBOUR: 'it returns false'. Refute it at one input. -/
def storeOwnWrong : ChangeSpec := { name := "storeOwn", fn := fun _ => fun
  | [d1, d2, d3, d4, d5] => { results := [.lit (.bool false)], args := [d1, d2, d3, d4, d5] }
  | _ => none }
def StoreOwnWrongFalsely : Prop := storeOwnRow.holds Tryz.pinned (OpenSpec.ofChange storeOwnWrong)

/-- 'rokeep.PartsRun': WHATEVER THE INPUT: true; the input reads as it did. -/
def partsRunSpec : ChangeSpec := { name := "partsRun", fn := fun _ => fun
  | [d1, d2, d3] => { results := [.lit (.bool true)], args := [d1, d2, d3] }
  | _ => none }
def partsRunRow : OpenClaim := { program := "ytijcckhkofkenaagreat", sum := "dc6a858e0523fe9f5bed93dedc1c8cb7155f75c56cb34d539cbd4ed1dbcad938", func := "ropery/rokeep.PartsRun", spec := "partsRun", inPlace := ["internal/reflectlite.ValueOf", "internal/reflectlite.Swapper", "(internal/reflectlite.Value).Len", "internal/bytealg.abigen_runtime_cmpstring", "slices.overlaps[ropery/api.Pair]"], unfollowed := true, recurses := true, apart := false }
def PartsRunSaid : Prop := partsRunRow.holds Tryz.pinned (OpenSpec.ofChange partsRunSpec)

/-- ITS FALSE NEIGHBOUR: 'it returns false'. Refute it at one input. -/
def partsRunWrong : ChangeSpec := { name := "partsRun", fn := fun _ => fun
  | [d1, d2, d3] => { results := [.lit (.bool false)], args := [d1, d2, d3] }
  | _ => none }
def PartsRunWrongFalsely : Prop := partsRunRow.holds Tryz.pinned (OpenSpec.ofChange partsRunWrong)

/-- 'rokeep.PartsTurn': WHATEVER THE INPUT: true; the input reads as it did. -/
def partsTurnSpec : ChangeSpec := { name := "partsTurn", fn := fun _ => fun
  | [d1, d2, d3, d4] => { results := [.lit (.bool true)], args := [d1, d2, d3, d4] }
  | _ => none }
def partsTurnRow : OpenClaim := { program := "ytijcckhkofkenaagreat", sum := "dc6a858e0523fe9f5bed93dedc1c8cb7155f75c56cb34d539cbd4ed1dbcad938", func := "ropery/rokeep.PartsTurn", spec := "partsTurn", inPlace := ["internal/reflectlite.ValueOf", "internal/reflectlite.Swapper", "(internal/reflectlite.Value).Len", "internal/bytealg.abigen_runtime_cmpstring", "slices.overlaps[ropery/api.Pair]"], unfollowed := true, recurses := true, apart := false }
def PartsTurnSaid : Prop := partsTurnRow.holds Tryz.pinned (OpenSpec.ofChange partsTurnSpec)

/-- ITS FALSE NEIGHBOUR: 'it returns false'. Refute it at one input. -/
def partsTurnWrong : ChangeSpec := { name := "partsTurn", fn := fun _ => fun
  | [d1, d2, d3, d4] => { results := [.lit (.bool false)], args := [d1, d2, d3, d4] }
  | _ => none }
def PartsTurnWrongFalsely : Prop := partsTurnRow.holds Tryz.pinned (OpenSpec.ofChange partsTurnWrong)

/-- 'rokeep.PartsMid': WHATEVER THE INPUT: true; the input reads as it did. -/
def partsMidSpec : ChangeSpec := { name := "partsMid", fn := fun _ => fun
  | [d1, d2, d3, d4, d5] => { results := [.lit (.bool true)], args := [d1, d2, d3, d4, d5] }
  | _ => none }
def partsMidRow : OpenClaim := { program := "ytijcckhkofkenaagreat", sum := "dc6a858e0523fe9f5bed93dedc1c8cb7155f75c56cb34d539cbd4ed1dbcad938", func := "ropery/rokeep.PartsMid", spec := "partsMid", inPlace := ["internal/reflectlite.ValueOf", "internal/reflectlite.Swapper", "(internal/reflectlite.Value).Len", "internal/bytealg.abigen_runtime_cmpstring", "slices.overlaps[ropery/api.Pair]"], unfollowed := true, recurses := true, apart := false }
def PartsMidSaid : Prop := partsMidRow.holds Tryz.pinned (OpenSpec.ofChange partsMidSpec)

/-- ITS FALSE NEIGHBOUR: 'it returns false'. Refute it at one input. -/
def partsMidWrong : ChangeSpec := { name := "partsMid", fn := fun _ => fun
  | [d1, d2, d3, d4, d5] => { results := [.lit (.bool false)], args := [d1, d2, d3, d4, d5] }
  | _ => none }
def PartsMidWrongFalsely : Prop := partsMidRow.holds Tryz.pinned (OpenSpec.ofChange partsMidWrong)

/-- 'rokeep.PartsWho': WHATEVER THE INPUT: true; the input reads as it did. -/
def partsWhoSpec : ChangeSpec := { name := "partsWho", fn := fun _ => fun
  | [d1, d2, d3] => { results := [.lit (.bool true)], args := [d1, d2, d3] }
  | _ => none }
def partsWhoRow : OpenClaim := { program := "ytijcckhkofkenaagreat", sum := "dc6a858e0523fe9f5bed93dedc1c8cb7155f75c56cb34d539cbd4ed1dbcad938", func := "ropery/rokeep.PartsWho", spec := "partsWho", inPlace := ["internal/reflectlite.ValueOf", "internal/reflectlite.Swapper", "(internal/reflectlite.Value).Len", "internal/bytealg.abigen_runtime_cmpstring", "slices.overlaps[ropery/api.Pair]"], unfollowed := true, recurses := true, apart := false }
def PartsWhoSaid : Prop := partsWhoRow.holds Tryz.pinned (OpenSpec.ofChange partsWhoSpec)

/-- ITS FALSE NEIGHBOUR: 'it returns false'. Refute it at one input. -/
def partsWhoWrong : ChangeSpec := { name := "partsWho", fn := fun _ => fun
  | [d1, d2, d3] => { results := [.lit (.bool false)], args := [d1, d2, d3] }
  | _ => none }
def PartsWhoWrongFalsely : Prop := partsWhoRow.holds Tryz.pinned (OpenSpec.ofChange partsWhoWrong)

/-- 'rokeep.PlanSerial': WHATEVER THE INPUT: true; the input reads as it did. -/
def planSerialSpec : ChangeSpec := { name := "planSerial", fn := fun _ => fun
  | [d1, d2, d3] => { results := [.lit (.bool true)], args := [d1, d2, d3] }
  | _ => none }
def planSerialRow : OpenClaim := { program := "ytijcckhkofkenaagreat", sum := "dc6a858e0523fe9f5bed93dedc1c8cb7155f75c56cb34d539cbd4ed1dbcad938", func := "ropery/rokeep.PlanSerial", spec := "planSerial", inPlace := ["internal/bytealg.abigen_runtime_cmpstring", "slices.overlaps[ropery/api.Pair]", "internal/reflectlite.ValueOf", "internal/reflectlite.Swapper", "(internal/reflectlite.Value).Len"], unfollowed := true, recurses := true, apart := false }
def PlanSerialSaid : Prop := planSerialRow.holds Tryz.pinned (OpenSpec.ofChange planSerialSpec)

/-- ITS FALSE NEIGHBOUR: 'it returns false'. Refute it at one input. -/
def planSerialWrong : ChangeSpec := { name := "planSerial", fn := fun _ => fun
  | [d1, d2, d3] => { results := [.lit (.bool false)], args := [d1, d2, d3] }
  | _ => none }
def PlanSerialWrongFalsely : Prop := planSerialRow.holds Tryz.pinned (OpenSpec.ofChange planSerialWrong)

/-- 'rokeep.PlanOrders': WHATEVER THE INPUT: true; the input reads as it did. -/
def planOrdersSpec : ChangeSpec := { name := "planOrders", fn := fun _ => fun
  | [d1, d2, d3] => { results := [.lit (.bool true)], args := [d1, d2, d3] }
  | _ => none }
def planOrdersRow : OpenClaim := { program := "ytijcckhkofkenaagreat", sum := "dc6a858e0523fe9f5bed93dedc1c8cb7155f75c56cb34d539cbd4ed1dbcad938", func := "ropery/rokeep.PlanOrders", spec := "planOrders", inPlace := ["internal/bytealg.abigen_runtime_cmpstring", "slices.overlaps[ropery/api.Pair]", "internal/reflectlite.ValueOf", "internal/reflectlite.Swapper", "(internal/reflectlite.Value).Len"], unfollowed := true, recurses := true, apart := false }
def PlanOrdersSaid : Prop := planOrdersRow.holds Tryz.pinned (OpenSpec.ofChange planOrdersSpec)

/-- ITS FALSE NEIGHBOUR: 'it returns false'. Refute it at one input. -/
def planOrdersWrong : ChangeSpec := { name := "planOrders", fn := fun _ => fun
  | [d1, d2, d3] => { results := [.lit (.bool false)], args := [d1, d2, d3] }
  | _ => none }
def PlanOrdersWrongFalsely : Prop := planOrdersRow.holds Tryz.pinned (OpenSpec.ofChange planOrdersWrong)

/- THE SECOND FORM. 'bulk': how many values and letters a reading holds, each counted each time it is reached (what is shared counts as often as it is met; a slice's spare places count too). A statement '..UptoSaid' is the law's where the arguments, and the package variables that the reading takes, are together of bulk at most 1048576: NARROWER than '..Said'. Prove '..Said' where nothing that the law and all that it calls make is longer than what came in: it says more and counts as full. Else prove '..UptoSaid'. A law counts once. -/
mutual
def uptoBulk {H : Type} : DataW H → Nat
  | .lit (.string bytes) => bytes.length + 1
  | .lit _ => 1
  | .nil => 1
  | .ptr d => uptoBulk d + 1
  | .slice elems spare => uptoBulkAll elems + uptoBulkAll spare + 1
  | .agg parts => uptoBulkAll parts + 1
  | .iface _ d => uptoBulk d + 1
  | .map entries => uptoBulkEntries entries + 1
  | .held _ => 1
def uptoBulkAll {H : Type} : List (DataW H) → Nat
  | [] => 0
  | d :: r => uptoBulk d + uptoBulkAll r
def uptoBulkEntries {H : Type} : List (Lit × DataW H) → Nat
  | [] => 0
  | x :: r => uptoBulkEntry x + uptoBulkEntries r
def uptoBulkEntry {H : Type} : Lit × DataW H → Nat
  | (.string bytes, d) => bytes.length + uptoBulk d + 1
  | (_, d) => uptoBulk d + 1
 end
def uptoSmall : (H : Type) → List (DataW H) → Bool := fun _ ds => decide (uptoBulkAll ds ≤ 1048576)
def OpenSpec.upto (s : _root_.Go.ChangeSpec) : _root_.Go.OpenSpec := { _root_.Go.OpenSpec.ofChange s with cond := some uptoSmall }

/-- 'rokeep.StoreOwn', WHERE WHAT IT READS IS OF BULK AT MOST 1048576: true; the input reads as it did. -/
def storeOwnUptoRow : OpenClaim := { program := "ytijcckhkofkenaagreat", sum := "dc6a858e0523fe9f5bed93dedc1c8cb7155f75c56cb34d539cbd4ed1dbcad938", func := "ropery/rokeep.StoreOwn", spec := "storeOwn", inPlace := ["internal/bytealg.abigen_runtime_cmpstring", "slices.overlaps[ropery/api.Pair]"], unfollowed := true, recurses := true, apart := false, narrowed := true }
def StoreOwnUptoSaid : Prop := storeOwnUptoRow.holds Tryz.pinned (OpenSpec.upto storeOwnSpec)

/-- 'rokeep.PartsRun', WHERE WHAT IT READS IS OF BULK AT MOST 1048576: true; the input reads as it did. -/
def partsRunUptoRow : OpenClaim := { program := "ytijcckhkofkenaagreat", sum := "dc6a858e0523fe9f5bed93dedc1c8cb7155f75c56cb34d539cbd4ed1dbcad938", func := "ropery/rokeep.PartsRun", spec := "partsRun", inPlace := ["internal/reflectlite.ValueOf", "internal/reflectlite.Swapper", "(internal/reflectlite.Value).Len", "internal/bytealg.abigen_runtime_cmpstring", "slices.overlaps[ropery/api.Pair]"], unfollowed := true, recurses := true, apart := false, narrowed := true }
def PartsRunUptoSaid : Prop := partsRunUptoRow.holds Tryz.pinned (OpenSpec.upto partsRunSpec)

/-- 'rokeep.PartsTurn', WHERE WHAT IT READS IS OF BULK AT MOST 1048576: true; the input reads as it did. -/
def partsTurnUptoRow : OpenClaim := { program := "ytijcckhkofkenaagreat", sum := "dc6a858e0523fe9f5bed93dedc1c8cb7155f75c56cb34d539cbd4ed1dbcad938", func := "ropery/rokeep.PartsTurn", spec := "partsTurn", inPlace := ["internal/reflectlite.ValueOf", "internal/reflectlite.Swapper", "(internal/reflectlite.Value).Len", "internal/bytealg.abigen_runtime_cmpstring", "slices.overlaps[ropery/api.Pair]"], unfollowed := true, recurses := true, apart := false, narrowed := true }
def PartsTurnUptoSaid : Prop := partsTurnUptoRow.holds Tryz.pinned (OpenSpec.upto partsTurnSpec)

/-- 'rokeep.PartsMid', WHERE WHAT IT READS IS OF BULK AT MOST 1048576: true; the input reads as it did. -/
def partsMidUptoRow : OpenClaim := { program := "ytijcckhkofkenaagreat", sum := "dc6a858e0523fe9f5bed93dedc1c8cb7155f75c56cb34d539cbd4ed1dbcad938", func := "ropery/rokeep.PartsMid", spec := "partsMid", inPlace := ["internal/reflectlite.ValueOf", "internal/reflectlite.Swapper", "(internal/reflectlite.Value).Len", "internal/bytealg.abigen_runtime_cmpstring", "slices.overlaps[ropery/api.Pair]"], unfollowed := true, recurses := true, apart := false, narrowed := true }
def PartsMidUptoSaid : Prop := partsMidUptoRow.holds Tryz.pinned (OpenSpec.upto partsMidSpec)

/-- 'rokeep.PartsWho', WHERE WHAT IT READS IS OF BULK AT MOST 1048576: true; the input reads as it did. -/
def partsWhoUptoRow : OpenClaim := { program := "ytijcckhkofkenaagreat", sum := "dc6a858e0523fe9f5bed93dedc1c8cb7155f75c56cb34d539cbd4ed1dbcad938", func := "ropery/rokeep.PartsWho", spec := "partsWho", inPlace := ["internal/reflectlite.ValueOf", "internal/reflectlite.Swapper", "(internal/reflectlite.Value).Len", "internal/bytealg.abigen_runtime_cmpstring", "slices.overlaps[ropery/api.Pair]"], unfollowed := true, recurses := true, apart := false, narrowed := true }
def PartsWhoUptoSaid : Prop := partsWhoUptoRow.holds Tryz.pinned (OpenSpec.upto partsWhoSpec)

/-- 'rokeep.PlanSerial', WHERE WHAT IT READS IS OF BULK AT MOST 1048576: true; the input reads as it did. -/
def planSerialUptoRow : OpenClaim := { program := "ytijcckhkofkenaagreat", sum := "dc6a858e0523fe9f5bed93dedc1c8cb7155f75c56cb34d539cbd4ed1dbcad938", func := "ropery/rokeep.PlanSerial", spec := "planSerial", inPlace := ["internal/bytealg.abigen_runtime_cmpstring", "slices.overlaps[ropery/api.Pair]", "internal/reflectlite.ValueOf", "internal/reflectlite.Swapper", "(internal/reflectlite.Value).Len"], unfollowed := true, recurses := true, apart := false, narrowed := true }
def PlanSerialUptoSaid : Prop := planSerialUptoRow.holds Tryz.pinned (OpenSpec.upto planSerialSpec)

/-- 'rokeep.PlanOrders', WHERE WHAT IT READS IS OF BULK AT MOST 1048576: true; the input reads as it did. -/
def planOrdersUptoRow : OpenClaim := { program := "ytijcckhkofkenaagreat", sum := "dc6a858e0523fe9f5bed93dedc1c8cb7155f75c56cb34d539cbd4ed1dbcad938", func := "ropery/rokeep.PlanOrders", spec := "planOrders", inPlace := ["internal/bytealg.abigen_runtime_cmpstring", "slices.overlaps[ropery/api.Pair]", "internal/reflectlite.ValueOf", "internal/reflectlite.Swapper", "(internal/reflectlite.Value).Len"], unfollowed := true, recurses := true, apart := false, narrowed := true }
def PlanOrdersUptoSaid : Prop := planOrdersUptoRow.holds Tryz.pinned (OpenSpec.upto planOrdersSpec)

end Rows
end Go.Proofs.YtijcckhkofkenaaGreat
