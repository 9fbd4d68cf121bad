/- Contracts and lemmas for the proof of TextMap; each theorem states its own conditions. -/
import Derived.WalkKit
import Derived.Orders
set_option linter.unusedVariables false
set_option linter.unusedSimpArgs false
/- Contracts and lemmas for the proofs of this seat; each theorem states its own conditions. -/
namespace Go.Proofs.YtnepdfpooobmcaaDoor
/-! A region that draws its order: one step law an operation, under an invariant that is told by the set of operations that have been carried out. -/
def dstOf (ops : Array Oper) (i : Nat) : Option Tmp := (ops[i]?).bind (·.dst)
def frT (ops : Array Oper) (x : Nat → Value) : Nat → Array Value → Array Value
  | 0, t => t
  | k + 1, t => match dstOf ops k with
    | some d => (frT ops x k t).setIfInBounds d (x k)
    | none => frT ops x k t
/-- the frame once the operations have left x in their slots -/
def fr (ops : Array Oper) (a0 : Act) (x : Nat → Value) : Act := ⟨frT ops x ops.size a0.tmps, a0.defers⟩
end Go.Proofs.YtnepdfpooobmcaaDoor
