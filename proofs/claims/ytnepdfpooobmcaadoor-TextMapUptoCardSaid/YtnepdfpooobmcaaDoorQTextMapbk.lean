/- Contracts and lemmas for the proof of TextMap; each theorem states its own conditions. -/
import Derived.Test.YtnepdfpooobmcaaDoorQTextMapao
import Derived.Test.YtnepdfpooobmcaaDoorQTextMapaa
set_option linter.unusedVariables false
set_option linter.unusedSimpArgs false
/- Contracts and lemmas for the proofs of this seat; each theorem states its own conditions. -/
namespace Go.Proofs.YtnepdfpooobmcaaDoor
/-! A region whose operations from the n-th on wait for all that stands ahead: the first n in whatever order, each in a grown world; the rest one behind the other. -/
/-- the slots as they were -/
def x0 (ops : Array Oper) (t : Array Value) (i : Nat) : Value := match dstOf ops i with | some d => t.getD d undef | none => undef
/-- a fact that stood at a world between -/
def Up (w0 w' : World) (S : World → Prop) : Prop := ∃ w1, Ext w0 w1 ∧ Ext w1 w' ∧ S w1
/-- what is known of a slot: its value, or a fact that stood when it was filled, or that of a pair whose second limb is known -/
structure RS where
  val : Option Value
  two : Option Value
  post : Value → World → Prop
def RS.k (u : Value) : RS := ⟨some u, none, fun _ _ => True⟩
def RS.p (S : Value → World → Prop) : RS := ⟨none, none, S⟩
def RS.t (u : Value) (S : Value → World → Prop) : RS := ⟨none, some u, S⟩
def RS.any : RS := ⟨none, none, fun _ _ => True⟩
def RS.at (w0 : World) (r : RS) (v : Value) (w' : World) : Prop := match r.val with
  | some u => v = u
  | none => match r.two with
    | some u => ∃ y, v = .tuple #[y, u] ∧ Up w0 w' (r.post y)
    | none => Up w0 w' (r.post v)
end Go.Proofs.YtnepdfpooobmcaaDoor
