/- Contracts and lemmas for the proof of ShardFind; each theorem states its own conditions. -/
import Derived.Test.YtnepdfpooobmcaaDoorQShardFindam
import Derived.Test.YtnepdfpooobmcaaDoorQShardFindaa
set_option linter.unusedVariables false
set_option linter.unusedSimpArgs false
/- Contracts and lemmas for the proofs of this seat; each theorem states its own conditions. -/
namespace Go.Proofs.YtnepdfpooobmcaaDoor
/-! A region whose operations from the n-th on wait for all that stands ahead: the first n in whatever order, each in a grown world; the rest one behind the other. -/
/-- the slots as they were -/
def x0 (ops : Array Oper) (t : Array Value) (i : Nat) : Value := match dstOf ops i with | some d => t.getD d undef | none => undef
/-- a fact that stood at a world between -/
def Up (w0 w' : World) (S : World → Prop) : Prop := ∃ w1, Ext w0 w1 ∧ Ext w1 w' ∧ S w1
/-- what is known of a slot: its value, or a fact that stood when it was filled, or that of a pair whose second limb is known -/
structure RS where
  val : Option Value
  two : Option Value
  post : Value → World → Prop
def RS.k (u : Value) : RS := ⟨some u, none, fun _ _ => True⟩
def RS.p (S : Value → World → Prop) : RS := ⟨none, none, S⟩
def RS.t (u : Value) (S : Value → World → Prop) : RS := ⟨none, some u, S⟩
def RS.any : RS := ⟨none, none, fun _ _ => True⟩
def RS.at (w0 : World) (r : RS) (v : Value) (w' : World) : Prop := match r.val with
  | some u => v = u
  | none => match r.two with
    | some u => ∃ y, v = .tuple #[y, u] ∧ Up w0 w' (r.post y)
    | none => Up w0 w' (r.post v)
/-- what an operation of the first part must leave -/
def PhOk (w0 : World) (r : RS) (w' : World) (v : Value) (w'' : World) : Prop := r.at w0 v w'' ∧ Ext w' w''
/-- the facts on the slots that an operation waits for -/
def PhDeps (rs : List RS) (w0 : World) (x : Nat → Value) (w' : World) : List Edge → Prop
  | [] => True
  | e :: r => (Region.binds .any e = true → (rs.getD e.on .any).at w0 (x e.on) w') ∧ PhDeps rs w0 x w' r
def PhStep (P : Program) (l : List Oper) (t0 : Array Value) (ds : List Deferred) (rs : List RS) (w0 : World) (r : RS) (o : Oper) : Prop :=
  ∀ (x : Nat → Value) (w' : World), Ext w0 w' → PhDeps rs w0 x w' o.after.toList →
    wpList P l.toArray (fun e a' w'' => e = .normal ∧ ∃ v, a' = (⟨frL x (l.take rs.length) 0 t0, ds⟩ : Act).put o.dst v ∧ PhOk w0 r w' v w'') [o] ⟨frL x (l.take rs.length) 0 t0, ds⟩ w'
def PhAll (P : Program) (l : List Oper) (t0 : Array Value) (ds : List Deferred) (rs : List RS) (w0 : World) : List RS → List Oper → Prop
  | r :: rr, o :: oo => PhStep P l t0 ds rs w0 r o ∧ PhAll P l t0 ds rs w0 rr oo
  | _, _ => True
theorem PhAll.get {P : Program} {l : List Oper} {t0 : Array Value} {ds : List Deferred} {rs : List RS} {w0 : World} : ∀ {rr : List RS} {oo : List Oper}, PhAll P l t0 ds rs w0 rr oo → ∀ (i : Nat) (r : RS) (o : Oper), rr[i]? = some r → oo[i]? = some o → PhStep P l t0 ds rs w0 r o
  | [], _, _, i, r, o, h, _ => by simp at h
  | _ :: _, [], _, i, r, o, _, h => by simp at h
  | r' :: rr, o' :: oo, h, 0, r, o, h1, h2 => by
    simp at h1 h2; subst h1; subst h2; exact h.1
  | r' :: rr, o' :: oo, h, i + 1, r, o, h1, h2 => PhAll.get h.2 i r o (by simpa using h1) (by simpa using h2)
end Go.Proofs.YtnepdfpooobmcaaDoor
