/- Contracts and lemmas for the proof of PlanOrders; each theorem states its own conditions. -/
import Derived.Test.YtijcckhkofkenaaGreatQPlanOrdersao
import Derived.Maps.OwnSet
set_option linter.unusedVariables false
set_option linter.unusedSimpArgs false
/- Contracts and lemmas for the proofs of this seat; each theorem states its own conditions. -/
namespace Go.Proofs.YtijcckhkofkenaaGreat
open Go.RowKit Go.Maps
/-! maps whose elements are slices of one's own, read by the slice VALUE: a row's block, length and capacity -/
abbrev SV := Option (Nat × Nat × Nat)
def svV : SV → Value
  | none => .slice none 0 0
  | some (g, n, c) => .slice (some ⟨g, 0, none⟩) n c
def dV : SV → DU
  | none => .nil
  | some (g, n, c) => .agg [.lit (.int .i64 g), .lit (.int .i64 n), .lit (.int .i64 c)]
theorem dV_inj {a b : SV} (h : dV a = dV b) : a = b := by
  cases a with
  | none => cases b with
    | none => rfl
    | some b => obtain ⟨g, n, c⟩ := b; simp [dV] at h
  | some a => cases b with
    | none => obtain ⟨g, n, c⟩ := a; simp [dV] at h
    | some b =>
      obtain ⟨g, n, c⟩ := a
      obtain ⟨g', n', c'⟩ := b
      simp [dV] at h
      have h1 : g = g' := by omega
      have h2 : n = n' := by omega
      have h3 : c = c' := by omega
      rw [h1, h2, h3]
def svElem (v : Value) : Option (DU × List MemPlace) :=
  match v with
  | .slice none n c => if n = 0 ∧ c = 0 then some (.nil, []) else none
  | .slice (some a) n c => if a.off = 0 ∧ a.spot = none then some (.agg [.lit (.int .i64 a.block), .lit (.int .i64 n), .lit (.int .i64 c)], []) else none
  | _ => none
theorem svElem_mk (s : SV) : svElem (svV s) = some (dV s, []) := by
  cases s with
  | none => simp [svV, svElem, dV]
  | some s => obtain ⟨g, n, c⟩ := s; simp [svV, svElem, dV]
theorem svElem_inv {v : Value} {z : DU × List MemPlace} (h : svElem v = some z) : ∃ s, v = svV s ∧ z = (dV s, []) := by
  unfold svElem at h
  split at h
  · split at h
    · rename_i e; obtain ⟨rfl, rfl⟩ := e; exact ⟨none, rfl, (Option.some.inj h).symm⟩
    · cases h
  · rename_i a n c
    split at h
    · rename_i e
      obtain ⟨b, off, sp⟩ := a
      obtain ⟨rfl, rfl⟩ := e
      exact ⟨some (b, n, c), rfl, (Option.some.inj h).symm⟩
    · cases h
  · cases h
theorem sv_block (s : SV) : (svV s).ownBlock = s.map (·.1) := by
  cases s with
  | none => rfl
  | some s => rfl
/-- what an own row is as such a value -/
theorem sv_of_own {w : World} {B e sz n : Nat} {v : Value} {xs : List Value} (h : w.ownsRow B e sz v n xs) : ∃ s : SV, v = svV s ∧ ∀ p, s = some p → p.2.1 = n := by
  rcases h.2 with ⟨rfl, _⟩ | ⟨g, cap, cur, rfl, _⟩
  · exact ⟨none, rfl, fun p hp => by cases hp⟩
  · exact ⟨some (g, n, cap), rfl, fun p hp => by injection hp with hp; subst hp; rfl⟩
section
variable {P : Program} (w : World) {ops : Array Oper} {rest : List Oper} {o : Oper} {a : Act} {Q : Exit → Act → World → Prop}
/-- m[k] -/
theorem wpList_lookup_sv {κ : Type} {klit : κ → Lit} {ok : κ → Prop} (hg : o.guard = none) (m x : Operand) (t : TypeId) (hop : o.op = Op.lookup t m x false)
    (k e : TypeId) (K : Keyed P k) (ht : P.underlying t = some (.map k e)) (hz : (zeroValue e).run P w = .ok (.slice none 0 0) w) (b n : Nat) (D : DU) (f : κ → Option SV) (hF : MapF klit ok dV D f)
    (hm : a.eval m = .map (some b)) (hown : w.ownsMap P k svElem b n D) (key : Value) (kk : κ) (hkk : ok kk) (hx : a.eval x = key) (hkey : Go.keyOf P k key = some (klit kk))
    (hK : wpList P ops Q rest (a.put o.dst (svV ((f kk).getD none))) w) : wpList P ops Q (o :: rest) a w := by
  refine wpList_plain hg fun K' hK' => ?_
  obtain ⟨v, ps, hrun, hv⟩ := hown.lookup K ht hz (svElem_mk none) hkey
  obtain ⟨s, rfl, hs⟩ := svElem_inv hv
  injection hs with hs _
  have := hF.look dV_inj hkk hs
  subst this
  unfold Oper.wp
  simp [execOp, hop, hm, hx, hrun, Result.andThen]
  exact hK' _ _ hK
/-- m[k], under a guard that holds -/
theorem wpList_lookup_svg {κ : Type} {klit : κ → Lit} {ok : κ → Prop} (hg : Region.wanted o (yielded ops a.tmps) = true) (m x : Operand) (t : TypeId) (hop : o.op = Op.lookup t m x false)
    (k e : TypeId) (K : Keyed P k) (ht : P.underlying t = some (.map k e)) (hz : (zeroValue e).run P w = .ok (.slice none 0 0) w) (b n : Nat) (D : DU) (f : κ → Option SV) (hF : MapF klit ok dV D f)
    (hm : a.eval m = .map (some b)) (hown : w.ownsMap P k svElem b n D) (key : Value) (kk : κ) (hkk : ok kk) (hx : a.eval x = key) (hkey : Go.keyOf P k key = some (klit kk))
    (hK : wpList P ops Q rest (a.put o.dst (svV ((f kk).getD none))) w) : wpList P ops Q (o :: rest) a w := by
  refine wpList_step fun K' hK' => ?_
  rw [if_pos hg]
  obtain ⟨v, ps, hrun, hv⟩ := hown.lookup K ht hz (svElem_mk none) hkey
  obtain ⟨s, rfl, hs⟩ := svElem_inv hv
  injection hs with hs _
  have := hF.look dV_inj hkk hs
  subst this
  unfold Oper.wp
  simp [execOp, hop, hm, hx, hrun, Result.andThen]
  exact hK' _ _ hK
/-- v, ok := m[k] -/
theorem wpList_lookup_sv_ok {κ : Type} {klit : κ → Lit} {ok : κ → Prop} (hg : o.guard = none) (m x : Operand) (t : TypeId) (hop : o.op = Op.lookup t m x true)
    (k e : TypeId) (K : Keyed P k) (ht : P.underlying t = some (.map k e)) (hz : (zeroValue e).run P w = .ok (.slice none 0 0) w) (b n : Nat) (D : DU) (f : κ → Option SV) (hF : MapF klit ok dV D f)
    (hm : a.eval m = .map (some b)) (hown : w.ownsMap P k svElem b n D) (key : Value) (kk : κ) (hkk : ok kk) (hx : a.eval x = key) (hkey : Go.keyOf P k key = some (klit kk))
    (hK : wpList P ops Q rest (a.put o.dst (.tuple #[svV ((f kk).getD none), .bool (f kk).isSome])) w) : wpList P ops Q (o :: rest) a w :=
  wpList_lookup_own_ok w hg m x t hop k e K ht svElem hz .nil [] (svElem_mk none) b n D hm hown key _ hx hkey (fun v ps hv => by
    obtain ⟨s, rfl, hs⟩ := svElem_inv hv
    injection hs with hs _
    have := hF.look (z := none) dV_inj hkk hs
    subst this
    rw [hF.has hkk]
    exact hK)
end
end Go.Proofs.YtijcckhkofkenaaGreat
