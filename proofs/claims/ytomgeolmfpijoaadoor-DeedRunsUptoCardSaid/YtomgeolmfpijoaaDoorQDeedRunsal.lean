/- Contracts and lemmas for the proof of DeedRuns; each theorem states its own conditions. -/
import Derived.Test.YtomgeolmfpijoaaDoorQDeedRunsak
set_option linter.unusedVariables false
set_option linter.unusedSimpArgs false
/- Contracts and lemmas for the proofs of this seat; each theorem states its own conditions. -/
namespace Go.Proofs.YtomgeolmfpijoaaDoor
open Go.RowKit Go.Maps
/-! maps of texts to numbers: m[k] -/
/-- what is there, 0 if nothing is -/
def atF (f : ByteArray → Option Int) (k : ByteArray) : Int := (f k).getD 0
section
variable {P : Program} (w : World) {ops : Array Oper} {rest : List Oper} {o : Oper} {a : Act} {Q : Exit → Act → World → Prop}
theorem wpList_lookup_mi (hg : o.guard = none) (m x : Operand) (t : TypeId) (hop : o.op = Op.lookup t m x false)
    (k e : TypeId) (K : Keyed P k) (ht : P.underlying t = some (.map k e)) (he : P.underlying e = some (.int .i64)) (hz : (zeroValue e).run P w = .ok (.int .i64 0) w) (b n : Nat) (D : DU) (f : ByteArray → Option Int) (hF : MapF kS okS dI D f)
    (hm : a.eval m = .map (some b)) (hown : w.ownsMap P k (plainElem P e) b n D) (key : Value) (kk : ByteArray) (hkk : okS kk) (hx : a.eval x = key) (hkey : Go.keyOf P k key = some (kS kk))
    (hK : wpList P ops Q rest (a.put o.dst (.int .i64 (atF f kk))) w) : wpList P ops Q (o :: rest) a w :=
  wpList_lookup_own_int w hg m x t hop k e .i64 K ht he hz b n D hm hown key _ hx hkey fun c hat _ => by
    have := hF.look dI_inj hkk hat
    subst this; exact hK
theorem wpList_lookup_mig (hg : Region.wanted o (yielded ops a.tmps) = true) (m x : Operand) (t : TypeId) (hop : o.op = Op.lookup t m x false)
    (k e : TypeId) (K : Keyed P k) (ht : P.underlying t = some (.map k e)) (he : P.underlying e = some (.int .i64)) (hz : (zeroValue e).run P w = .ok (.int .i64 0) w) (b n : Nat) (D : DU) (f : ByteArray → Option Int) (hF : MapF kS okS dI D f)
    (hm : a.eval m = .map (some b)) (hown : w.ownsMap P k (plainElem P e) b n D) (key : Value) (kk : ByteArray) (hkk : okS kk) (hx : a.eval x = key) (hkey : Go.keyOf P k key = some (kS kk))
    (hK : wpList P ops Q rest (a.put o.dst (.int .i64 (atF f kk))) w) : wpList P ops Q (o :: rest) a w := by
  refine wpList_step fun K' hK' => ?_
  rw [if_pos hg]
  obtain ⟨c, hrun, hat, hwc⟩ := hown.lookup_int K ht he hz hkey
  have := hF.look dI_inj hkk hat
  subst this
  unfold Oper.wp
  simp [execOp, hop, hm, hx, hrun, Result.andThen]
  exact hK' _ _ hK
end
end Go.Proofs.YtomgeolmfpijoaaDoor
