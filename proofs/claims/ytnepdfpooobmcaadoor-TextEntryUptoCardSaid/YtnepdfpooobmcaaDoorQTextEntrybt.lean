/- Contracts and lemmas for the proof of TextEntry; each theorem states its own conditions. -/
import Derived.Test.YtnepdfpooobmcaaDoorQTextEntrybs
import Derived.Test.YtnepdfpooobmcaaDoorQTextEntryao
import Derived.BigQuiet
set_option linter.unusedVariables false
set_option linter.unusedSimpArgs false
/- Contracts and lemmas for the proofs of this seat; each theorem states its own conditions. -/
namespace Go.Proofs.YtnepdfpooobmcaaDoor
open Go.RowKit
/-! roref.SameEntry, slices.EqualFunc at entries -/
def sameEB (x y : Ent) : Bool := decide (x.im = y.im) && decide (x.ops = y.ops) && sameB x.cuts y.cuts x.own y.own
set_option maxRecDepth 100000 in
set_option maxHeartbeats 2000000 in
theorem sameDeed_any (v u : Value) (d d' : Ops) (w : World) (h : Seg w v 4 d.length (cO d)) (h' : Seg w u 4 d'.length (cO d')) :
    Calls Tryd.prog 14 #[.agg #[v], .agg #[u]] w fun e w' => e = .returned (.bool (decide (d = d'))) ∧ Ext w w' := by
  have E2 := ((Ext.refl w).alloc (.cells #[v] 35)).alloc (.cells #[u] 35)
  have b0 := cell_of_one (heap_1 w (.cells #[v] 35) (.cells #[u] 35))
  have b1 := cell_of_one (heap_2 w (.cells #[v] 35) (.cells #[u] 35))
  have Q := hid (equal_Op v u d d' _ (h.ext E2) (h'.ext E2))
  go_enter Tryd.func14, Tryd.ntmps14
  go_wp2_with fail
  refine (Q.out).mono ?_
  rintro e w1 ⟨rfl, n, rfl⟩
  go_wp2
  go_ret
  exact ⟨rfl, E2.drewN n⟩
set_option maxRecDepth 100000 in
set_option maxHeartbeats 4000000 in
theorem sameEntry_any (e e' : EV) (x x' : Ent) (w : World) (h : EntSeg w e x) (h' : EntSeg w e' x') :
    Calls Tryd.prog 22 #[evV e, evV e'] w fun r w' => r = .returned (.bool (sameEB x x')) ∧ Ext w w' := by
  obtain ⟨v1, b, v2, v3⟩ := e
  obtain ⟨u1, b', u2, u3⟩ := e'
  obtain ⟨h1, hb, h2, h3⟩ := h
  obtain ⟨h1', hb', h2', h3'⟩ := h'
  dsimp only at h1 hb h2 h3 h1' hb' h2' h3'
  have E2 := ((Ext.refl w).alloc (.cells #[v1, .bool b, v2, v3] 46)).alloc (.cells #[u1, .bool b', u2, u3] 46)
  have k0 := blk4 (heap_1 w (.cells #[v1, .bool b, v2, v3] 46) (.cells #[u1, .bool b', u2, u3] 46))
  have k1 := blk4 (heap_2 w (.cells #[v1, .bool b, v2, v3] 46) (.cells #[u1, .bool b', u2, u3] 46))
  have D := hid (sameDeed_any v1 u1 x.ops x'.ops _ (h1.ext E2) (h1'.ext E2))
  have M := hid (fun w' (E : Ext w w') => sameMap_any (.agg #[v2, v3]) (.agg #[u2, u3]) x.cuts x'.cuts x.own x'.own w' ⟨v2, v3, rfl, h2.ext E, h3.ext E⟩ ⟨u2, u3, rfl, h2'.ext E, h3'.ext E⟩)
  have hS : sameEB x x' = (decide (b = b') && decide (x.ops = x'.ops) && sameB x.cuts x'.cuts x.own x'.own) := by rw [hb, hb']; rfl
  rw [hS]
  clear h1 h2 h3 h1' h2' h3' hb hb' hS
  generalize decide (x.ops = x'.ops) = c at D ⊢
  generalize sameB x.cuts x'.cuts x.own x'.own = d at M ⊢
  show Calls _ _ #[.agg #[v1, .bool b, v2, v3], .agg #[u1, .bool b', u2, u3]] _ _
  by_cases hbb : b = b'
  · subst hbb
    have qb : (b == b) = true := by simp
    have qd : decide (b = b) = true := by simp
    rw [qd]
    go_enter Tryd.func22, Tryd.ntmps22
    go_wp2_with fail
    refine (D.out).mono ?_
    rintro r w1 ⟨rfl, E1⟩
    replace k0 := blk4 (E1.heap (heap_1 w (.cells #[v1, .bool b, v2, v3] 46) (.cells #[u1, .bool b, u2, u3] 46)))
    replace k1 := blk4 (E1.heap (heap_2 w (.cells #[v1, .bool b, v2, v3] 46) (.cells #[u1, .bool b, u2, u3] 46)))
    cases c with
    | true =>
      go_wp2_with fail
      refine (M.out _ (E2.trans E1)).mono ?_
      rintro r w2 ⟨rfl, E3⟩
      go_wp2
      go_ret
      exact ⟨rB (by simp), (E2.trans E1).trans E3⟩
    | false =>
      go_wp2
      go_ret
      exact ⟨rB (by simp), E2.trans E1⟩
  · have qb : (b == b') = false := by simpa using hbb
    have qd : decide (b = b') = false := by simpa using hbb
    rw [qd]
    clear hbb
    go_enter Tryd.func22, Tryd.ntmps22
    go_wp2
    go_ret
    exact ⟨rB (by simp), E2⟩
/-- a slice that reads as entries -/
def EntsSeg (w : World) (v : Value) (X : List Ent) : Prop := ∃ es : List EV, es.length = X.length ∧ Seg w v 4 X.length (cEn es) ∧ ∀ (j : Nat) (e : EV) (x : Ent), es[j]? = some e → X[j]? = some x → EntSeg w e x
theorem EntsSeg.ext {w w' : World} {v : Value} {X : List Ent} (h : EntsSeg w v X) (E : Ext w w') : EntsSeg w' v X := by
  obtain ⟨es, h1, h2, h3⟩ := h
  exact ⟨es, h1, h2.ext E, fun j e x a b => (h3 j e x a b).ext E⟩
theorem ents_seg {eB : Nat} {w : World} {es : List EV} {B : Nat} {v : Value} {X : List Ent} (h : EntsSt eB w es X) (ho : w.ownsRow B 46 4 v X.length (cEn es)) : EntsSeg w v X := ⟨es, h.1, own_seg ho, fun j e x a b => (h.2 j e x a b).seg⟩
theorem LogR.seg {w : World} {X : List Ent} {v : Value} {a : World} (h : LogR w X v a) : EntsSeg a v X := by
  obtain ⟨es, h1, h2, h3⟩ := h
  exact ents_seg h1 h2
end Go.Proofs.YtnepdfpooobmcaaDoor
