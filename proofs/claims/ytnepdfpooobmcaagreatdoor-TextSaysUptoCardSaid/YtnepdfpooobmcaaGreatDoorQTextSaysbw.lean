/- Contracts and lemmas for the proof of TextSays; each theorem states its own conditions. -/
import Derived.Test.YtnepdfpooobmcaaGreatDoorQTextSaysba
import Derived.Test.YtnepdfpooobmcaaGreatDoorQTextSaysam
import Derived.Test.YtnepdfpooobmcaaGreatDoorQTextSaysbj
import Derived.Test.YtnepdfpooobmcaaGreatDoorQTextSaysan
import Derived.BigQuiet
set_option linter.unusedVariables false
set_option linter.unusedSimpArgs false
/- Contracts and lemmas for the proofs of this seat; each theorem states its own conditions. -/
namespace Go.Proofs.YtnepdfpooobmcaaGreatDoor
open Go.RowKit
/-! roref.Bare, roref.SameDeed -/
set_option maxRecDepth 100000 in
set_option maxHeartbeats 2000000 in
theorem sameDeedT_any (v u : Value) (d d' : Ops) (w : World) (h : Seg w v 4 d.length (cO d)) (h' : Seg w u 4 d'.length (cO d')) :
    Calls Tryz.prog 18 #[.agg #[v], .agg #[u]] w fun e w' => e = .returned (.bool (decide (d = d'))) ∧ Ext w w' := by
  have E2 := ((Ext.refl w).alloc (.cells #[v] 24)).alloc (.cells #[u] 24)
  have b0 := (blk1 (heap_1 w (.cells #[v] 24) (.cells #[u] 24))).1
  have b1 := (blk1 (heap_2 w (.cells #[v] 24) (.cells #[u] 24))).1
  have Q := hid (equal_Op v u d d' _ (h.ext E2) (h'.ext E2))
  go_enter Tryz.func18, Tryz.ntmps18
  go_wp2_with fail
  refine (Q.out).mono ?_
  rintro e w1 ⟨rfl, n, rfl⟩
  go_wp2
  go_ret
  exact ⟨rfl, E2.drewN n⟩
end Go.Proofs.YtnepdfpooobmcaaGreatDoor

/- Contracts and lemmas for the proofs of this seat; each theorem states its own conditions. -/
namespace Go.Proofs.YtnepdfpooobmcaaGreatDoor
/-! a changed byte of a line, plain -/
theorem getD_set_ne (l : List UInt8) {i k : Nat} (c : UInt8) (h : k ≠ i) : (l.set i c).getD k 0 = l.getD k 0 := by
  rw [List.getD_eq_getElem?_getD, List.getD_eq_getElem?_getD, List.getElem?_set_ne (fun e => h e.symm)]
end Go.Proofs.YtnepdfpooobmcaaGreatDoor

/- Contracts and lemmas for the proofs of this seat; each theorem states its own conditions. -/
namespace Go.Proofs.YtnepdfpooobmcaaGreatDoor
open Go.RowKit
/-! roref.SameEntry, slices.EqualFunc at entries -/
/-- a slice that reads as entries -/
def EntsSeg (w : World) (v : Value) (X : List Ent) : Prop := ∃ es : List EV, es.length = X.length ∧ Seg w v 4 X.length (cEn es) ∧ ∀ (j : Nat) (e : EV) (x : Ent), es[j]? = some e → X[j]? = some x → EntSeg w e x
theorem EntsSeg.ext {w w' : World} {v : Value} {X : List Ent} (h : EntsSeg w v X) (E : Ext w w') : EntsSeg w' v X := by
  obtain ⟨es, h1, h2, h3⟩ := h
  exact ⟨es, h1, h2.ext E, fun j e x a b => (h3 j e x a b).ext E⟩
theorem ents_seg {eB : Nat} {w : World} {es : List EV} {B : Nat} {v : Value} {X : List Ent} (h : EntsSt eB w es X) (ho : w.ownsRow B 45 4 v X.length (cEn es)) : EntsSeg w v X := ⟨es, h.1, own_seg ho, fun j e x a b => (h.2 j e x a b).seg⟩
theorem LogR.seg {w : World} {X : List Ent} {v : Value} {a : World} (h : LogR w X v a) : EntsSeg a v X := by
  obtain ⟨es, h1, h2, h3⟩ := h
  exact ents_seg h1 h2
end Go.Proofs.YtnepdfpooobmcaaGreatDoor

/- Contracts and lemmas for the proofs of this seat; each theorem states its own conditions. -/
namespace Go.Proofs.YtnepdfpooobmcaaGreatDoor
open Go.RowKit
/-! roref.BareEntry -/
end Go.Proofs.YtnepdfpooobmcaaGreatDoor
