/- Contracts and lemmas for the proof of TopMoves; each theorem states its own conditions. -/
import Derived.Test.YtnepdfpooobmcaaGreatQTopMovesbd
import Derived.Test.YtnepdfpooobmcaaGreatQTopMovesbq
import Derived.Test.YtnepdfpooobmcaaGreatQTopMovesbf
import Derived.Shelf.Strings.SlTrimAscii
import Derived.Ground.NamesProg
import Derived.Test.YtnepdfpooobmcaaGreatProg
import Derived.Test.YtnepdfpooobmcaaGreatQTopMovesaa
import Derived.Test.YtnepdfpooobmcaaGreatQTopMovesar
import Derived.Test.YtnepdfpooobmcaaGreatQTopMovesaf
import Derived.Test.YtnepdfpooobmcaaGreatQTopMovesao
import Derived.Lib.SlTrimSet
import Derived.Test.YtnepdfpooobmcaaGreatQTopMovesas
import Derived.Test.YtnepdfpooobmcaaGreatQTopMovesau
import Derived.WalkLawsBesides
import Derived.Carry
import Derived.Test.YtnepdfpooobmcaaGreatQTopMovesan
import Derived.Test.YtnepdfpooobmcaaGreatQTopMovesbi
import Derived.Test.YtnepdfpooobmcaaGreatQTopMovesbj
import Derived.Test.YtnepdfpooobmcaaGreatQTopMovesbk
import Derived.Test.YtnepdfpooobmcaaGreatQTopMovesbl
set_option linter.unusedVariables false
set_option linter.unusedSimpArgs false
/- Contracts and lemmas for the proofs of this seat; each theorem states its own conditions. -/
namespace Go.Proofs.YtnepdfpooobmcaaGreat
/-! Plain, in plain lists -/
def lastO (O : List Int) : Int := O.getD (O.length - 1) 0
def pl (C : List ByteArray) (O : List Int) : Nat → List ByteArray × List Int
  | 0 => ([], [O.getD 0 0])
  | k + 1 => if O.getD (k + 1) 0 = lastO (pl C O k).2 then pl C O k else ((pl C O k).1 ++ [kAt C k], (pl C O k).2 ++ [O.getD (k + 1) 0])
end Go.Proofs.YtnepdfpooobmcaaGreat

/- Contracts and lemmas for the proofs of this seat; each theorem states its own conditions. -/
namespace Go.Proofs.YtnepdfpooobmcaaGreat
open Go.RowKit
/-- what stands after k rounds of Plain: w1 is the world ahead of the loop -/
def PS (w1 wr : World) (bx : Nat) (C : List ByteArray) (O : List Int) (k : Nat) : Prop :=
  ∃ a1 c1 a2 c2, wr.heap[bx]? = some (.cells #[.slice a1 (pl C O k).1.length c1, .slice a2 (pl C O k).2.length c2] 33 (0, 0)) ∧
    wr.ownsRow w1.heap.size 9 1 (.slice a1 (pl C O k).1.length c1) (pl C O k).1.length (cS (pl C O k).1) ∧
    wr.ownsRow w1.heap.size 3 1 (.slice a2 (pl C O k).2.length c2) (pl C O k).2.length (cI (pl C O k).2) ∧ Ext w1 wr
end Go.Proofs.YtnepdfpooobmcaaGreat

/- Contracts and lemmas for the proofs of this seat; each theorem states its own conditions. -/
namespace Go.Proofs.YtnepdfpooobmcaaGreat
open Go.RowKit
end Go.Proofs.YtnepdfpooobmcaaGreat

/- Contracts and lemmas for the proofs of this seat; each theorem states its own conditions. -/
namespace Go.Proofs.YtnepdfpooobmcaaGreat
open Go.RowKit
/-! shard.Plain, Same, Part at whatever is handed in -/
end Go.Proofs.YtnepdfpooobmcaaGreat

/- Contracts and lemmas for the proofs of this seat; each theorem states its own conditions. -/
namespace Go.Proofs.YtnepdfpooobmcaaGreat
open Go.Shelf
end Go.Proofs.YtnepdfpooobmcaaGreat

/- Contracts and lemmas for the proofs of this seat; each theorem states its own conditions. -/
namespace Go.Proofs.YtnepdfpooobmcaaGreat
open Go.RowKit
end Go.Proofs.YtnepdfpooobmcaaGreat

/- Contracts and lemmas for the proofs of this seat; each theorem states its own conditions. -/
namespace Go.Proofs.YtnepdfpooobmcaaGreat
open Go.RowKit
/-! the document's Key, Map, Whose -/
end Go.Proofs.YtnepdfpooobmcaaGreat

/- Contracts and lemmas for the proofs of this seat; each theorem states its own conditions. -/
namespace Go.Proofs.YtnepdfpooobmcaaGreat
open Go.RowKit
end Go.Proofs.YtnepdfpooobmcaaGreat

/- Contracts and lemmas for the proofs of this seat; each theorem states its own conditions. -/
namespace Go.Proofs.YtnepdfpooobmcaaGreat
open Go.RowKit Go.Maps
/-! maps of texts to numbers: m[k] -/
section
variable {P : Program} (w : World) {ops : Array Oper} {rest : List Oper} {o : Oper} {a : Act} {Q : Exit → Act → World → Prop}
end
end Go.Proofs.YtnepdfpooobmcaaGreat

/- Contracts and lemmas for the proofs of this seat; each theorem states its own conditions. -/
namespace Go.Proofs.YtnepdfpooobmcaaGreat
open Go.RowKit Go.Maps
/-! the document's Value, Store, Of -/
end Go.Proofs.YtnepdfpooobmcaaGreat

/- Contracts and lemmas for the proofs of this seat; each theorem states its own conditions. -/
namespace Go.Proofs.YtnepdfpooobmcaaGreat
open Go.RowKit
/-! the document's Store -/
end Go.Proofs.YtnepdfpooobmcaaGreat

/- Contracts and lemmas for the proofs of this seat; each theorem states its own conditions. -/
namespace Go.Proofs.YtnepdfpooobmcaaGreat
open Go.RowKit
/-! the document's Deed -/
end Go.Proofs.YtnepdfpooobmcaaGreat

/- Contracts and lemmas for the proofs of this seat; each theorem states its own conditions. -/
namespace Go.Proofs.YtnepdfpooobmcaaGreat
open Go.RowKit Go.Maps
/-! the document's Touches -/
/-- a set of texts, as a map to true -/
def setF (L : List ByteArray) : ByteArray → Option Bool := fun x => if memB L x = true then some true else none
/-- two sets in memory -/
def TRel (w : World) (b c : Nat) (R W : List ByteArray) (wr : World) : Prop :=
  ∃ (D F : DU), wr.ownsMap Tryz.prog 9 (plainElem Tryz.prog 4) b R.length D ∧ MapF kS okS dB D (setF R) ∧ wr.ownsMap Tryz.prog 9 (plainElem Tryz.prog 4) c W.length F ∧ MapF kS okS dB F (setF W) ∧ Ext w wr
theorem TRel.ext {w w1 w2 : World} {b c : Nat} {R W : List ByteArray} (h : TRel w b c R W w1) (E : Ext w1 w2) : TRel w b c R W w2 := by
  obtain ⟨D, F, h1, h2, h3, h4, h5⟩ := h
  exact ⟨D, F, ownsMap_ext h1 E, h2, ownsMap_ext h3 E, h4, h5.trans E⟩
theorem TRel.lt {w w1 : World} {b c : Nat} {R W : List ByteArray} (h : TRel w b c R W w1) : b < w1.heap.size ∧ c < w1.heap.size := by
  obtain ⟨D, F, h1, h2, h3, h4, h5⟩ := h
  exact ⟨h1.lt, h3.lt⟩
theorem TRel.start (w w0 : World) (E : Ext w w0) : TRel w w0.heap.size (w0.heap.size + 1) [] [] ((w0.alloc (.map #[] 0)).alloc (.map #[] 0)) := by
  have h1 := (World.ownsMap_made w0 Tryz.prog 9 (plainElem (H := Unit) Tryz.prog 4)).alloc (.map #[] 0)
  have h2 := World.ownsMap_made (w0.alloc (.map #[] 0)) Tryz.prog 9 (plainElem (H := Unit) Tryz.prog 4)
  have e : setF [] = fun _ => none := by funext x; simp [setF, memB]
  exact ⟨.map [], .map [], h1, e ▸ MapF.empty, by simpa using h2, e ▸ MapF.empty, (E.alloc _).alloc _⟩
section
variable {ops : Array Oper} {rest : List Oper} {o : Oper} {a : Act} {Q : Exit → Act → World → Prop}
end
end Go.Proofs.YtnepdfpooobmcaaGreat

/- Contracts and lemmas for the proofs of this seat; each theorem states its own conditions. -/
namespace Go.Proofs.YtnepdfpooobmcaaGreat
open Go.RowKit Go.Maps Go.Sort
/-! the document's Names -/
section
variable {P : Program} (w : World) {ops : Array Oper} {rest : List Oper} {o : Oper} {a : Act} {Q : Exit → Act → World → Prop}
end
end Go.Proofs.YtnepdfpooobmcaaGreat

/- Contracts and lemmas for the proofs of this seat; each theorem states its own conditions. -/
namespace Go.Proofs.YtnepdfpooobmcaaGreat
open Go.RowKit Go.Maps
/-! the document's Clash -/
/-- a loop over a set of texts: what stands behind it, and what has been seen -/
def CRel (w : World) (b r n : Nat) (D : DU) (P : ByteArray → Prop) (wr : World) : Prop :=
  ∃ (left : Lit → Bool) (cnt : Nat), wr.ranges Tryz.prog 9 (plainElem Tryz.prog 4) b r n D left cnt ∧ (∀ k, okS k → left (kS k) = false → P k) ∧ Ext w wr
theorem CRel.step {left : Lit → Bool} {P : ByteArray → Prop} {x : ByteArray} (hP : ∀ k, okS k → left (kS k) = false → P k) (hx : P x) : ∀ k, okS k → (left (kS k) && !(kS k).sameKey (kS x)) = false → P k := by
  intro k hk h
  by_cases e : k = x
  · subst e; exact hx
  · rw [sameKey_kS e] at h
    exact hP k hk (by simpa using h)
end Go.Proofs.YtnepdfpooobmcaaGreat

/- Contracts and lemmas for the proofs of this seat; each theorem states its own conditions. -/
namespace Go.Proofs.YtnepdfpooobmcaaGreat
open Go.RowKit Go.Maps
/-! deed.Keys, deed.Clash at whatever is handed in -/
end Go.Proofs.YtnepdfpooobmcaaGreat

/- Contracts and lemmas for the proofs of this seat; each theorem states its own conditions. -/
namespace Go.Proofs.YtnepdfpooobmcaaGreat
open Go.RowKit
/-! parts at whatever is handed in -/
set_option maxRecDepth 100000 in
set_option maxHeartbeats 1000000 in
theorem pmap_ok {w : World} {bt : Nat} {C : List ByteArray} {O : List Int} {P : Nat → Prs} {vc vo : Value} {pv : Nat → Value} (h : PartsSt w bt C O P vc vo pv) (hm : MapOk C O) :
    Calls Tryz.prog 92 #[.pointer (some ⟨bt, 0, none⟩)] w fun e w' => ∃ v', e = .returned v' ∧ OwnMap w' w.heap.size v' C O ∧ Ext w w' := by
  have E0 := (Ext.refl w).alloc (.cells #[.slice none 0 0, .slice none 0 0] 33)
  have hb := heap_alloc_new w (.cells #[.slice none 0 0, .slice none 0 0] 33)
  obtain ⟨w0, hw0⟩ : ∃ w0, w.alloc (.cells #[.slice none 0 0, .slice none 0 0] 33) = w0 := ⟨_, rfl⟩
  obtain ⟨rb, hrb⟩ : ∃ rb, w.heap.size = rb := ⟨_, rfl⟩
  have hs0 : w0.heap.size = rb + 1 := by rw [← hw0, ← hrb]; simp
  rw [hw0] at E0 hb
  rw [hrb] at hb
  replace h := h.ext E0
  have x := h.cell0
  obtain ⟨a1, k1, e1⟩ := own_form h.cuts
  obtain ⟨a2, k2, e2⟩ := own_form h.owners
  have hI := h.is
  rw [e1, e2] at hI x
  have few := hm.few
  have len := hm.len
  have CP := hid (copied_any _ C O w0 hI (by omega) (by omega))
  have HS0 := hid hs0
  have HB := hid hb
  have hrl : w.heap.size ≤ rb := by omega
  clear h hI e1 e2 len few hs0 hb
  go_enter Tryz.func92, Tryz.ntmps92
  go_wp2_with fail
  refine (CP.out).mono ?_
  clear CP hw0 hrb
  rintro e w1 ⟨v', rfl, hmy, E1⟩
  have hbR := E1.heap HB.out
  obtain ⟨c', o', rfl, q1, q2⟩ := hmy
  obtain ⟨a3, k3, rfl⟩ := own_form q1
  obtain ⟨a4, k4, rfl⟩ := own_form q2
  have hb2 := blk2 hbR
  have rB := blk2 (blk2_set2 (u := .slice a3 C.length k3) (v := .slice a4 O.length k4) hbR)
  have EE := hid (((E0.trans E1).setCell (p := ⟨rb, 0, none⟩) hrl (.slice a3 C.length k3)).setCell (p := ⟨rb, 1, none⟩) hrl (.slice a4 O.length k4))
  have HM := hid (show OwnMap ((w1.setCell ⟨rb, 0, none⟩ (.slice a3 C.length k3)).setCell ⟨rb, 1, none⟩ (.slice a4 O.length k4)) w.heap.size (.agg #[.slice a3 C.length k3, .slice a4 O.length k4]) C O from
    ⟨_, _, rfl, own_base (own_set2 q1 (by show rb < _; rw [HS0.out]; omega) (by show rb < _; rw [HS0.out]; omega)) E0.size', own_base (own_set2 q2 (by show rb < _; rw [HS0.out]; omega) (by show rb < _; rw [HS0.out]; omega)) E0.size'⟩)
  clear q1 q2 E1 hbR
  go_wp2
  exact bodyPost_ret (v := .agg #[.slice a3 C.length k3, .slice a4 O.length k4]) (by simp [results, Tryz.results92, go_sem, rB.1, rB.2.1]) rfl ⟨_, rfl, HM.out, EE.out⟩
end Go.Proofs.YtnepdfpooobmcaaGreat
