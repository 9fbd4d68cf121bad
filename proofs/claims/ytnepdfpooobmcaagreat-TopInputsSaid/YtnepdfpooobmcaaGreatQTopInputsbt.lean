/- Contracts and lemmas for the proof of TopInputs; each theorem states its own conditions. -/
import Derived.Test.YtnepdfpooobmcaaGreatQTopInputsbf
import Derived.Test.YtnepdfpooobmcaaGreatQTopInputsbs
import Derived.Test.YtnepdfpooobmcaaGreatQTopInputsbh
import Derived.Shelf.Strings.SlTrimAscii
import Derived.Ground.NamesProg
import Derived.Test.YtnepdfpooobmcaaGreatProg
import Derived.Test.YtnepdfpooobmcaaGreatQTopInputsaa
import Derived.Test.YtnepdfpooobmcaaGreatQTopInputsas
import Derived.Test.YtnepdfpooobmcaaGreatQTopInputsaf
import Derived.Test.YtnepdfpooobmcaaGreatQTopInputsap
import Derived.Lib.SlTrimSet
import Derived.Test.YtnepdfpooobmcaaGreatQTopInputsag
import Derived.Test.YtnepdfpooobmcaaGreatQTopInputsat
import Derived.Test.YtnepdfpooobmcaaGreatQTopInputsau
import Derived.WalkLawsBesides
import Derived.Carry
import Derived.Test.YtnepdfpooobmcaaGreatQTopInputsao
import Derived.Test.YtnepdfpooobmcaaGreatQTopInputsbk
import Derived.Test.YtnepdfpooobmcaaGreatQTopInputsbl
import Derived.Test.YtnepdfpooobmcaaGreatQTopInputsbm
import Derived.Test.YtnepdfpooobmcaaGreatQTopInputsbn
import Derived.Test.YtnepdfpooobmcaaGreatQTopInputsbr
set_option linter.unusedVariables false
set_option linter.unusedSimpArgs false
/- Contracts and lemmas for the proofs of this seat; each theorem states its own conditions. -/
namespace Go.Proofs.YtnepdfpooobmcaaGreat
/-! Plain, in plain lists -/
def lastO (O : List Int) : Int := O.getD (O.length - 1) 0
def pl (C : List ByteArray) (O : List Int) : Nat → List ByteArray × List Int
  | 0 => ([], [O.getD 0 0])
  | k + 1 => if O.getD (k + 1) 0 = lastO (pl C O k).2 then pl C O k else ((pl C O k).1 ++ [kAt C k], (pl C O k).2 ++ [O.getD (k + 1) 0])
end Go.Proofs.YtnepdfpooobmcaaGreat

/- Contracts and lemmas for the proofs of this seat; each theorem states its own conditions. -/
namespace Go.Proofs.YtnepdfpooobmcaaGreat
open Go.RowKit
/-- what stands after k rounds of Plain: w1 is the world ahead of the loop -/
def PS (w1 wr : World) (bx : Nat) (C : List ByteArray) (O : List Int) (k : Nat) : Prop :=
  ∃ a1 c1 a2 c2, wr.heap[bx]? = some (.cells #[.slice a1 (pl C O k).1.length c1, .slice a2 (pl C O k).2.length c2] 33 (0, 0)) ∧
    wr.ownsRow w1.heap.size 9 1 (.slice a1 (pl C O k).1.length c1) (pl C O k).1.length (cS (pl C O k).1) ∧
    wr.ownsRow w1.heap.size 3 1 (.slice a2 (pl C O k).2.length c2) (pl C O k).2.length (cI (pl C O k).2) ∧ Ext w1 wr
end Go.Proofs.YtnepdfpooobmcaaGreat

/- Contracts and lemmas for the proofs of this seat; each theorem states its own conditions. -/
namespace Go.Proofs.YtnepdfpooobmcaaGreat
open Go.RowKit
end Go.Proofs.YtnepdfpooobmcaaGreat

/- Contracts and lemmas for the proofs of this seat; each theorem states its own conditions. -/
namespace Go.Proofs.YtnepdfpooobmcaaGreat
open Go.RowKit
/-! shard.Plain, Same, Part at whatever is handed in -/
end Go.Proofs.YtnepdfpooobmcaaGreat

/- Contracts and lemmas for the proofs of this seat; each theorem states its own conditions. -/
namespace Go.Proofs.YtnepdfpooobmcaaGreat
open Go.Shelf
end Go.Proofs.YtnepdfpooobmcaaGreat

/- Contracts and lemmas for the proofs of this seat; each theorem states its own conditions. -/
namespace Go.Proofs.YtnepdfpooobmcaaGreat
open Go.RowKit
end Go.Proofs.YtnepdfpooobmcaaGreat

/- Contracts and lemmas for the proofs of this seat; each theorem states its own conditions. -/
namespace Go.Proofs.YtnepdfpooobmcaaGreat
open Go.RowKit
/-! the document's Key, Map, Whose -/
end Go.Proofs.YtnepdfpooobmcaaGreat

/- Contracts and lemmas for the proofs of this seat; each theorem states its own conditions. -/
namespace Go.Proofs.YtnepdfpooobmcaaGreat
open Go.RowKit
end Go.Proofs.YtnepdfpooobmcaaGreat

/- Contracts and lemmas for the proofs of this seat; each theorem states its own conditions. -/
namespace Go.Proofs.YtnepdfpooobmcaaGreat
open Go.RowKit Go.Maps
/-! maps of texts to numbers: m[k] -/
section
variable {P : Program} (w : World) {ops : Array Oper} {rest : List Oper} {o : Oper} {a : Act} {Q : Exit → Act → World → Prop}
end
end Go.Proofs.YtnepdfpooobmcaaGreat

/- Contracts and lemmas for the proofs of this seat; each theorem states its own conditions. -/
namespace Go.Proofs.YtnepdfpooobmcaaGreat
open Go.RowKit Go.Maps
/-! the document's Value, Store, Of -/
end Go.Proofs.YtnepdfpooobmcaaGreat

/- Contracts and lemmas for the proofs of this seat; each theorem states its own conditions. -/
namespace Go.Proofs.YtnepdfpooobmcaaGreat
open Go.RowKit
/-! the document's Store -/
end Go.Proofs.YtnepdfpooobmcaaGreat

/- Contracts and lemmas for the proofs of this seat; each theorem states its own conditions. -/
namespace Go.Proofs.YtnepdfpooobmcaaGreat
open Go.RowKit
/-! the document's Deed -/
end Go.Proofs.YtnepdfpooobmcaaGreat

/- Contracts and lemmas for the proofs of this seat; each theorem states its own conditions. -/
namespace Go.Proofs.YtnepdfpooobmcaaGreat
open Go.RowKit Go.Maps
/-! the document's Touches -/
/-- a set of texts, as a map to true -/
def setF (L : List ByteArray) : ByteArray → Option Bool := fun x => if memB L x = true then some true else none
/-- two sets in memory -/
def TRel (w : World) (b c : Nat) (R W : List ByteArray) (wr : World) : Prop :=
  ∃ (D F : DU), wr.ownsMap Tryz.prog 9 (plainElem Tryz.prog 4) b R.length D ∧ MapF kS okS dB D (setF R) ∧ wr.ownsMap Tryz.prog 9 (plainElem Tryz.prog 4) c W.length F ∧ MapF kS okS dB F (setF W) ∧ Ext w wr
theorem TRel.ext {w w1 w2 : World} {b c : Nat} {R W : List ByteArray} (h : TRel w b c R W w1) (E : Ext w1 w2) : TRel w b c R W w2 := by
  obtain ⟨D, F, h1, h2, h3, h4, h5⟩ := h
  exact ⟨D, F, ownsMap_ext h1 E, h2, ownsMap_ext h3 E, h4, h5.trans E⟩
theorem TRel.lt {w w1 : World} {b c : Nat} {R W : List ByteArray} (h : TRel w b c R W w1) : b < w1.heap.size ∧ c < w1.heap.size := by
  obtain ⟨D, F, h1, h2, h3, h4, h5⟩ := h
  exact ⟨h1.lt, h3.lt⟩
theorem TRel.start (w w0 : World) (E : Ext w w0) : TRel w w0.heap.size (w0.heap.size + 1) [] [] ((w0.alloc (.map #[] 0)).alloc (.map #[] 0)) := by
  have h1 := (World.ownsMap_made w0 Tryz.prog 9 (plainElem (H := Unit) Tryz.prog 4)).alloc (.map #[] 0)
  have h2 := World.ownsMap_made (w0.alloc (.map #[] 0)) Tryz.prog 9 (plainElem (H := Unit) Tryz.prog 4)
  have e : setF [] = fun _ => none := by funext x; simp [setF, memB]
  exact ⟨.map [], .map [], h1, e ▸ MapF.empty, by simpa using h2, e ▸ MapF.empty, (E.alloc _).alloc _⟩
section
variable {ops : Array Oper} {rest : List Oper} {o : Oper} {a : Act} {Q : Exit → Act → World → Prop}
end
end Go.Proofs.YtnepdfpooobmcaaGreat

/- Contracts and lemmas for the proofs of this seat; each theorem states its own conditions. -/
namespace Go.Proofs.YtnepdfpooobmcaaGreat
open Go.RowKit Go.Maps Go.Sort
/-! the document's Names -/
section
variable {P : Program} (w : World) {ops : Array Oper} {rest : List Oper} {o : Oper} {a : Act} {Q : Exit → Act → World → Prop}
end
end Go.Proofs.YtnepdfpooobmcaaGreat

/- Contracts and lemmas for the proofs of this seat; each theorem states its own conditions. -/
namespace Go.Proofs.YtnepdfpooobmcaaGreat
open Go.RowKit Go.Maps
/-! the document's Clash -/
/-- a loop over a set of texts: what stands behind it, and what has been seen -/
def CRel (w : World) (b r n : Nat) (D : DU) (P : ByteArray → Prop) (wr : World) : Prop :=
  ∃ (left : Lit → Bool) (cnt : Nat), wr.ranges Tryz.prog 9 (plainElem Tryz.prog 4) b r n D left cnt ∧ (∀ k, okS k → left (kS k) = false → P k) ∧ Ext w wr
theorem CRel.step {left : Lit → Bool} {P : ByteArray → Prop} {x : ByteArray} (hP : ∀ k, okS k → left (kS k) = false → P k) (hx : P x) : ∀ k, okS k → (left (kS k) && !(kS k).sameKey (kS x)) = false → P k := by
  intro k hk h
  by_cases e : k = x
  · subst e; exact hx
  · rw [sameKey_kS e] at h
    exact hP k hk (by simpa using h)
end Go.Proofs.YtnepdfpooobmcaaGreat

/- Contracts and lemmas for the proofs of this seat; each theorem states its own conditions. -/
namespace Go.Proofs.YtnepdfpooobmcaaGreat
open Go.RowKit Go.Maps
/-! deed.Keys, deed.Clash at whatever is handed in -/
end Go.Proofs.YtnepdfpooobmcaaGreat

/- Contracts and lemmas for the proofs of this seat; each theorem states its own conditions. -/
namespace Go.Proofs.YtnepdfpooobmcaaGreat
open Go.RowKit
/-! parts at whatever is handed in -/
end Go.Proofs.YtnepdfpooobmcaaGreat

/- Contracts and lemmas for the proofs of this seat; each theorem states its own conditions. -/
namespace Go.Proofs.YtnepdfpooobmcaaGreat
open Go.RowKit
/-! copies: Step at any entry; Take -/
theorem okE_map {c : Cop} {x : Ent} (h : x.im = true) : okE c x = true := by unfold okE; rw [if_pos h]
theorem okE_deed {c : Cop} {x : Ent} (h : x.im = false) : okE c x = runB c.S x.ops := by unfold okE; rw [if_neg (by rw [h]; simp)]
theorem doE_map {c : Cop} {x : Ent} (h : x.im = true) : doE c x = ⟨x.cuts, x.own, c.S, c.dn + 1, c.ok ++ [true]⟩ := by unfold doE; rw [if_pos h]
theorem doE_deed {c : Cop} {x : Ent} (h : x.im = false) : doE c x = ⟨c.C, c.O, runS c.S x.ops, c.dn + 1, c.ok ++ [runB c.S x.ops]⟩ := by unfold doE; rw [if_neg (by rw [h]; simp)]
/-- what is known of the merge's log -/
structure LogK (cl : List (List Bat)) : Prop where
  sm : ∀ l ∈ cl, ∀ b ∈ l, ∀ x ∈ b, EntSm x
  len : (logM cl).length ≤ 100
  few : ∀ i, i < cl.length → (cl.getD i []).length ≤ 1000000
  ok : ∀ x ∈ logM cl, EntOk x
theorem cstep_okE {w : World} {F : Nat → Prop} {b : Nat} {A : CopA} {cl : List (List Bat)} {op : List Bat} {K : List Cop} (h : CopG w F b A cl op K) {i : Nat} (hi : i < K.length) {N : Nat} (ok : CopOk N (K.getD i copZ)) (hN : N ≤ 400000) (hL : LogK cl) {x : Ent} (hx : (logM cl)[(K.getD i copZ).dn]? = some x) :
    Calls Tryz.prog 14 #[.pointer (some ⟨b, 0, none⟩), .int .i64 i] w fun e w' => e = .returned (.tuple #[.bool (okE (K.getD i copZ) x), .int .i64 0]) ∧ ∃ F', CopE A w' F' b cl op (stepK K i x) ∧ Kp F w w' F' := by
  have hxo := hL.ok x (List.mem_of_getElem? hx)
  unfold stepK
  cases him : x.im with
  | true =>
    rw [okE_map him, doE_map him]
    exact cstep_map h hi rfl ok hN hL.sm hL.len hL.few hx hxo him
  | false =>
    rw [okE_deed him, doE_deed him]
    exact cstep_deed h hi rfl ok hN hL.sm hL.len hL.few hx hxo him
end Go.Proofs.YtnepdfpooobmcaaGreat
