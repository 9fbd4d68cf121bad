/- Contracts and lemmas for the proof of TextSays; each theorem states its own conditions. -/
import Derived.Test.YtnepdfpooobmcaaGreatDoorProg
import Derived.Test.YtnepdfpooobmcaaGreatDoorQTextSaysbc
import Derived.Test.YtnepdfpooobmcaaGreatDoorQTextSaysab
import Derived.OneCell
set_option linter.unusedVariables false
set_option linter.unusedSimpArgs false
/- Contracts and lemmas for the proofs of this seat; each theorem states its own conditions. -/
namespace Go.Proofs.YtnepdfpooobmcaaGreatDoor
open Go.RowKit
variable {eB : Nat}
/-! entries, and a merge of inputs, in memory -/
/-- an entry's cells: operations, whether a map, cuts, owners -/
abbrev EV := Value × Bool × Value × Value
def evC (e : EV) : List Value := [e.1, .bool e.2.1, e.2.2.1, e.2.2.2]
def evV (e : EV) : Value := .agg #[e.1, .bool e.2.1, e.2.2.1, e.2.2.2]
def cEn (l : List EV) : List Value := l.flatMap evC
/-- an entry: rows of its own -/
structure EntSt (eB : Nat) (w : World) (e : EV) (x : Ent) : Prop where
  ops : w.ownsRow eB 93 4 e.1 x.ops.length (cO x.ops)
  im : e.2.1 = x.im
  cuts : w.ownsRow eB 9 1 e.2.2.1 x.cuts.length (cS x.cuts)
  own : w.ownsRow eB 3 1 e.2.2.2 x.own.length (cI x.own)
theorem EntSt.ext {w w' : World} {e : EV} {x : Ent} (h : EntSt eB w e x) (E : Ext w w') : EntSt eB w' e x := ⟨own_ext h.ops E, h.im, own_ext h.cuts E, own_ext h.own E⟩
theorem EntSt.one {w : World} {e : EV} {x : Ent} (h : EntSt eB w e x) : ∀ u ∈ evC e, u.oneCell' = true := by
  obtain ⟨a1, c1, h1⟩ := own_form h.ops
  obtain ⟨a2, c2, h2⟩ := own_form h.cuts
  obtain ⟨a3, c3, h3⟩ := own_form h.own
  intro u hu
  simp only [evC, List.mem_cons, List.not_mem_nil, or_false, h1, h2, h3] at hu
  rcases hu with rfl | rfl | rfl | rfl <;> rfl
/-- entries: each its own rows -/
def EntsSt (eB : Nat) (w : World) (es : List EV) (X : List Ent) : Prop := es.length = X.length ∧ ∀ (j : Nat) (e : EV) (x : Ent), es[j]? = some e → X[j]? = some x → EntSt eB w e x
theorem EntsSt.ext {w w' : World} {es : List EV} {X : List Ent} (h : EntsSt eB w es X) (E : Ext w w') : EntsSt eB w' es X := ⟨h.1, fun j e x a b => (h.2 j e x a b).ext E⟩
theorem EntsSt.nil (w : World) : EntsSt eB w [] [] := ⟨rfl, fun j e x h => by simp at h⟩
theorem EntsSt.take {w : World} {es : List EV} {X : List Ent} (h : EntsSt eB w es X) (n : Nat) : EntsSt eB w (es.take n) (X.take n) := ⟨by simp [h.1], fun j e x a b => by
  rcases Nat.lt_or_ge j n with hj | hj
  · rw [List.getElem?_take_of_lt hj] at a b
    exact h.2 j e x a b
  · rw [List.getElem?_eq_none (by rw [List.length_take]; omega)] at a; cases a⟩
theorem EntsSt.one {w : World} {es : List EV} {X : List Ent} (h : EntsSt eB w es X) : ∀ u ∈ cEn es, u.oneCell' = true := by
  intro u hu
  obtain ⟨e, he, hu⟩ := List.mem_flatMap.1 hu
  obtain ⟨j, hj, rfl⟩ := List.mem_iff_getElem.1 he
  exact (h.2 j _ (X[j]'(by have := h.1; omega)) (List.getElem?_eq_getElem hj) (List.getElem?_eq_getElem _)).one u hu
/-- the types of what a merge turns -/
def mTy : List Nat := [193, 191, 49, 45]
/-- v's block is of S -/
def InS (S : Nat → Prop) (v : Value) : Prop := ∀ k, v.ownBlock = some k → S k
def Apart (u v : Value) : Prop := ∀ k, u.ownBlock = some k → v.ownBlock ≠ some k
/-- a batch: entries of one's own -/
def BatSt (eB : Nat) (w : World) (S : Nat → Prop) (v : Value) (X : Bat) : Prop := ∃ es, EntsSt eB w es X ∧ w.ownsRow 0 45 4 v X.length (cEn es) ∧ InS S v
theorem BatSt.ext {w w' : World} {S : Nat → Prop} {v : Value} {X : Bat} (h : BatSt eB w S v X) (E : Ext w w') : BatSt eB w' S v X := by
  obtain ⟨es, a, b, c⟩ := h
  exact ⟨es, a.ext E, own_ext b E, c⟩
theorem BatSt.nil (w : World) (S : Nat → Prop) : BatSt eB w S (.slice none 0 0) [] := ⟨[], EntsSt.nil w, World.ownsRow_nil _ _ _ _, fun k h => by cases h⟩
/-- closed batches, each apart from what F asks -/
def ClsSt (eB : Nat) (w : World) (S : Nat → Prop) (F : Value → Prop) (v : Value) (bs : List Bat) : Prop :=
  ∃ us, us.length = bs.length ∧ w.ownsRow 0 49 1 v bs.length us ∧ InS S v ∧ ∀ (j : Nat) (u : Value) (b : Bat), us[j]? = some u → bs[j]? = some b → BatSt eB w S u b ∧ F u
theorem ClsSt.ext {w w' : World} {S : Nat → Prop} {F : Value → Prop} {v : Value} {bs : List Bat} (h : ClsSt eB w S F v bs) (E : Ext w w') : ClsSt eB w' S F v bs := by
  obtain ⟨us, a, b, c, d⟩ := h
  exact ⟨us, a, own_ext b E, c, fun j u x p q => ⟨(d j u x p q).1.ext E, (d j u x p q).2⟩⟩
theorem ClsSt.nil (w : World) (S : Nat → Prop) (F : Value → Prop) : ClsSt eB w S F (.slice none 0 0) [] := ⟨[], rfl, World.ownsRow_nil _ _ _ _, fun k h => (by cases h), fun j u b h => by simp at h⟩
def rowV (n : Nat) (v : Nat → Value) : List Value := (List.range n).map v
structure MergeG (eB : Nat) (w : World) (S : Nat → Prop) (bm bc bo : Nat) (vc vo : Nat → Value) (cl : List (List Bat)) (op : List Bat) : Prop where
  n0 : 0 < cl.length
  n4 : cl.length ≤ 4
  ln : op.length = cl.length
  ty : TyS w S mTy
  sm : S bm
  sc : S bc
  so : S bo
  box : w.heap[bm]? = some (.cells #[.slice (some ⟨bc, 0, none⟩) cl.length cl.length, .slice (some ⟨bo, 0, none⟩) cl.length cl.length] 193 (0, 0))
  crow : w.heap[bc]? = some (.cells (rowV cl.length vc).toArray 191 (0, 0))
  orow : w.heap[bo]? = some (.cells (rowV cl.length vo).toArray 49 (0, 0))
  cls : ∀ i, i < cl.length → ClsSt eB w S (fun u => ∀ i', i' < cl.length → Apart u (vo i')) (vc i) (cl.getD i [])
  opn : ∀ i, i < cl.length → BatSt eB w S (vo i) (op.getD i [])
  clz : ∀ i i', i < cl.length → i' < cl.length → i ≠ i' → Apart (vc i) (vc i')
  cbo : ∀ i, i < cl.length → (vc i).ownBlock ≠ some bo
  opz : ∀ i i', i < cl.length → i' < cl.length → i ≠ i' → Apart (vo i) (vo i')
  bs : eB ≤ w.heap.size
def MergeSt (eB : Nat) (w : World) (S : Nat → Prop) (bm : Nat) (cl : List (List Bat)) (op : List Bat) : Prop := ∃ bc bo vc vo, MergeG eB w S bm bc bo vc vo cl op
theorem MergeG.ext {w w' : World} {S : Nat → Prop} {bm bc bo : Nat} {vc vo : Nat → Value} {cl : List (List Bat)} {op : List Bat} (h : MergeG eB w S bm bc bo vc vo cl op) (E : Ext w w') : MergeG eB w' S bm bc bo vc vo cl op where
  n0 := h.n0
  n4 := h.n4
  ln := h.ln
  ty := h.ty.ext E
  sm := h.sm
  sc := h.sc
  so := h.so
  box := E.heap h.box
  crow := E.heap h.crow
  orow := E.heap h.orow
  cls := fun i hi => (h.cls i hi).ext E
  opn := fun i hi => (h.opn i hi).ext E
  clz := h.clz
  cbo := h.cbo
  opz := h.opz
  bs := Nat.le_trans h.bs E.size'
theorem MergeSt.ext {w w' : World} {S : Nat → Prop} {bm : Nat} {cl : List (List Bat)} {op : List Bat} (h : MergeSt eB w S bm cl op) (E : Ext w w') : MergeSt eB w' S bm cl op := by
  obtain ⟨bc, bo, vc, vo, h⟩ := h
  exact ⟨bc, bo, vc, vo, h.ext E⟩
theorem MergeSt.bs {w : World} {S : Nat → Prop} {bm : Nat} {cl : List (List Bat)} {op : List Bat} (h : MergeSt eB w S bm cl op) : eB ≤ w.heap.size := by
  obtain ⟨bc, bo, vc, vo, h⟩ := h
  exact h.bs
theorem MergeSt.ty {w : World} {S : Nat → Prop} {bm : Nat} {cl : List (List Bat)} {op : List Bat} (h : MergeSt eB w S bm cl op) : TyS w S mTy := by
  obtain ⟨bc, bo, vc, vo, h⟩ := h
  exact h.ty
theorem MergeG.cells {w : World} {S : Nat → Prop} {bm bc bo : Nat} {vc vo : Nat → Value} {cl : List (List Bat)} {op : List Bat} (h : MergeG eB w S bm bc bo vc vo cl op) :
    w.cell? ⟨bm, 0, none⟩ = some (.slice (some ⟨bc, 0, none⟩) cl.length cl.length) ∧ w.cell? ⟨bm, 1, none⟩ = some (.slice (some ⟨bo, 0, none⟩) cl.length cl.length) := by
  have hb := h.box
  simp [World.cell?, hb]
end Go.Proofs.YtnepdfpooobmcaaGreatDoor
