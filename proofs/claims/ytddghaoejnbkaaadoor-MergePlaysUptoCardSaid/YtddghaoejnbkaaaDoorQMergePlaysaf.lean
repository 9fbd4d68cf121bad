/- Contracts and lemmas for the proof of MergePlays; each theorem states its own conditions. -/
import Derived.Test.YtddghaoejnbkaaaDoorProg
import Derived.Test.YtddghaoejnbkaaaDoorQMergePlaysae
import Derived.Test.YtddghaoejnbkaaaDoorQMergePlaysad
import Derived.Test.YtddghaoejnbkaaaDoorQMergePlaysab
import Derived.OneCell
set_option linter.unusedVariables false
set_option linter.unusedSimpArgs false
/- Contracts and lemmas for the proofs of this seat; each theorem states its own conditions. -/
namespace Go.Proofs.YtddghaoejnbkaaaDoor
open Go.RowKit
variable {eB : Nat}
/-! entries, and a merge of inputs, in memory -/
/-- an entry's cells: operations, whether a map, cuts, owners -/
abbrev EV := Value × Bool × Value × Value
def evC (e : EV) : List Value := [e.1, .bool e.2.1, e.2.2.1, e.2.2.2]
def evV (e : EV) : Value := .agg #[e.1, .bool e.2.1, e.2.2.1, e.2.2.2]
def cEn (l : List EV) : List Value := l.flatMap evC
theorem cEn_len (l : List EV) : (cEn l).length = l.length * 4 := by
  induction l with
  | nil => rfl
  | cons e l ih => rw [cEn, List.flatMap_cons, List.length_append]; show 4 + (cEn l).length = _; rw [ih, List.length_cons]; omega
theorem cEn_app (a b : List EV) : cEn (a ++ b) = cEn a ++ cEn b := by simp [cEn]
theorem cEn_at (l : List EV) {k : Nat} (hk : k < l.length) : (cEn l)[k * 4]? = some l[k].1 ∧ (cEn l)[k * 4 + 1]? = some (.bool l[k].2.1) ∧ (cEn l)[k * 4 + 2]? = some l[k].2.2.1 ∧ (cEn l)[k * 4 + 3]? = some l[k].2.2.2 := by
  have e : cEn l = cEn (l.take k) ++ (evC l[k] ++ cEn (l.drop (k + 1))) := by
    rw [show evC l[k] = cEn [l[k]] by simp [cEn], ← cEn_app, ← cEn_app]
    congr 1
    rw [List.singleton_append, ← List.drop_eq_getElem_cons hk, List.take_append_drop]
  have hl : (cEn (l.take k)).length = k * 4 := by rw [cEn_len, List.length_take, Nat.min_eq_left (by omega)]
  rw [e]
  refine ⟨?_, ?_, ?_, ?_⟩
  · rw [List.getElem?_append_right (by omega), hl, Nat.sub_self]; rfl
  · rw [List.getElem?_append_right (by omega), hl, show k * 4 + 1 - k * 4 = 1 by omega]; rfl
  · rw [List.getElem?_append_right (by omega), hl, show k * 4 + 2 - k * 4 = 2 by omega]; rfl
  · rw [List.getElem?_append_right (by omega), hl, show k * 4 + 3 - k * 4 = 3 by omega]; rfl
/-- an entry: rows of its own -/
structure EntSt (eB : Nat) (w : World) (e : EV) (x : Ent) : Prop where
  ops : w.ownsRow eB 71 4 e.1 x.ops.length (cO x.ops)
  im : e.2.1 = x.im
  cuts : w.ownsRow eB 9 1 e.2.2.1 x.cuts.length (cS x.cuts)
  own : w.ownsRow eB 3 1 e.2.2.2 x.own.length (cI x.own)
theorem EntSt.ext {w w' : World} {e : EV} {x : Ent} (h : EntSt eB w e x) (E : Ext w w') : EntSt eB w' e x := ⟨own_ext h.ops E, h.im, own_ext h.cuts E, own_ext h.own E⟩
theorem EntSt.one {w : World} {e : EV} {x : Ent} (h : EntSt eB w e x) : ∀ u ∈ evC e, u.oneCell' = true := by
  obtain ⟨a1, c1, h1⟩ := own_form h.ops
  obtain ⟨a2, c2, h2⟩ := own_form h.cuts
  obtain ⟨a3, c3, h3⟩ := own_form h.own
  intro u hu
  simp only [evC, List.mem_cons, List.not_mem_nil, or_false, h1, h2, h3] at hu
  rcases hu with rfl | rfl | rfl | rfl <;> rfl
/-- entries: each its own rows -/
def EntsSt (eB : Nat) (w : World) (es : List EV) (X : List Ent) : Prop := es.length = X.length ∧ ∀ (j : Nat) (e : EV) (x : Ent), es[j]? = some e → X[j]? = some x → EntSt eB w e x
theorem EntsSt.ext {w w' : World} {es : List EV} {X : List Ent} (h : EntsSt eB w es X) (E : Ext w w') : EntsSt eB w' es X := ⟨h.1, fun j e x a b => (h.2 j e x a b).ext E⟩
theorem EntsSt.nil (w : World) : EntsSt eB w [] [] := ⟨rfl, fun j e x h => by simp at h⟩
theorem EntsSt.snoc {w : World} {es : List EV} {X : List Ent} (h : EntsSt eB w es X) {e : EV} {x : Ent} (he : EntSt eB w e x) : EntsSt eB w (es ++ [e]) (X ++ [x]) := by
  have hl := h.1
  refine ⟨by simp [hl], fun j e' x' a b => ?_⟩
  rcases Nat.lt_or_ge j es.length with hj | hj
  · rw [List.getElem?_append_left hj] at a
    rw [List.getElem?_append_left (by omega)] at b
    exact h.2 j e' x' a b
  · rw [List.getElem?_append_right hj] at a
    rw [List.getElem?_append_right (by omega)] at b
    have : j - es.length = 0 := by
      have := (List.getElem?_eq_some_iff.1 a).1; simp at this; omega
    rw [this] at a; rw [← hl, this] at b
    simp at a b; subst a; subst b
    exact he
theorem EntsSt.take {w : World} {es : List EV} {X : List Ent} (h : EntsSt eB w es X) (n : Nat) : EntsSt eB w (es.take n) (X.take n) := ⟨by simp [h.1], fun j e x a b => by
  rcases Nat.lt_or_ge j n with hj | hj
  · rw [List.getElem?_take_of_lt hj] at a b
    exact h.2 j e x a b
  · rw [List.getElem?_eq_none (by rw [List.length_take]; omega)] at a; cases a⟩
theorem EntsSt.one {w : World} {es : List EV} {X : List Ent} (h : EntsSt eB w es X) : ∀ u ∈ cEn es, u.oneCell' = true := by
  intro u hu
  obtain ⟨e, he, hu⟩ := List.mem_flatMap.1 hu
  obtain ⟨j, hj, rfl⟩ := List.mem_iff_getElem.1 he
  exact (h.2 j _ (X[j]'(by have := h.1; omega)) (List.getElem?_eq_getElem hj) (List.getElem?_eq_getElem _)).one u hu
theorem EntSt.low {B : Nat} {w : World} {e : EV} {x : Ent} (h : EntSt B w e x) (hb : eB ≤ B) : EntSt eB w e x := ⟨own_base h.ops hb, h.im, own_base h.cuts hb, own_base h.own hb⟩
theorem EntsSt.low {B : Nat} {w : World} {es : List EV} {X : List Ent} (h : EntsSt B w es X) (hb : eB ≤ B) : EntsSt eB w es X := ⟨h.1, fun j e x a b => (h.2 j e x a b).low hb⟩
/-- the types of what a merge turns -/
def mTy : List Nat := [54, 52, 23, 41]
theorem op_mTy : 71 ∉ mTy ∧ 9 ∉ mTy ∧ 3 ∉ mTy := by decide
theorem EntSt.kp {S S' : Nat → Prop} {w w' : World} (ty : TyS w S mTy) (k : Kp S w w' S') {e : EV} {x : Ent} (h : EntSt eB w e x) : EntSt eB w' e x :=
  ⟨k.own h.ops (ty.off h.ops op_mTy.1), h.im, k.own h.cuts (ty.off h.cuts op_mTy.2.1), k.own h.own (ty.off h.own op_mTy.2.2)⟩
theorem EntsSt.kp {S S' : Nat → Prop} {w w' : World} (ty : TyS w S mTy) (k : Kp S w w' S') {es : List EV} {X : List Ent} (h : EntsSt eB w es X) : EntsSt eB w' es X := ⟨h.1, fun j e x a b => (h.2 j e x a b).kp ty k⟩
/-- v's block is of S -/
def InS (S : Nat → Prop) (v : Value) : Prop := ∀ k, v.ownBlock = some k → S k
def Apart (u v : Value) : Prop := ∀ k, u.ownBlock = some k → v.ownBlock ≠ some k
theorem apart_nil (v : Value) : Apart (.slice none 0 0) v := fun k h => by cases h
theorem apart_nil' (v : Value) : Apart v (.slice none 0 0) := fun k _ h => by cases h
/-- a batch: entries of one's own -/
def BatSt (eB : Nat) (w : World) (S : Nat → Prop) (v : Value) (X : Bat) : Prop := ∃ es, EntsSt eB w es X ∧ w.ownsRow 0 41 4 v X.length (cEn es) ∧ InS S v
theorem BatSt.ext {w w' : World} {S : Nat → Prop} {v : Value} {X : Bat} (h : BatSt eB w S v X) (E : Ext w w') : BatSt eB w' S v X := by
  obtain ⟨es, a, b, c⟩ := h
  exact ⟨es, a.ext E, own_ext b E, c⟩
theorem BatSt.nil (w : World) (S : Nat → Prop) : BatSt eB w S (.slice none 0 0) [] := ⟨[], EntsSt.nil w, World.ownsRow_nil _ _ _ _, fun k h => by cases h⟩
/-- closed batches, each apart from what F asks -/
def ClsSt (eB : Nat) (w : World) (S : Nat → Prop) (F : Value → Prop) (v : Value) (bs : List Bat) : Prop :=
  ∃ us, us.length = bs.length ∧ w.ownsRow 0 23 1 v bs.length us ∧ InS S v ∧ ∀ (j : Nat) (u : Value) (b : Bat), us[j]? = some u → bs[j]? = some b → BatSt eB w S u b ∧ F u
theorem ClsSt.ext {w w' : World} {S : Nat → Prop} {F : Value → Prop} {v : Value} {bs : List Bat} (h : ClsSt eB w S F v bs) (E : Ext w w') : ClsSt eB w' S F v bs := by
  obtain ⟨us, a, b, c, d⟩ := h
  exact ⟨us, a, own_ext b E, c, fun j u x p q => ⟨(d j u x p q).1.ext E, (d j u x p q).2⟩⟩
theorem ClsSt.nil (w : World) (S : Nat → Prop) (F : Value → Prop) : ClsSt eB w S F (.slice none 0 0) [] := ⟨[], rfl, World.ownsRow_nil _ _ _ _, fun k h => (by cases h), fun j u b h => by simp at h⟩
def rowV (n : Nat) (v : Nat → Value) : List Value := (List.range n).map v
theorem rowV_len (n : Nat) (v : Nat → Value) : (rowV n v).length = n := by simp [rowV]
theorem rowV_at {n i : Nat} (v : Nat → Value) (h : i < n) : (rowV n v)[i]? = some (v i) := by simp [rowV, h]
theorem rowV_set {n i : Nat} (v : Nat → Value) (u : Value) : (rowV n v).set i u = rowV n (fun j => if j = i then u else v j) := by
  apply List.ext_getElem?
  intro j
  by_cases hj : j < n
  · by_cases e : j = i
    · subst e; rw [List.getElem?_set_self (by rw [rowV_len]; exact hj), rowV_at _ hj]; simp
    · rw [List.getElem?_set_ne (fun h => e h.symm), rowV_at _ hj, rowV_at _ hj, if_neg e]
  · rw [List.getElem?_eq_none (by rw [List.length_set, rowV_len]; omega), List.getElem?_eq_none (by rw [rowV_len]; omega)]
structure MergeG (eB : Nat) (w : World) (S : Nat → Prop) (bm bc bo : Nat) (vc vo : Nat → Value) (cl : List (List Bat)) (op : List Bat) : Prop where
  n0 : 0 < cl.length
  n4 : cl.length ≤ 4
  ln : op.length = cl.length
  ty : TyS w S mTy
  sm : S bm
  sc : S bc
  so : S bo
  box : w.heap[bm]? = some (.cells #[.slice (some ⟨bc, 0, none⟩) cl.length cl.length, .slice (some ⟨bo, 0, none⟩) cl.length cl.length] 54 (0, 0))
  crow : w.heap[bc]? = some (.cells (rowV cl.length vc).toArray 52 (0, 0))
  orow : w.heap[bo]? = some (.cells (rowV cl.length vo).toArray 23 (0, 0))
  cls : ∀ i, i < cl.length → ClsSt eB w S (fun u => ∀ i', i' < cl.length → Apart u (vo i')) (vc i) (cl.getD i [])
  opn : ∀ i, i < cl.length → BatSt eB w S (vo i) (op.getD i [])
  clz : ∀ i i', i < cl.length → i' < cl.length → i ≠ i' → Apart (vc i) (vc i')
  cbo : ∀ i, i < cl.length → (vc i).ownBlock ≠ some bo
  opz : ∀ i i', i < cl.length → i' < cl.length → i ≠ i' → Apart (vo i) (vo i')
  bs : eB ≤ w.heap.size
def MergeSt (eB : Nat) (w : World) (S : Nat → Prop) (bm : Nat) (cl : List (List Bat)) (op : List Bat) : Prop := ∃ bc bo vc vo, MergeG eB w S bm bc bo vc vo cl op
theorem MergeG.ext {w w' : World} {S : Nat → Prop} {bm bc bo : Nat} {vc vo : Nat → Value} {cl : List (List Bat)} {op : List Bat} (h : MergeG eB w S bm bc bo vc vo cl op) (E : Ext w w') : MergeG eB w' S bm bc bo vc vo cl op where
  n0 := h.n0
  n4 := h.n4
  ln := h.ln
  ty := h.ty.ext E
  sm := h.sm
  sc := h.sc
  so := h.so
  box := E.heap h.box
  crow := E.heap h.crow
  orow := E.heap h.orow
  cls := fun i hi => (h.cls i hi).ext E
  opn := fun i hi => (h.opn i hi).ext E
  clz := h.clz
  cbo := h.cbo
  opz := h.opz
  bs := Nat.le_trans h.bs E.size'
theorem MergeSt.ext {w w' : World} {S : Nat → Prop} {bm : Nat} {cl : List (List Bat)} {op : List Bat} (h : MergeSt eB w S bm cl op) (E : Ext w w') : MergeSt eB w' S bm cl op := by
  obtain ⟨bc, bo, vc, vo, h⟩ := h
  exact ⟨bc, bo, vc, vo, h.ext E⟩
theorem MergeSt.bs {w : World} {S : Nat → Prop} {bm : Nat} {cl : List (List Bat)} {op : List Bat} (h : MergeSt eB w S bm cl op) : eB ≤ w.heap.size := by
  obtain ⟨bc, bo, vc, vo, h⟩ := h
  exact h.bs
theorem MergeSt.ty {w : World} {S : Nat → Prop} {bm : Nat} {cl : List (List Bat)} {op : List Bat} (h : MergeSt eB w S bm cl op) : TyS w S mTy := by
  obtain ⟨bc, bo, vc, vo, h⟩ := h
  exact h.ty
theorem MergeG.cells {w : World} {S : Nat → Prop} {bm bc bo : Nat} {vc vo : Nat → Value} {cl : List (List Bat)} {op : List Bat} (h : MergeG eB w S bm bc bo vc vo cl op) :
    w.cell? ⟨bm, 0, none⟩ = some (.slice (some ⟨bc, 0, none⟩) cl.length cl.length) ∧ w.cell? ⟨bm, 1, none⟩ = some (.slice (some ⟨bo, 0, none⟩) cl.length cl.length) := by
  have hb := h.box
  simp [World.cell?, hb]
theorem MergeG.cellC {w : World} {S : Nat → Prop} {bm bc bo : Nat} {vc vo : Nat → Value} {cl : List (List Bat)} {op : List Bat} (h : MergeG eB w S bm bc bo vc vo cl op) {i : Nat} (hi : i < cl.length) :
    w.cell? ⟨bc, i, none⟩ = some (vc i) ∧ w.frozen? ⟨bc, i, none⟩ = false := by
  have hb := h.crow
  refine ⟨cells_of hb i (vc i) (rowV_at vc hi), ?_⟩
  simp [World.frozen?, hb]
theorem MergeG.cellO {w : World} {S : Nat → Prop} {bm bc bo : Nat} {vc vo : Nat → Value} {cl : List (List Bat)} {op : List Bat} (h : MergeG eB w S bm bc bo vc vo cl op) {i : Nat} (hi : i < cl.length) :
    w.cell? ⟨bo, i, none⟩ = some (vo i) ∧ w.frozen? ⟨bo, i, none⟩ = false := by
  have hb := h.orow
  refine ⟨cells_of hb i (vo i) (rowV_at vo hi), ?_⟩
  simp [World.frozen?, hb]
theorem infoEn : (Tryd.prog.info? 41).map (fun i => (i.zero, i.size, i.bytes)) = some (some (.agg #[.slice none 0 0, .bool false, .slice none 0 0, .slice none 0 0]), 4, 80) := by kernel_rfl
theorem infoEs : (Tryd.prog.info? 23).map (fun i => (i.zero, i.size, i.bytes)) = some (some (.slice none 0 0), 1, 24) := by kernel_rfl
theorem infoEss : (Tryd.prog.info? 52).map (fun i => (i.zero, i.size, i.bytes)) = some (some (.slice none 0 0), 1, 24) := by kernel_rfl
end Go.Proofs.YtddghaoejnbkaaaDoor
