/- Contracts and lemmas for the proof of TopLog; each theorem states its own conditions. -/
import Derived.Test.YtddghaoejnbkaaaGreatDoorProg
import Derived.Test.YtddghaoejnbkaaaGreatDoorQTopLogau
import Derived.Test.YtddghaoejnbkaaaGreatDoorQTopLogad
import Derived.OneCell
import Derived.Test.YtddghaoejnbkaaaGreatDoorQTopLogag
import Derived.Test.YtddghaoejnbkaaaGreatDoorQTopLogaq
set_option linter.unusedVariables false
set_option linter.unusedSimpArgs false
/- Contracts and lemmas for the proofs of this seat; each theorem states its own conditions. -/
namespace Go.Proofs.YtddghaoejnbkaaaGreatDoor
open Go.RowKit
variable {eB : Nat}
/-! entries, and a merge of inputs, in memory -/
/-- an entry's cells: operations, whether a map, cuts, owners -/
abbrev EV := Value × Bool × Value × Value
def evC (e : EV) : List Value := [e.1, .bool e.2.1, e.2.2.1, e.2.2.2]
def evV (e : EV) : Value := .agg #[e.1, .bool e.2.1, e.2.2.1, e.2.2.2]
def cEn (l : List EV) : List Value := l.flatMap evC
theorem cEn_len (l : List EV) : (cEn l).length = l.length * 4 := by
  induction l with
  | nil => rfl
  | cons e l ih => rw [cEn, List.flatMap_cons, List.length_append]; show 4 + (cEn l).length = _; rw [ih, List.length_cons]; omega
theorem cEn_app (a b : List EV) : cEn (a ++ b) = cEn a ++ cEn b := by simp [cEn]
theorem cEn_at (l : List EV) {k : Nat} (hk : k < l.length) : (cEn l)[k * 4]? = some l[k].1 ∧ (cEn l)[k * 4 + 1]? = some (.bool l[k].2.1) ∧ (cEn l)[k * 4 + 2]? = some l[k].2.2.1 ∧ (cEn l)[k * 4 + 3]? = some l[k].2.2.2 := by
  have e : cEn l = cEn (l.take k) ++ (evC l[k] ++ cEn (l.drop (k + 1))) := by
    rw [show evC l[k] = cEn [l[k]] by simp [cEn], ← cEn_app, ← cEn_app]
    congr 1
    rw [List.singleton_append, ← List.drop_eq_getElem_cons hk, List.take_append_drop]
  have hl : (cEn (l.take k)).length = k * 4 := by rw [cEn_len, List.length_take, Nat.min_eq_left (by omega)]
  rw [e]
  refine ⟨?_, ?_, ?_, ?_⟩
  · rw [List.getElem?_append_right (by omega), hl, Nat.sub_self]; rfl
  · rw [List.getElem?_append_right (by omega), hl, show k * 4 + 1 - k * 4 = 1 by omega]; rfl
  · rw [List.getElem?_append_right (by omega), hl, show k * 4 + 2 - k * 4 = 2 by omega]; rfl
  · rw [List.getElem?_append_right (by omega), hl, show k * 4 + 3 - k * 4 = 3 by omega]; rfl
theorem cEn_take (l : List EV) (n : Nat) : (cEn l).take (n * 4) = cEn (l.take n) := by
  have hl : (cEn (l.take n)).length = min n l.length * 4 := by rw [cEn_len, List.length_take]
  conv => lhs; rw [← List.take_append_drop n l, cEn_app]
  rcases Nat.le_total n l.length with h | h
  · rw [← show (cEn (l.take n)).length = n * 4 by rw [hl, Nat.min_eq_left h], List.take_left]
  · rw [List.drop_of_length_le h]
    have : (cEn ([] : List EV)) = [] := rfl
    rw [this, List.append_nil, List.take_of_length_le (by rw [hl]; rw [Nat.min_eq_right h]; omega)]
/-- an entry: rows of its own -/
structure EntSt (eB : Nat) (w : World) (e : EV) (x : Ent) : Prop where
  ops : w.ownsRow eB 125 4 e.1 x.ops.length (cO x.ops)
  im : e.2.1 = x.im
  cuts : w.ownsRow eB 9 1 e.2.2.1 x.cuts.length (cS x.cuts)
  own : w.ownsRow eB 3 1 e.2.2.2 x.own.length (cI x.own)
theorem EntSt.ext {w w' : World} {e : EV} {x : Ent} (h : EntSt eB w e x) (E : Ext w w') : EntSt eB w' e x := ⟨own_ext h.ops E, h.im, own_ext h.cuts E, own_ext h.own E⟩
theorem EntSt.one {w : World} {e : EV} {x : Ent} (h : EntSt eB w e x) : ∀ u ∈ evC e, u.oneCell' = true := by
  obtain ⟨a1, c1, h1⟩ := own_form h.ops
  obtain ⟨a2, c2, h2⟩ := own_form h.cuts
  obtain ⟨a3, c3, h3⟩ := own_form h.own
  intro u hu
  simp only [evC, List.mem_cons, List.not_mem_nil, or_false, h1, h2, h3] at hu
  rcases hu with rfl | rfl | rfl | rfl <;> rfl
/-- entries: each its own rows -/
def EntsSt (eB : Nat) (w : World) (es : List EV) (X : List Ent) : Prop := es.length = X.length ∧ ∀ (j : Nat) (e : EV) (x : Ent), es[j]? = some e → X[j]? = some x → EntSt eB w e x
theorem EntsSt.ext {w w' : World} {es : List EV} {X : List Ent} (h : EntsSt eB w es X) (E : Ext w w') : EntsSt eB w' es X := ⟨h.1, fun j e x a b => (h.2 j e x a b).ext E⟩
theorem EntsSt.nil (w : World) : EntsSt eB w [] [] := ⟨rfl, fun j e x h => by simp at h⟩
theorem EntsSt.snoc {w : World} {es : List EV} {X : List Ent} (h : EntsSt eB w es X) {e : EV} {x : Ent} (he : EntSt eB w e x) : EntsSt eB w (es ++ [e]) (X ++ [x]) := by
  have hl := h.1
  refine ⟨by simp [hl], fun j e' x' a b => ?_⟩
  rcases Nat.lt_or_ge j es.length with hj | hj
  · rw [List.getElem?_append_left hj] at a
    rw [List.getElem?_append_left (by omega)] at b
    exact h.2 j e' x' a b
  · rw [List.getElem?_append_right hj] at a
    rw [List.getElem?_append_right (by omega)] at b
    have : j - es.length = 0 := by
      have := (List.getElem?_eq_some_iff.1 a).1; simp at this; omega
    rw [this] at a; rw [← hl, this] at b
    simp at a b; subst a; subst b
    exact he
theorem EntsSt.take {w : World} {es : List EV} {X : List Ent} (h : EntsSt eB w es X) (n : Nat) : EntsSt eB w (es.take n) (X.take n) := ⟨by simp [h.1], fun j e x a b => by
  rcases Nat.lt_or_ge j n with hj | hj
  · rw [List.getElem?_take_of_lt hj] at a b
    exact h.2 j e x a b
  · rw [List.getElem?_eq_none (by rw [List.length_take]; omega)] at a; cases a⟩
theorem EntsSt.one {w : World} {es : List EV} {X : List Ent} (h : EntsSt eB w es X) : ∀ u ∈ cEn es, u.oneCell' = true := by
  intro u hu
  obtain ⟨e, he, hu⟩ := List.mem_flatMap.1 hu
  obtain ⟨j, hj, rfl⟩ := List.mem_iff_getElem.1 he
  exact (h.2 j _ (X[j]'(by have := h.1; omega)) (List.getElem?_eq_getElem hj) (List.getElem?_eq_getElem _)).one u hu
theorem EntSt.low {B : Nat} {w : World} {e : EV} {x : Ent} (h : EntSt B w e x) (hb : eB ≤ B) : EntSt eB w e x := ⟨own_base h.ops hb, h.im, own_base h.cuts hb, own_base h.own hb⟩
theorem EntsSt.low {B : Nat} {w : World} {es : List EV} {X : List Ent} (h : EntsSt B w es X) (hb : eB ≤ B) : EntsSt eB w es X := ⟨h.1, fun j e x a b => (h.2 j e x a b).low hb⟩
/-- the types of what a merge turns -/
def mTy : List Nat := [154, 152, 26, 42]
theorem op_mTy : 125 ∉ mTy ∧ 9 ∉ mTy ∧ 3 ∉ mTy := by decide
theorem EntSt.kp {S S' : Nat → Prop} {w w' : World} (ty : TyS w S mTy) (k : Kp S w w' S') {e : EV} {x : Ent} (h : EntSt eB w e x) : EntSt eB w' e x :=
  ⟨k.own h.ops (ty.off h.ops op_mTy.1), h.im, k.own h.cuts (ty.off h.cuts op_mTy.2.1), k.own h.own (ty.off h.own op_mTy.2.2)⟩
theorem EntsSt.kp {S S' : Nat → Prop} {w w' : World} (ty : TyS w S mTy) (k : Kp S w w' S') {es : List EV} {X : List Ent} (h : EntsSt eB w es X) : EntsSt eB w' es X := ⟨h.1, fun j e x a b => (h.2 j e x a b).kp ty k⟩
/-- v's block is of S -/
def InS (S : Nat → Prop) (v : Value) : Prop := ∀ k, v.ownBlock = some k → S k
def Apart (u v : Value) : Prop := ∀ k, u.ownBlock = some k → v.ownBlock ≠ some k
theorem apart_nil (v : Value) : Apart (.slice none 0 0) v := fun k h => by cases h
theorem apart_nil' (v : Value) : Apart v (.slice none 0 0) := fun k _ h => by cases h
/-- a batch: entries of one's own -/
def BatSt (eB : Nat) (w : World) (S : Nat → Prop) (v : Value) (X : Bat) : Prop := ∃ es, EntsSt eB w es X ∧ w.ownsRow 0 42 4 v X.length (cEn es) ∧ InS S v
theorem BatSt.ext {w w' : World} {S : Nat → Prop} {v : Value} {X : Bat} (h : BatSt eB w S v X) (E : Ext w w') : BatSt eB w' S v X := by
  obtain ⟨es, a, b, c⟩ := h
  exact ⟨es, a.ext E, own_ext b E, c⟩
theorem BatSt.nil (w : World) (S : Nat → Prop) : BatSt eB w S (.slice none 0 0) [] := ⟨[], EntsSt.nil w, World.ownsRow_nil _ _ _ _, fun k h => by cases h⟩
/-- closed batches, each apart from what F asks -/
def ClsSt (eB : Nat) (w : World) (S : Nat → Prop) (F : Value → Prop) (v : Value) (bs : List Bat) : Prop :=
  ∃ us, us.length = bs.length ∧ w.ownsRow 0 26 1 v bs.length us ∧ InS S v ∧ ∀ (j : Nat) (u : Value) (b : Bat), us[j]? = some u → bs[j]? = some b → BatSt eB w S u b ∧ F u
theorem ClsSt.ext {w w' : World} {S : Nat → Prop} {F : Value → Prop} {v : Value} {bs : List Bat} (h : ClsSt eB w S F v bs) (E : Ext w w') : ClsSt eB w' S F v bs := by
  obtain ⟨us, a, b, c, d⟩ := h
  exact ⟨us, a, own_ext b E, c, fun j u x p q => ⟨(d j u x p q).1.ext E, (d j u x p q).2⟩⟩
theorem ClsSt.nil (w : World) (S : Nat → Prop) (F : Value → Prop) : ClsSt eB w S F (.slice none 0 0) [] := ⟨[], rfl, World.ownsRow_nil _ _ _ _, fun k h => (by cases h), fun j u b h => by simp at h⟩
def rowV (n : Nat) (v : Nat → Value) : List Value := (List.range n).map v
theorem rowV_len (n : Nat) (v : Nat → Value) : (rowV n v).length = n := by simp [rowV]
theorem rowV_at {n i : Nat} (v : Nat → Value) (h : i < n) : (rowV n v)[i]? = some (v i) := by simp [rowV, h]
theorem rowV_set {n i : Nat} (v : Nat → Value) (u : Value) : (rowV n v).set i u = rowV n (fun j => if j = i then u else v j) := by
  apply List.ext_getElem?
  intro j
  by_cases hj : j < n
  · by_cases e : j = i
    · subst e; rw [List.getElem?_set_self (by rw [rowV_len]; exact hj), rowV_at _ hj]; simp
    · rw [List.getElem?_set_ne (fun h => e h.symm), rowV_at _ hj, rowV_at _ hj, if_neg e]
  · rw [List.getElem?_eq_none (by rw [List.length_set, rowV_len]; omega), List.getElem?_eq_none (by rw [rowV_len]; omega)]
structure MergeG (eB : Nat) (w : World) (S : Nat → Prop) (bm bc bo : Nat) (vc vo : Nat → Value) (cl : List (List Bat)) (op : List Bat) : Prop where
  n0 : 0 < cl.length
  n4 : cl.length ≤ 4
  ln : op.length = cl.length
  ty : TyS w S mTy
  sm : S bm
  sc : S bc
  so : S bo
  box : w.heap[bm]? = some (.cells #[.slice (some ⟨bc, 0, none⟩) cl.length cl.length, .slice (some ⟨bo, 0, none⟩) cl.length cl.length] 154 (0, 0))
  crow : w.heap[bc]? = some (.cells (rowV cl.length vc).toArray 152 (0, 0))
  orow : w.heap[bo]? = some (.cells (rowV cl.length vo).toArray 26 (0, 0))
  cls : ∀ i, i < cl.length → ClsSt eB w S (fun u => ∀ i', i' < cl.length → Apart u (vo i')) (vc i) (cl.getD i [])
  opn : ∀ i, i < cl.length → BatSt eB w S (vo i) (op.getD i [])
  clz : ∀ i i', i < cl.length → i' < cl.length → i ≠ i' → Apart (vc i) (vc i')
  cbo : ∀ i, i < cl.length → (vc i).ownBlock ≠ some bo
  opz : ∀ i i', i < cl.length → i' < cl.length → i ≠ i' → Apart (vo i) (vo i')
  bs : eB ≤ w.heap.size
def MergeSt (eB : Nat) (w : World) (S : Nat → Prop) (bm : Nat) (cl : List (List Bat)) (op : List Bat) : Prop := ∃ bc bo vc vo, MergeG eB w S bm bc bo vc vo cl op
theorem MergeG.ext {w w' : World} {S : Nat → Prop} {bm bc bo : Nat} {vc vo : Nat → Value} {cl : List (List Bat)} {op : List Bat} (h : MergeG eB w S bm bc bo vc vo cl op) (E : Ext w w') : MergeG eB w' S bm bc bo vc vo cl op where
  n0 := h.n0
  n4 := h.n4
  ln := h.ln
  ty := h.ty.ext E
  sm := h.sm
  sc := h.sc
  so := h.so
  box := E.heap h.box
  crow := E.heap h.crow
  orow := E.heap h.orow
  cls := fun i hi => (h.cls i hi).ext E
  opn := fun i hi => (h.opn i hi).ext E
  clz := h.clz
  cbo := h.cbo
  opz := h.opz
  bs := Nat.le_trans h.bs E.size'
theorem MergeSt.ext {w w' : World} {S : Nat → Prop} {bm : Nat} {cl : List (List Bat)} {op : List Bat} (h : MergeSt eB w S bm cl op) (E : Ext w w') : MergeSt eB w' S bm cl op := by
  obtain ⟨bc, bo, vc, vo, h⟩ := h
  exact ⟨bc, bo, vc, vo, h.ext E⟩
theorem MergeSt.bs {w : World} {S : Nat → Prop} {bm : Nat} {cl : List (List Bat)} {op : List Bat} (h : MergeSt eB w S bm cl op) : eB ≤ w.heap.size := by
  obtain ⟨bc, bo, vc, vo, h⟩ := h
  exact h.bs
theorem MergeSt.ty {w : World} {S : Nat → Prop} {bm : Nat} {cl : List (List Bat)} {op : List Bat} (h : MergeSt eB w S bm cl op) : TyS w S mTy := by
  obtain ⟨bc, bo, vc, vo, h⟩ := h
  exact h.ty
theorem MergeG.cells {w : World} {S : Nat → Prop} {bm bc bo : Nat} {vc vo : Nat → Value} {cl : List (List Bat)} {op : List Bat} (h : MergeG eB w S bm bc bo vc vo cl op) :
    w.cell? ⟨bm, 0, none⟩ = some (.slice (some ⟨bc, 0, none⟩) cl.length cl.length) ∧ w.cell? ⟨bm, 1, none⟩ = some (.slice (some ⟨bo, 0, none⟩) cl.length cl.length) := by
  have hb := h.box
  simp [World.cell?, hb]
theorem MergeG.cellC {w : World} {S : Nat → Prop} {bm bc bo : Nat} {vc vo : Nat → Value} {cl : List (List Bat)} {op : List Bat} (h : MergeG eB w S bm bc bo vc vo cl op) {i : Nat} (hi : i < cl.length) :
    w.cell? ⟨bc, i, none⟩ = some (vc i) ∧ w.frozen? ⟨bc, i, none⟩ = false := by
  have hb := h.crow
  refine ⟨cells_of hb i (vc i) (rowV_at vc hi), ?_⟩
  simp [World.frozen?, hb]
theorem MergeG.cellO {w : World} {S : Nat → Prop} {bm bc bo : Nat} {vc vo : Nat → Value} {cl : List (List Bat)} {op : List Bat} (h : MergeG eB w S bm bc bo vc vo cl op) {i : Nat} (hi : i < cl.length) :
    w.cell? ⟨bo, i, none⟩ = some (vo i) ∧ w.frozen? ⟨bo, i, none⟩ = false := by
  have hb := h.orow
  refine ⟨cells_of hb i (vo i) (rowV_at vo hi), ?_⟩
  simp [World.frozen?, hb]
theorem infoEn : (Tryz.prog.info? 42).map (fun i => (i.zero, i.size, i.bytes)) = some (some (.agg #[.slice none 0 0, .bool false, .slice none 0 0, .slice none 0 0]), 4, 80) := by kernel_rfl
theorem infoEs : (Tryz.prog.info? 26).map (fun i => (i.zero, i.size, i.bytes)) = some (some (.slice none 0 0), 1, 24) := by kernel_rfl
theorem infoEss : (Tryz.prog.info? 152).map (fun i => (i.zero, i.size, i.bytes)) = some (some (.slice none 0 0), 1, 24) := by kernel_rfl
end Go.Proofs.YtddghaoejnbkaaaGreatDoor

/- Contracts and lemmas for the proofs of this seat; each theorem states its own conditions. -/
namespace Go.Proofs.YtddghaoejnbkaaaGreatDoor
open Go.RowKit
variable {eB : Nat}
/-! merge.Copied, merge.plain -/
structure EntSeg (w : World) (e : EV) (x : Ent) : Prop where
  ops : Seg w e.1 4 x.ops.length (cO x.ops)
  im : e.2.1 = x.im
  cuts : Seg w e.2.2.1 1 x.cuts.length (cS x.cuts)
  own : Seg w e.2.2.2 1 x.own.length (cI x.own)
theorem EntSt.seg {w : World} {e : EV} {x : Ent} (h : EntSt eB w e x) : EntSeg w e x := ⟨own_seg h.ops, h.im, own_seg h.cuts, own_seg h.own⟩
theorem EntSeg.ext {w w' : World} {e : EV} {x : Ent} (h : EntSeg w e x) (E : Ext w w') : EntSeg w' e x := ⟨h.ops.ext E, h.im, h.cuts.ext E, h.own.ext E⟩
/-- an entry that is not too long -/
structure EntSm (x : Ent) : Prop where
  ops : x.ops.length ≤ 100
  cuts : x.cuts.length ≤ 100
  own : x.own.length ≤ 100
theorem blk4_set0 {w : World} {b : Nat} {x y z u : Value} {t : TypeId} (h : w.heap[b]? = some (.cells #[x, y, z, u] t (0, 0))) (x' : Value) :
    (w.setCell ⟨b, 0, none⟩ x').heap[b]? = some (.cells #[x', y, z, u] t (0, 0)) := by
  simp [World.setCell, Array.getElem?_modify, h]
theorem blk4_setA {w : World} {b : Nat} {x y z u : Value} {t : TypeId} (h : w.heap[b]? = some (.cells #[x, y, z, u] t (0, 0))) (x' y' z' u' : Value) :
    ((((w.setCell ⟨b, 0, none⟩ x').setCell ⟨b, 1, none⟩ y').setCell ⟨b, 2, none⟩ z').setCell ⟨b, 3, none⟩ u').heap[b]? = some (.cells #[x', y', z', u'] t (0, 0)) := by
  simp [World.setCell, Array.getElem?_modify, h]
theorem own_set4 {w : World} {B e sz n : Nat} {v : Value} {xs : List Value} (h : w.ownsRow B e sz v n xs) {p : Nat} (hp : p < B) (x y z u : Value) :
    ((((w.setCell ⟨p, 0, none⟩ x).setCell ⟨p, 1, none⟩ y).setCell ⟨p, 2, none⟩ z).setCell ⟨p, 3, none⟩ u).ownsRow B e sz v n xs :=
  own_set_far (own_set_far (own_set_far (own_set_far h hp) hp) hp) hp
theorem ent_set4 {w : World} {B e e' sz n p : Nat} {v : Value} {xs : List Value} {cs : Array Value} {fr : Nat × Nat} (h : w.ownsRow B e sz v n xs) (hb : w.heap[p]? = some (.cells cs e' fr)) (he : e ≠ e') (x y z u : Value) :
    ((((w.setCell ⟨p, 0, none⟩ x).setCell ⟨p, 1, none⟩ y).setCell ⟨p, 2, none⟩ z).setCell ⟨p, 3, none⟩ u).ownsRow B e sz v n xs := by
  have hne := own_ne h hb he
  exact own_set_other (own_set_other (own_set_other (own_set_other h hne x) hne y) hne z) hne u
theorem ext_set4 {w0 w : World} (E : Ext w0 w) {p : Nat} (hp : w0.heap.size ≤ p) (x y z u : Value) :
    Ext w0 ((((w.setCell ⟨p, 0, none⟩ x).setCell ⟨p, 1, none⟩ y).setCell ⟨p, 2, none⟩ z).setCell ⟨p, 3, none⟩ u) :=
  (((E.setCell hp _).setCell hp _).setCell hp _).setCell hp _
theorem blk4_set23 {w : World} {b : Nat} {x y z u : Value} {t : TypeId} (h : w.heap[b]? = some (.cells #[x, y, z, u] t (0, 0))) (z' u' : Value) :
    ((w.setCell ⟨b, 2, none⟩ z').setCell ⟨b, 3, none⟩ u').heap[b]? = some (.cells #[x, y, z', u'] t (0, 0)) := by
  simp [World.setCell, Array.getElem?_modify, h]
set_option maxRecDepth 100000 in
set_option maxHeartbeats 2000000 in
theorem ecopied_fresh (e : EV) (x : Ent) (w : World) (h : EntSeg w e x) (sm : EntSm x) (hB : eB ≤ w.heap.size) :
    Calls Tryz.prog 109 #[evV e] w fun r w' => ∃ e', r = .returned (evV e') ∧ EntSt eB w' e' x ∧ Ext w w' ∧ ∀ k, e'.1.ownBlock = some k → w.heap.size ≤ k := by
  obtain ⟨v1, b, v2, v3⟩ := e
  obtain ⟨h1, hb, h2, h3⟩ := h
  obtain ⟨s1, s2, s3⟩ := sm
  dsimp only at h1 hb h2 h3
  have HB := hid hb
  clear hb
  have b0 := heap_1 w (.cells #[v1, .bool b, v2, v3] 42) (.cells #[.slice none 0 0, .bool false, .slice none 0 0, .slice none 0 0] 42)
  have b1 := heap_2 w (.cells #[v1, .bool b, v2, v3] 42) (.cells #[.slice none 0 0, .bool false, .slice none 0 0, .slice none 0 0] 42)
  have E0 := ((Ext.refl w).alloc (.cells #[v1, .bool b, v2, v3] 42)).alloc (.cells #[.slice none 0 0, .bool false, .slice none 0 0, .slice none 0 0] 42)
  show Calls _ _ #[.agg #[v1, .bool b, v2, v3]] _ _
  go_enter Tryz.func109, Tryz.ntmps109
  go_wp2_with fail
  refine (clone_Op v1 x.ops.length (cO x.ops) _ (h1.ext E0) (cO_one _) (by omega)).mono ?_
  rintro r w1 ⟨a1, c1, rfl, ho1, E1⟩
  replace b0 := E1.heap b0
  replace b1 := E1.heap b1
  obtain ⟨f0, -, f2, f3⟩ := frz4 b0
  have k0 := (blk4 b0).1
  have g0 := blk4_set0 b0 (.slice a1 x.ops.length c1)
  have hs0 := E0.size'
  have hz0 : w.heap.size + 2 ≤ w1.heap.size := by have := E1.size'; simp at this; omega
  have EW : Ext w (w1.setCell ⟨w.heap.size, 0, none⟩ (.slice a1 x.ops.length c1)) := (E0.trans E1).setCell (Nat.le_refl _) _
  have hoW : (w1.setCell ⟨w.heap.size, 0, none⟩ (.slice a1 x.ops.length c1)).ownsRow (w.heap.size + 2) 125 4 (.slice a1 x.ops.length c1) x.ops.length (cO x.ops) := own_base (own_set_far ho1 (by first | (simp; done) | (simp; omega))) (by simp)
  have b1W : (w1.setCell ⟨w.heap.size, 0, none⟩ (.slice a1 x.ops.length c1)).heap[w.heap.size + 1]? = _ := heap_set_far b1 (by simp)
  have hsW : (w1.setCell ⟨w.heap.size, 0, none⟩ (.slice a1 x.ops.length c1)).heap.size = w1.heap.size := by simp
  obtain ⟨W, hW⟩ : ∃ W, w1.setCell ⟨w.heap.size, 0, none⟩ (.slice a1 x.ops.length c1) = W := ⟨_, rfl⟩
  rw [hW] at g0 EW hoW b1W hsW
  have c0 := blk4 g0
  clear b0 b1 ho1 E0 E1 hs0 h1
  go_wp2_with fail
  refine (copied_any (.agg #[v2, v3]) x.cuts x.own _ ⟨v2, v3, rfl, h2.ext EW, h3.ext EW⟩ (by omega) (by omega)).mono ?_
  rintro r w2 ⟨_, rfl, ⟨u2, u3, rfl, ho2, ho3⟩, E2⟩
  obtain ⟨a2, c2, rfl⟩ := own_form ho2
  obtain ⟨a3, c3, rfl⟩ := own_form ho3
  clear f0 k0 c0
  replace g0 := E2.heap g0
  replace b1W := E2.heap b1W
  replace hoW := own_ext hoW E2
  obtain ⟨-, -, f2, f3⟩ := frz4 g0
  have k0 := blk4 g0
  have g1 := blk4_set23 g0 (.slice a2 x.cuts.length c2) (.slice a3 x.own.length c3)
  have b2W : ((w2.setCell ⟨w.heap.size, 2, none⟩ (.slice a2 x.cuts.length c2)).setCell ⟨w.heap.size, 3, none⟩ (.slice a3 x.own.length c3)).heap[w.heap.size + 1]? = _ := heap_set_far (heap_set_far b1W (by simp)) (by simp)
  have o1 := own_set_far (p := ⟨w.heap.size, 3, none⟩) (u := (.slice a3 x.own.length c3)) (own_set_far (p := ⟨w.heap.size, 2, none⟩) (u := (.slice a2 x.cuts.length c2)) hoW (by first | (simp; done) | (simp; omega))) (by first | (simp; done) | (simp; omega))
  have o2 := own_set_far (p := ⟨w.heap.size, 3, none⟩) (u := (.slice a3 x.own.length c3)) (own_set_far (p := ⟨w.heap.size, 2, none⟩) (u := (.slice a2 x.cuts.length c2)) (own_base (B' := w.heap.size + 2) ho2 (by omega)) (by first | (simp; done) | (simp; omega))) (by first | (simp; done) | (simp; omega))
  have o3 := own_set_far (p := ⟨w.heap.size, 3, none⟩) (u := (.slice a3 x.own.length c3)) (own_set_far (p := ⟨w.heap.size, 2, none⟩) (u := (.slice a2 x.cuts.length c2)) (own_base (B' := w.heap.size + 2) ho3 (by omega)) (by first | (simp; done) | (simp; omega))) (by first | (simp; done) | (simp; omega))
  have EX : Ext w ((w2.setCell ⟨w.heap.size, 2, none⟩ (.slice a2 x.cuts.length c2)).setCell ⟨w.heap.size, 3, none⟩ (.slice a3 x.own.length c3)) := ((EW.trans E2).setCell (Nat.le_refl _) _).setCell (Nat.le_refl _) _
  obtain ⟨X, hX⟩ : ∃ X, (w2.setCell ⟨w.heap.size, 2, none⟩ (.slice a2 x.cuts.length c2)).setCell ⟨w.heap.size, 3, none⟩ (.slice a3 x.own.length c3) = X := ⟨_, rfl⟩
  rw [hX] at g1 b2W o1 o2 o3 EX
  have k1 := blk4 g1
  have d1 := blk4 b2W
  obtain ⟨e0, e1, e2, e3⟩ := frz4 b2W
  have b3 := blk4_setA b2W (.slice a1 x.ops.length c1) (.bool b) (.slice a2 x.cuts.length c2) (.slice a3 x.own.length c3)
  have o1' := own_set4 o1 (p := w.heap.size + 1) (by omega) (.slice a1 x.ops.length c1) (.bool b) (.slice a2 x.cuts.length c2) (.slice a3 x.own.length c3)
  have o2' := own_set4 o2 (p := w.heap.size + 1) (by omega) (.slice a1 x.ops.length c1) (.bool b) (.slice a2 x.cuts.length c2) (.slice a3 x.own.length c3)
  have o3' := own_set4 o3 (p := w.heap.size + 1) (by omega) (.slice a1 x.ops.length c1) (.bool b) (.slice a2 x.cuts.length c2) (.slice a3 x.own.length c3)
  clear g0 b1W hoW ho2 ho3 EW E2 h2 h3 hsW
  go_wp2
  have r4 := blk4 b3
  refine bodyPost_ret (v := .agg #[.slice a1 x.ops.length c1, .bool b, .slice a2 x.cuts.length c2, .slice a3 x.own.length c3]) (by simp [results, Tryz.results109, go_sem, r4.1, r4.2.1, r4.2.2.1, r4.2.2.2]) rfl
    ⟨(.slice a1 x.ops.length c1, b, .slice a2 x.cuts.length c2, .slice a3 x.own.length c3), rfl, ⟨own_base o1' (by omega), HB.out, own_base o2' (by omega), own_base o3' (by omega)⟩, ext_set4 EX (by omega) _ _ _ _, fun k hk => by have := own_ge o1' k hk; omega⟩
theorem ecopied_any (e : EV) (x : Ent) (w : World) (h : EntSeg w e x) (sm : EntSm x) (hB : eB ≤ w.heap.size) :
    Calls Tryz.prog 109 #[evV e] w fun r w' => ∃ e', r = .returned (evV e') ∧ EntSt eB w' e' x ∧ Ext w w' :=
  (ecopied_fresh e x w h sm hB).mono fun r w' ⟨e', h1, h2, h3, _⟩ => ⟨e', h1, h2, h3⟩
/-- what a merge keeps of an entry -/
def plainE (x : Ent) : Ent := if x.im = true then ⟨[], true, x.cuts, x.own⟩ else ⟨x.ops, false, [], []⟩
set_option maxRecDepth 100000 in
set_option maxHeartbeats 2000000 in
theorem eplain_any (e : EV) (x : Ent) (w : World) (h : EntSeg w e x) (sm : EntSm x) (hB : eB ≤ w.heap.size) :
    Calls Tryz.prog 98 #[evV e] w fun r w' => ∃ e', r = .returned (evV e') ∧ EntSt eB w' e' (plainE x) ∧ Ext w w' := by
  obtain ⟨v1, b, v2, v3⟩ := e
  obtain ⟨h1, hb, h2, h3⟩ := h
  dsimp only at h1 hb h2 h3
  have b0 := heap_1 w (.cells #[v1, .bool b, v2, v3] 42) (.cells #[.slice none 0 0, .bool false, .slice none 0 0, .slice none 0 0] 42)
  have b1 := heap_2 w (.cells #[v1, .bool b, v2, v3] 42) (.cells #[.slice none 0 0, .bool false, .slice none 0 0, .slice none 0 0] 42)
  have E0 := ((Ext.refl w).alloc (.cells #[v1, .bool b, v2, v3] 42)).alloc (.cells #[.slice none 0 0, .bool false, .slice none 0 0, .slice none 0 0] 42)
  have k0 := blk4 b0
  have H : EntSeg ((w.alloc (.cells #[v1, .bool b, v2, v3] 42)).alloc (.cells #[.slice none 0 0, .bool false, .slice none 0 0, .slice none 0 0] 42)) (if x.im = true then (.slice none 0 0, true, v2, v3) else (v1, false, .slice none 0 0, .slice none 0 0)) (plainE x) := by
    unfold plainE
    split
    · exact ⟨Seg.nil _ _, rfl, h2.ext E0, h3.ext E0⟩
    · exact ⟨h1.ext E0, rfl, Seg.nil _ _, Seg.nil _ _⟩
  have sm' : EntSm (plainE x) := by
    unfold plainE
    split
    · exact ⟨by simp, sm.cuts, sm.own⟩
    · exact ⟨sm.ops, by simp, by simp⟩
  have C := ecopied_any (eB := eB) _ _ _ H sm' (Nat.le_trans hB E0.size')
  generalize plainE x = y at C ⊢
  rw [← hb] at C
  have C := hid C
  clear H hb h1 h2 h3 sm sm'
  show Calls _ _ #[.agg #[v1, .bool b, v2, v3]] _ _
  cases b with
  | true =>
    go_enter Tryz.func98, Tryz.ntmps98
    go_wp2_with fail
    refine (C.out).mono ?_
    rintro r w1 ⟨⟨a1, b1', a2, a3⟩, rfl, hE, E1⟩
    replace b1 := E1.heap b1
    obtain ⟨u1, u2, u3, u4⟩ := blk4 b1
    obtain ⟨e0, e1, e2, e3⟩ := frz4 b1
    obtain ⟨p1, q1, rfl⟩ := own_form hE.ops
    obtain ⟨p2, q2, rfl⟩ := own_form hE.cuts
    obtain ⟨p3, q3, rfl⟩ := own_form hE.own
    simp only [evV]
    go_wp2
    have hz : w.heap.size + 1 < w1.heap.size := (Array.getElem?_eq_some_iff.1 b1).1
    have b3 := blk4_setA b1 (.slice p1 y.ops.length q1) (.bool b1') (.slice p2 y.cuts.length q2) (.slice p3 y.own.length q3)
    have r4 := blk4 b3
    have hty : ∀ {B0 : Nat} {e : TypeId} {sz n : Nat} {v : Value} {xs : List Value}, w1.ownsRow B0 e sz v n xs → e ≠ 42 → ((((w1.setCell ⟨w.heap.size + 1, 0, none⟩ (.slice p1 y.ops.length q1)).setCell ⟨w.heap.size + 1, 1, none⟩ (.bool b1')).setCell ⟨w.heap.size + 1, 2, none⟩ (.slice p2 y.cuts.length q2)).setCell ⟨w.heap.size + 1, 3, none⟩ (.slice p3 y.own.length q3)).ownsRow B0 e sz v n xs := fun h he => ent_set4 h b1 he _ _ _ _
    refine bodyPost_ret (v := .agg #[(.slice p1 y.ops.length q1), (.bool b1'), (.slice p2 y.cuts.length q2), (.slice p3 y.own.length q3)]) (by simp [results, Tryz.results98, go_sem, r4.1, r4.2.1, r4.2.2.1, r4.2.2.2]) rfl
      ⟨(_, b1', _, _), rfl, ⟨hty hE.ops (by decide), hE.im, hty hE.cuts (by decide), hty hE.own (by decide)⟩, ext_set4 (E0.trans E1) (by omega) _ _ _ _⟩
  | false =>
    go_enter Tryz.func98, Tryz.ntmps98
    go_wp2_with fail
    refine (C.out).mono ?_
    rintro r w1 ⟨⟨a1, b1', a2, a3⟩, rfl, hE, E1⟩
    replace b1 := E1.heap b1
    obtain ⟨u1, u2, u3, u4⟩ := blk4 b1
    obtain ⟨e0, e1, e2, e3⟩ := frz4 b1
    obtain ⟨p1, q1, rfl⟩ := own_form hE.ops
    obtain ⟨p2, q2, rfl⟩ := own_form hE.cuts
    obtain ⟨p3, q3, rfl⟩ := own_form hE.own
    simp only [evV]
    go_wp2
    have hz : w.heap.size + 1 < w1.heap.size := (Array.getElem?_eq_some_iff.1 b1).1
    have b3 := blk4_setA b1 (.slice p1 y.ops.length q1) (.bool b1') (.slice p2 y.cuts.length q2) (.slice p3 y.own.length q3)
    have r4 := blk4 b3
    have hty : ∀ {B0 : Nat} {e : TypeId} {sz n : Nat} {v : Value} {xs : List Value}, w1.ownsRow B0 e sz v n xs → e ≠ 42 → ((((w1.setCell ⟨w.heap.size + 1, 0, none⟩ (.slice p1 y.ops.length q1)).setCell ⟨w.heap.size + 1, 1, none⟩ (.bool b1')).setCell ⟨w.heap.size + 1, 2, none⟩ (.slice p2 y.cuts.length q2)).setCell ⟨w.heap.size + 1, 3, none⟩ (.slice p3 y.own.length q3)).ownsRow B0 e sz v n xs := fun h he => ent_set4 h b1 he _ _ _ _
    refine bodyPost_ret (v := .agg #[(.slice p1 y.ops.length q1), (.bool b1'), (.slice p2 y.cuts.length q2), (.slice p3 y.own.length q3)]) (by simp [results, Tryz.results98, go_sem, r4.1, r4.2.1, r4.2.2.1, r4.2.2.2]) rfl
      ⟨(_, b1', _, _), rfl, ⟨hty hE.ops (by decide), hE.im, hty hE.cuts (by decide), hty hE.own (by decide)⟩, ext_set4 (E0.trans E1) (by omega) _ _ _ _⟩
end Go.Proofs.YtddghaoejnbkaaaGreatDoor
