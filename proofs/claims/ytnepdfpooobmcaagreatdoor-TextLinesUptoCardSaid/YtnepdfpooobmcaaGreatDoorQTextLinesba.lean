/- Contracts and lemmas for the proof of TextLines; each theorem states its own conditions. -/
import Derived.Test.YtnepdfpooobmcaaGreatDoorQTextLinesaa
import Derived.Test.YtnepdfpooobmcaaGreatDoorQTextLinesap
import Derived.Test.YtnepdfpooobmcaaGreatDoorProg
import Derived.Test.YtnepdfpooobmcaaGreatDoorQTextLinesab
import Derived.OneCell
set_option linter.unusedVariables false
set_option linter.unusedSimpArgs false
/- Contracts and lemmas for the proofs of this seat; each theorem states its own conditions. -/
namespace Go.Proofs.YtnepdfpooobmcaaGreatDoor
open Go.RowKit
/-! frames of things that turn: only what S names may turn; what it names later is of S, or new -/
def Kp (S : Nat → Prop) (w w' : World) (S' : Nat → Prop) : Prop :=
  (w'.os = w.os ∧ w'.tape = w.tape ∧ w'.output = w.output ∧ w.heap.size ≤ w'.heap.size) ∧
  (∀ i, i < w.heap.size → ¬ S i → w'.heap[i]? = w.heap[i]?) ∧ ∀ i, S' i → S i ∨ w.heap.size ≤ i
theorem Kp.of_ext {S : Nat → Prop} {w w' : World} (E : Ext w w') : Kp S w w' S := ⟨⟨E.os, E.tape, E.output, E.size'⟩, fun i hi _ => Below.block E i hi, fun i h => .inl h⟩
theorem Kp.refl (S : Nat → Prop) (w : World) : Kp S w w S := Kp.of_ext (Ext.refl w)
theorem Kp.size {S S' : Nat → Prop} {w w' : World} (h : Kp S w w' S') : w.heap.size ≤ w'.heap.size := h.1.2.2.2
theorem Kp.out {S S' : Nat → Prop} {w w' : World} (h : Kp S w w' S') {k : Nat} (hk : k < w.heap.size) (hS : ¬ S k) : ¬ S' k := fun q => by
  rcases h.2.2 k q with a | a
  · exact hS a
  · omega
theorem Kp.trans {S S' S'' : Nat → Prop} {a b c : World} (h : Kp S a b S') (k : Kp S' b c S'') : Kp S a c S'' := by
  have ho := fun i => h.out (k := i)
  obtain ⟨⟨h1, h2, h3, h4⟩, h5, h6⟩ := h
  obtain ⟨⟨k1, k2, k3, k4⟩, k5, k6⟩ := k
  refine ⟨⟨k1.trans h1, k2.trans h2, k3.trans h3, Nat.le_trans h4 k4⟩, fun i hi hS => ?_, fun i hi => ?_⟩
  · rw [k5 i (by omega) (ho i hi hS), h5 i hi hS]
  · rcases k6 i hi with q | q
    · exact h6 i q
    · right; omega
theorem Kp.ext {S S' : Nat → Prop} {a b c : World} (h : Kp S a b S') (E : Ext b c) : Kp S a c S' := h.trans (Kp.of_ext E)
theorem Kp.after {S S' : Nat → Prop} {a b c : World} (E : Ext a b) (h : Kp S b c S') : Kp S a c S' := (Kp.of_ext E).trans h
theorem Kp.heap {S S' : Nat → Prop} {w w' : World} (h : Kp S w w' S') {k : Nat} {o : Obj} (hk : w.heap[k]? = some o) (hS : ¬ S k) : w'.heap[k]? = some o := (h.2.1 k (Array.getElem?_eq_some_iff.1 hk).1 hS).trans hk
/-- v lies in none of S -/
def Off (S : Nat → Prop) (v : Value) : Prop := ∀ k, v.ownBlock = some k → ¬ S k
theorem Kp.own {S S' : Nat → Prop} {w w' : World} (h : Kp S w w' S') {B e sz n : Nat} {v : Value} {xs : List Value} (ho : w.ownsRow B e sz v n xs) (hS : Off S v) : w'.ownsRow B e sz v n xs := by
  refine ⟨ho.1, ?_⟩
  rcases ho.2 with hn | ⟨b, cap, cur, rfl, hb, hg, rest⟩
  · exact .inl hn
  · exact .inr ⟨b, cap, cur, rfl, hb, h.heap hg (hS b rfl), rest⟩
theorem Kp.off {S S' : Nat → Prop} {w w' : World} (h : Kp S w w' S') {B e sz n : Nat} {v : Value} {xs : List Value} (ho : w.ownsRow B e sz v n xs) (hS : Off S v) : Off S' v := fun k hk => h.out (ho.lt k hk).2 (hS k hk)
theorem Kp.of_grown {S : Nat → Prop} {w w' : World} {row : Option Nat} (hg : w.grownBy w' row) (hr : ∀ k, row = some k → S k) : Kp S w w' S :=
  ⟨⟨hg.os, hg.tape, hg.output, hg.size⟩, fun i hi hS => hg.block i hi (fun e => hS (hr i e.symm)), fun i h => .inl h⟩
theorem grown_set (w : World) (g i : Nat) (u : Value) : w.grownBy (w.setCell ⟨g, i, none⟩ u) (some g) := ⟨rfl, rfl, rfl, by simp [World.setCell], fun j hj hne => by
    have : g ≠ j := fun e => hne (by rw [e])
    simp [World.setCell, Array.getElem?_modify, this]⟩
theorem Kp.put {S S' : Nat → Prop} {w0 w : World} (h : Kp S w0 w S') {b i : Nat} (hS : S' b) (u : Value) : Kp S w0 (w.setCell ⟨b, i, none⟩ u) S' :=
  h.trans (Kp.of_grown (grown_set w b i u) (fun k e => by injection e with e; subst e; exact hS))
/-- what S names has elements of these types -/
def TyS (w : World) (S : Nat → Prop) (T : List Nat) : Prop := ∀ k, S k → ∃ cs e, w.heap[k]? = some (.cells cs e (0, 0)) ∧ e ∈ T
theorem TyS.lt {w : World} {S : Nat → Prop} {T : List Nat} (h : TyS w S T) {k : Nat} (hk : S k) : k < w.heap.size := by
  obtain ⟨_, _, h, _⟩ := h k hk
  exact (Array.getElem?_eq_some_iff.1 h).1
theorem TyS.off {w : World} {S : Nat → Prop} {T : List Nat} (h : TyS w S T) {B e sz n : Nat} {v : Value} {xs : List Value} (ho : w.ownsRow B e sz v n xs) (he : e ∉ T) : Off S v := fun k hk hS => by
  obtain ⟨cs, e', hg, hm⟩ := h k hS
  exact own_ne ho hg (fun q => he (q ▸ hm)) hk
theorem TyS.ext {w w' : World} {S : Nat → Prop} {T : List Nat} (h : TyS w S T) (E : Ext w w') : TyS w' S T := fun k hk => by
  obtain ⟨cs, e, hg, hm⟩ := h k hk
  exact ⟨cs, e, E.heap hg, hm⟩
end Go.Proofs.YtnepdfpooobmcaaGreatDoor

/- Contracts and lemmas for the proofs of this seat; each theorem states its own conditions. -/
namespace Go.Proofs.YtnepdfpooobmcaaGreatDoor
/-! merge of inputs, in plain lists -/
structure Ent where
  ops : Ops
  im : Bool
  cuts : List ByteArray
  own : List Int
abbrev Bat := List Ent
end Go.Proofs.YtnepdfpooobmcaaGreatDoor

/- Contracts and lemmas for the proofs of this seat; each theorem states its own conditions. -/
namespace Go.Proofs.YtnepdfpooobmcaaGreatDoor
open Go.RowKit
variable {eB : Nat}
/-! entries, and a merge of inputs, in memory -/
/-- an entry's cells: operations, whether a map, cuts, owners -/
abbrev EV := Value × Bool × Value × Value
def evC (e : EV) : List Value := [e.1, .bool e.2.1, e.2.2.1, e.2.2.2]
def evV (e : EV) : Value := .agg #[e.1, .bool e.2.1, e.2.2.1, e.2.2.2]
def cEn (l : List EV) : List Value := l.flatMap evC
theorem cEn_len (l : List EV) : (cEn l).length = l.length * 4 := by
  induction l with
  | nil => rfl
  | cons e l ih => rw [cEn, List.flatMap_cons, List.length_append]; show 4 + (cEn l).length = _; rw [ih, List.length_cons]; omega
theorem cEn_app (a b : List EV) : cEn (a ++ b) = cEn a ++ cEn b := by simp [cEn]
theorem cEn_at (l : List EV) {k : Nat} (hk : k < l.length) : (cEn l)[k * 4]? = some l[k].1 ∧ (cEn l)[k * 4 + 1]? = some (.bool l[k].2.1) ∧ (cEn l)[k * 4 + 2]? = some l[k].2.2.1 ∧ (cEn l)[k * 4 + 3]? = some l[k].2.2.2 := by
  have e : cEn l = cEn (l.take k) ++ (evC l[k] ++ cEn (l.drop (k + 1))) := by
    rw [show evC l[k] = cEn [l[k]] by simp [cEn], ← cEn_app, ← cEn_app]
    congr 1
    rw [List.singleton_append, ← List.drop_eq_getElem_cons hk, List.take_append_drop]
  have hl : (cEn (l.take k)).length = k * 4 := by rw [cEn_len, List.length_take, Nat.min_eq_left (by omega)]
  rw [e]
  refine ⟨?_, ?_, ?_, ?_⟩
  · rw [List.getElem?_append_right (by omega), hl, Nat.sub_self]; rfl
  · rw [List.getElem?_append_right (by omega), hl, show k * 4 + 1 - k * 4 = 1 by omega]; rfl
  · rw [List.getElem?_append_right (by omega), hl, show k * 4 + 2 - k * 4 = 2 by omega]; rfl
  · rw [List.getElem?_append_right (by omega), hl, show k * 4 + 3 - k * 4 = 3 by omega]; rfl
/-- an entry: rows of its own -/
structure EntSt (eB : Nat) (w : World) (e : EV) (x : Ent) : Prop where
  ops : w.ownsRow eB 93 4 e.1 x.ops.length (cO x.ops)
  im : e.2.1 = x.im
  cuts : w.ownsRow eB 9 1 e.2.2.1 x.cuts.length (cS x.cuts)
  own : w.ownsRow eB 3 1 e.2.2.2 x.own.length (cI x.own)
theorem EntSt.ext {w w' : World} {e : EV} {x : Ent} (h : EntSt eB w e x) (E : Ext w w') : EntSt eB w' e x := ⟨own_ext h.ops E, h.im, own_ext h.cuts E, own_ext h.own E⟩
theorem EntSt.one {w : World} {e : EV} {x : Ent} (h : EntSt eB w e x) : ∀ u ∈ evC e, u.oneCell' = true := by
  obtain ⟨a1, c1, h1⟩ := own_form h.ops
  obtain ⟨a2, c2, h2⟩ := own_form h.cuts
  obtain ⟨a3, c3, h3⟩ := own_form h.own
  intro u hu
  simp only [evC, List.mem_cons, List.not_mem_nil, or_false, h1, h2, h3] at hu
  rcases hu with rfl | rfl | rfl | rfl <;> rfl
/-- entries: each its own rows -/
def EntsSt (eB : Nat) (w : World) (es : List EV) (X : List Ent) : Prop := es.length = X.length ∧ ∀ (j : Nat) (e : EV) (x : Ent), es[j]? = some e → X[j]? = some x → EntSt eB w e x
theorem EntsSt.ext {w w' : World} {es : List EV} {X : List Ent} (h : EntsSt eB w es X) (E : Ext w w') : EntsSt eB w' es X := ⟨h.1, fun j e x a b => (h.2 j e x a b).ext E⟩
theorem EntsSt.nil (w : World) : EntsSt eB w [] [] := ⟨rfl, fun j e x h => by simp at h⟩
theorem EntsSt.snoc {w : World} {es : List EV} {X : List Ent} (h : EntsSt eB w es X) {e : EV} {x : Ent} (he : EntSt eB w e x) : EntsSt eB w (es ++ [e]) (X ++ [x]) := by
  have hl := h.1
  refine ⟨by simp [hl], fun j e' x' a b => ?_⟩
  rcases Nat.lt_or_ge j es.length with hj | hj
  · rw [List.getElem?_append_left hj] at a
    rw [List.getElem?_append_left (by omega)] at b
    exact h.2 j e' x' a b
  · rw [List.getElem?_append_right hj] at a
    rw [List.getElem?_append_right (by omega)] at b
    have : j - es.length = 0 := by
      have := (List.getElem?_eq_some_iff.1 a).1; simp at this; omega
    rw [this] at a; rw [← hl, this] at b
    simp at a b; subst a; subst b
    exact he
theorem EntsSt.take {w : World} {es : List EV} {X : List Ent} (h : EntsSt eB w es X) (n : Nat) : EntsSt eB w (es.take n) (X.take n) := ⟨by simp [h.1], fun j e x a b => by
  rcases Nat.lt_or_ge j n with hj | hj
  · rw [List.getElem?_take_of_lt hj] at a b
    exact h.2 j e x a b
  · rw [List.getElem?_eq_none (by rw [List.length_take]; omega)] at a; cases a⟩
theorem EntsSt.one {w : World} {es : List EV} {X : List Ent} (h : EntsSt eB w es X) : ∀ u ∈ cEn es, u.oneCell' = true := by
  intro u hu
  obtain ⟨e, he, hu⟩ := List.mem_flatMap.1 hu
  obtain ⟨j, hj, rfl⟩ := List.mem_iff_getElem.1 he
  exact (h.2 j _ (X[j]'(by have := h.1; omega)) (List.getElem?_eq_getElem hj) (List.getElem?_eq_getElem _)).one u hu
/-- the types of what a merge turns -/
def mTy : List Nat := [193, 191, 49, 45]
/-- v's block is of S -/
def InS (S : Nat → Prop) (v : Value) : Prop := ∀ k, v.ownBlock = some k → S k
def Apart (u v : Value) : Prop := ∀ k, u.ownBlock = some k → v.ownBlock ≠ some k
/-- a batch: entries of one's own -/
def BatSt (eB : Nat) (w : World) (S : Nat → Prop) (v : Value) (X : Bat) : Prop := ∃ es, EntsSt eB w es X ∧ w.ownsRow 0 45 4 v X.length (cEn es) ∧ InS S v
theorem BatSt.ext {w w' : World} {S : Nat → Prop} {v : Value} {X : Bat} (h : BatSt eB w S v X) (E : Ext w w') : BatSt eB w' S v X := by
  obtain ⟨es, a, b, c⟩ := h
  exact ⟨es, a.ext E, own_ext b E, c⟩
theorem BatSt.nil (w : World) (S : Nat → Prop) : BatSt eB w S (.slice none 0 0) [] := ⟨[], EntsSt.nil w, World.ownsRow_nil _ _ _ _, fun k h => by cases h⟩
/-- closed batches, each apart from what F asks -/
def ClsSt (eB : Nat) (w : World) (S : Nat → Prop) (F : Value → Prop) (v : Value) (bs : List Bat) : Prop :=
  ∃ us, us.length = bs.length ∧ w.ownsRow 0 49 1 v bs.length us ∧ InS S v ∧ ∀ (j : Nat) (u : Value) (b : Bat), us[j]? = some u → bs[j]? = some b → BatSt eB w S u b ∧ F u
theorem ClsSt.ext {w w' : World} {S : Nat → Prop} {F : Value → Prop} {v : Value} {bs : List Bat} (h : ClsSt eB w S F v bs) (E : Ext w w') : ClsSt eB w' S F v bs := by
  obtain ⟨us, a, b, c, d⟩ := h
  exact ⟨us, a, own_ext b E, c, fun j u x p q => ⟨(d j u x p q).1.ext E, (d j u x p q).2⟩⟩
theorem ClsSt.nil (w : World) (S : Nat → Prop) (F : Value → Prop) : ClsSt eB w S F (.slice none 0 0) [] := ⟨[], rfl, World.ownsRow_nil _ _ _ _, fun k h => (by cases h), fun j u b h => by simp at h⟩
def rowV (n : Nat) (v : Nat → Value) : List Value := (List.range n).map v
structure MergeG (eB : Nat) (w : World) (S : Nat → Prop) (bm bc bo : Nat) (vc vo : Nat → Value) (cl : List (List Bat)) (op : List Bat) : Prop where
  n0 : 0 < cl.length
  n4 : cl.length ≤ 4
  ln : op.length = cl.length
  ty : TyS w S mTy
  sm : S bm
  sc : S bc
  so : S bo
  box : w.heap[bm]? = some (.cells #[.slice (some ⟨bc, 0, none⟩) cl.length cl.length, .slice (some ⟨bo, 0, none⟩) cl.length cl.length] 193 (0, 0))
  crow : w.heap[bc]? = some (.cells (rowV cl.length vc).toArray 191 (0, 0))
  orow : w.heap[bo]? = some (.cells (rowV cl.length vo).toArray 49 (0, 0))
  cls : ∀ i, i < cl.length → ClsSt eB w S (fun u => ∀ i', i' < cl.length → Apart u (vo i')) (vc i) (cl.getD i [])
  opn : ∀ i, i < cl.length → BatSt eB w S (vo i) (op.getD i [])
  clz : ∀ i i', i < cl.length → i' < cl.length → i ≠ i' → Apart (vc i) (vc i')
  cbo : ∀ i, i < cl.length → (vc i).ownBlock ≠ some bo
  opz : ∀ i i', i < cl.length → i' < cl.length → i ≠ i' → Apart (vo i) (vo i')
  bs : eB ≤ w.heap.size
def MergeSt (eB : Nat) (w : World) (S : Nat → Prop) (bm : Nat) (cl : List (List Bat)) (op : List Bat) : Prop := ∃ bc bo vc vo, MergeG eB w S bm bc bo vc vo cl op
theorem MergeG.ext {w w' : World} {S : Nat → Prop} {bm bc bo : Nat} {vc vo : Nat → Value} {cl : List (List Bat)} {op : List Bat} (h : MergeG eB w S bm bc bo vc vo cl op) (E : Ext w w') : MergeG eB w' S bm bc bo vc vo cl op where
  n0 := h.n0
  n4 := h.n4
  ln := h.ln
  ty := h.ty.ext E
  sm := h.sm
  sc := h.sc
  so := h.so
  box := E.heap h.box
  crow := E.heap h.crow
  orow := E.heap h.orow
  cls := fun i hi => (h.cls i hi).ext E
  opn := fun i hi => (h.opn i hi).ext E
  clz := h.clz
  cbo := h.cbo
  opz := h.opz
  bs := Nat.le_trans h.bs E.size'
theorem MergeSt.ext {w w' : World} {S : Nat → Prop} {bm : Nat} {cl : List (List Bat)} {op : List Bat} (h : MergeSt eB w S bm cl op) (E : Ext w w') : MergeSt eB w' S bm cl op := by
  obtain ⟨bc, bo, vc, vo, h⟩ := h
  exact ⟨bc, bo, vc, vo, h.ext E⟩
theorem MergeSt.bs {w : World} {S : Nat → Prop} {bm : Nat} {cl : List (List Bat)} {op : List Bat} (h : MergeSt eB w S bm cl op) : eB ≤ w.heap.size := by
  obtain ⟨bc, bo, vc, vo, h⟩ := h
  exact h.bs
theorem MergeSt.ty {w : World} {S : Nat → Prop} {bm : Nat} {cl : List (List Bat)} {op : List Bat} (h : MergeSt eB w S bm cl op) : TyS w S mTy := by
  obtain ⟨bc, bo, vc, vo, h⟩ := h
  exact h.ty
theorem MergeG.cells {w : World} {S : Nat → Prop} {bm bc bo : Nat} {vc vo : Nat → Value} {cl : List (List Bat)} {op : List Bat} (h : MergeG eB w S bm bc bo vc vo cl op) :
    w.cell? ⟨bm, 0, none⟩ = some (.slice (some ⟨bc, 0, none⟩) cl.length cl.length) ∧ w.cell? ⟨bm, 1, none⟩ = some (.slice (some ⟨bo, 0, none⟩) cl.length cl.length) := by
  have hb := h.box
  simp [World.cell?, hb]
theorem infoEn : (Tryz.prog.info? 45).map (fun i => (i.zero, i.size, i.bytes)) = some (some (.agg #[.slice none 0 0, .bool false, .slice none 0 0, .slice none 0 0]), 4, 80) := by kernel_rfl
end Go.Proofs.YtnepdfpooobmcaaGreatDoor
