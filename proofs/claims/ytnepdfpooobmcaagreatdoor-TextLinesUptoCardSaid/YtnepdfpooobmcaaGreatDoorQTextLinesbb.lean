/- Contracts and lemmas for the proof of TextLines; each theorem states its own conditions. -/
import Derived.Test.YtnepdfpooobmcaaGreatDoorQTextLinesba
import Derived.Test.YtnepdfpooobmcaaGreatDoorQTextLinesak
import Derived.Test.YtnepdfpooobmcaaGreatDoorQTextLinesat
import Derived.Test.YtnepdfpooobmcaaGreatDoorQTextLinesab
import Derived.Test.YtnepdfpooobmcaaGreatDoorQTextLinesaa
import Derived.Test.YtnepdfpooobmcaaGreatDoorProg
import Derived.Shelf.Abstract
import Derived.Test.YtnepdfpooobmcaaGreatDoorQTextLinesas
import Derived.Maps.Own
import Derived.Maps.OwnOps
import Derived.Maps.RangeWalk
import Derived.Maps.Views
import Derived.Test.YtnepdfpooobmcaaGreatDoorQTextLinesag
import Derived.OneCell
import Derived.Maps.OwnSet
import Derived.Test.YtnepdfpooobmcaaGreatDoorQTextLinesap
import Derived.Laws.IdiomCopy
import Derived.Shelf.Sort.Plain
import Derived.Shelf.Slices.In.SortNone
import Derived.Shelf.Slices.CompactS
import Derived.WalkLawsBesides
import Derived.Carry
import Derived.WalkSpells
import Derived.Test.YtnepdfpooobmcaaGreatDoorQTextLinesam
set_option linter.unusedVariables false
set_option linter.unusedSimpArgs false
/- Contracts and lemmas for the proofs of this seat; each theorem states its own conditions. -/
namespace Go.Proofs.YtnepdfpooobmcaaGreatDoor
open Go.RowKit
variable {eB : Nat}
/-! merge.Copied, merge.plain -/
structure EntSeg (w : World) (e : EV) (x : Ent) : Prop where
  ops : Seg w e.1 4 x.ops.length (cO x.ops)
  im : e.2.1 = x.im
  cuts : Seg w e.2.2.1 1 x.cuts.length (cS x.cuts)
  own : Seg w e.2.2.2 1 x.own.length (cI x.own)
theorem EntSt.seg {w : World} {e : EV} {x : Ent} (h : EntSt eB w e x) : EntSeg w e x := ⟨own_seg h.ops, h.im, own_seg h.cuts, own_seg h.own⟩
theorem EntSeg.ext {w w' : World} {e : EV} {x : Ent} (h : EntSeg w e x) (E : Ext w w') : EntSeg w' e x := ⟨h.ops.ext E, h.im, h.cuts.ext E, h.own.ext E⟩
end Go.Proofs.YtnepdfpooobmcaaGreatDoor

/- Contracts and lemmas for the proofs of this seat; each theorem states its own conditions. -/
namespace Go.Proofs.YtnepdfpooobmcaaGreatDoor
open Go.RowKit
/-! slices.IndexFunc, slices.ContainsFunc: a closure by its contract -/
def firstI {α : Type} (p : α → Bool) : List α → Nat → Int
  | [], _ => -1
  | x :: l, i => if p x then (i : Int) else firstI p l (i + 1)
theorem firstI_hit {α : Type} {p : α → Bool} : ∀ {l : List α} {i k : Nat} (hk : k < l.length), (∀ j (h : j < k), p (l[j]'(by omega)) = false) → p l[k] = true → firstI p l i = ((i + k : Nat) : Int)
  | [], _, _, hk, _, _ => by simp at hk
  | x :: l, i, 0, _, _, h => by simp at h; simp [firstI, h]
  | x :: l, i, k + 1, hk, hj, h => by
    have h0 := hj 0 (by omega)
    simp at h0
    rw [firstI, if_neg (by simp [h0]), firstI_hit (k := k) (by simpa using hk) (fun j h' => by simpa using hj (j + 1) (by omega)) (by simpa using h)]
    congr 1; omega
theorem firstI_miss {α : Type} {p : α → Bool} : ∀ {l : List α} {i : Nat}, (∀ x ∈ l, p x = false) → firstI p l i = -1
  | [], _, _ => rfl
  | x :: l, i, h => by rw [firstI, if_neg (by simp [h x (by simp)]), firstI_miss fun y hy => h y (by simp [hy])]
theorem firstI_any {α : Type} {p : α → Bool} : ∀ {l : List α} {i : Nat}, (decide (0 ≤ firstI p l i)) = l.any p
  | [], _ => by simp [firstI]
  | x :: l, i => by
    rw [firstI, List.any_cons]
    cases h : p x with
    | true => simp
    | false => simp [firstI_any (l := l)]
end Go.Proofs.YtnepdfpooobmcaaGreatDoor

/- Contracts and lemmas for the proofs of this seat; each theorem states its own conditions. -/
namespace Go.Proofs.YtnepdfpooobmcaaGreatDoor
open Go.RowKit
/-! Scan, Total -/
end Go.Proofs.YtnepdfpooobmcaaGreatDoor

/- Contracts and lemmas for the proofs of this seat; each theorem states its own conditions. -/
namespace Go.Proofs.YtnepdfpooobmcaaGreatDoor
open Go.RowKit Go.Maps
/-! maps of one's own, as plain functions -/
abbrev DU := DataW Unit
/-- D holds what f says -/
def MapF {κ α : Type} (kl : κ → Lit) (ok : κ → Prop) (vd : α → DU) (D : DU) (f : κ → Option α) : Prop :=
  _root_.Go.Maps.IsMap D ∧ (∀ k a, f k = some a → ok k) ∧ ∀ k, ok k → (f k = none → has D (kl k) = false) ∧ ∀ a, f k = some a → has D (kl k) = true ∧ ∀ z, D.atKey (kl k) z = vd a
section
variable {κ α : Type} {kl : κ → Lit} {ok : κ → Prop} {vd : α → DU} {D : DU} {f : κ → Option α}
theorem MapF.empty : MapF kl ok vd (.map []) (fun _ => none) := ⟨isMap_empty, ⟨fun _ _ h => (by simp at h), fun _ _ => ⟨fun _ => rfl, fun _ h => (by simp at h)⟩⟩⟩
theorem MapF.put [DecidableEq κ] (h : MapF kl ok vd D f) (inj : ∀ {x y}, kl x = kl y → x = y) (is : ∀ x, WideAt.IsKeyLit (kl x)) {k : κ} (hk : ok k) (a : α) : MapF kl ok vd (D.put (kl k) (vd a)) (fun x => if x = k then some a else f x) := by
  obtain ⟨h1, h2, h3⟩ := h
  refine ⟨h1.put _ _, fun x b hb => ?_, fun x hx => ?_⟩
  · dsimp only at hb
    split at hb
    · rename_i e; subst e; exact hk
    · exact h2 x b hb
  · dsimp only
    by_cases e : x = k
    · subst e
      rw [if_pos rfl]
      refine ⟨fun q => (by cases q), fun b hb => ?_⟩
      injection hb with hb; subst hb
      exact ⟨has_put_same h1 (is _) _, fun z => atKey_put_same h1 (is _) _ z⟩
    · rw [if_neg e]
      have hne : kl x ≠ kl k := fun q => e (inj q)
      refine ⟨fun q => ?_, fun b hb => ?_⟩
      · rw [has_put_other hne]; exact (h3 x hx).1 q
      · obtain ⟨q1, q2⟩ := (h3 x hx).2 b hb
        exact ⟨by rw [has_put_other hne]; exact q1, fun z => by rw [atKey_put_other hne]; exact q2 z⟩
theorem MapF.get (h : MapF kl ok vd D f) (vinj : ∀ {x y}, vd x = vd y → x = y) {k : κ} (hk : ok k) {c : α} (e : ∀ z, D.atKey (kl k) z = vd c) : f k = some c := by
  obtain ⟨h1, h2, h3⟩ := h
  have hh := has_true_of_atKey e
  cases hf : f k with
  | none => rw [(h3 k hk).1 hf] at hh; cases hh
  | some b =>
    have := ((h3 k hk).2 b hf).2 (.map [])
    rw [e] at this
    rw [vinj this]
theorem MapF.has (h : MapF kl ok vd D f) {k : κ} (hk : ok k) : Maps.has D (kl k) = (f k).isSome := by
  obtain ⟨h1, h2, h3⟩ := h
  cases hf : f k with
  | none => exact (h3 k hk).1 hf
  | some b => exact ((h3 k hk).2 b hf).1
end
section
variable {P : Program} (w : World) {ops : Array Oper} {rest : List Oper} {o : Oper} {a : Act} {Q : Exit → Act → World → Prop}
end
/-! what a loop over a map has gathered -/
end Go.Proofs.YtnepdfpooobmcaaGreatDoor

/- Contracts and lemmas for the proofs of this seat; each theorem states its own conditions. -/
namespace Go.Proofs.YtnepdfpooobmcaaGreatDoor
open Go.RowKit Go.Shelf Go.Lib Go.Sort
/-! sort.Slice at pairs -/
end Go.Proofs.YtnepdfpooobmcaaGreatDoor

/- Contracts and lemmas for the proofs of this seat; each theorem states its own conditions. -/
namespace Go.Proofs.YtnepdfpooobmcaaGreatDoor
open Go.RowKit Go.Maps
/-! roref.List -/
end Go.Proofs.YtnepdfpooobmcaaGreatDoor

/- Contracts and lemmas for the proofs of this seat; each theorem states its own conditions. -/
namespace Go.Proofs.YtnepdfpooobmcaaGreatDoor
open Go.RowKit
/-! what slices.DeleteFunc's walk leans on -/
end Go.Proofs.YtnepdfpooobmcaaGreatDoor

/- Contracts and lemmas for the proofs of this seat; each theorem states its own conditions. -/
namespace Go.Proofs.YtnepdfpooobmcaaGreatDoor
open Go.RowKit
/-! slices.IndexFunc, ContainsFunc, DeleteFunc at claims -/
end Go.Proofs.YtnepdfpooobmcaaGreatDoor

/- Contracts and lemmas for the proofs of this seat; each theorem states its own conditions. -/
namespace Go.Proofs.YtnepdfpooobmcaaGreatDoor
open Go.RowKit Go.Maps
/-! maps whose elements are slices of one's own, read by the slice VALUE: a row's block, length and capacity -/
section
variable {P : Program} (w : World) {ops : Array Oper} {rest : List Oper} {o : Oper} {a : Act} {Q : Exit → Act → World → Prop}
end
end Go.Proofs.YtnepdfpooobmcaaGreatDoor

/- Contracts and lemmas for the proofs of this seat; each theorem states its own conditions. -/
namespace Go.Proofs.YtnepdfpooobmcaaGreatDoor
/-! the table of claims, in plain lists -/
end Go.Proofs.YtnepdfpooobmcaaGreatDoor

/- Contracts and lemmas for the proofs of this seat; each theorem states its own conditions. -/
namespace Go.Proofs.YtnepdfpooobmcaaGreatDoor
open Go.RowKit
/-! Many cells written in one block -/
end Go.Proofs.YtnepdfpooobmcaaGreatDoor

/- Contracts and lemmas for the proofs of this seat; each theorem states its own conditions. -/
namespace Go.Proofs.YtnepdfpooobmcaaGreatDoor
open Go.RowKit Go.Shelf Go.Lib Go.Sort
/-! deed.sorted: texts in order, each once -/
end Go.Proofs.YtnepdfpooobmcaaGreatDoor

/- Contracts and lemmas for the proofs of this seat; each theorem states its own conditions. -/
namespace Go.Proofs.YtnepdfpooobmcaaGreatDoor
open Go.RowKit Go.Maps
/-! the lock table, in memory -/
end Go.Proofs.YtnepdfpooobmcaaGreatDoor

/- Contracts and lemmas for the proofs of this seat; each theorem states its own conditions. -/
namespace Go.Proofs.YtnepdfpooobmcaaGreatDoor
open Go.RowKit Go.Maps
/-! lock.New, holds, May, Ready, Left -/
end Go.Proofs.YtnepdfpooobmcaaGreatDoor

/- Contracts and lemmas for the proofs of this seat; each theorem states its own conditions. -/
namespace Go.Proofs.YtnepdfpooobmcaaGreatDoor
open Go.RowKit
/-! plain laws of Join, Scan, Total -/
def joinP (a b : Prs) : Prs := b.foldl (fun o p => withP o p.1 p.2) a
theorem join_cons (a : Prs) (p : ByteArray × Int) (b : Prs) : joinP a (p :: b) = joinP (withP a p.1 p.2) b := rfl
end Go.Proofs.YtnepdfpooobmcaaGreatDoor

/- Contracts and lemmas for the proofs of this seat; each theorem states its own conditions. -/
namespace Go.Proofs.YtnepdfpooobmcaaGreatDoor
open Go.RowKit Go.Maps
/-! May, Ready, Left -/
end Go.Proofs.YtnepdfpooobmcaaGreatDoor

/- Contracts and lemmas for the proofs of this seat; each theorem states its own conditions. -/
namespace Go.Proofs.YtnepdfpooobmcaaGreatDoor
open Go.RowKit
/-! Join -/
end Go.Proofs.YtnepdfpooobmcaaGreatDoor

/- Contracts and lemmas for the proofs of this seat; each theorem states its own conditions. -/
namespace Go.Proofs.YtnepdfpooobmcaaGreatDoor
open Go.RowKit Go.Maps
/-! rokeep.Pairs -/
end Go.Proofs.YtnepdfpooobmcaaGreatDoor

/- Contracts and lemmas for the proofs of this seat; each theorem states its own conditions. -/
namespace Go.Proofs.YtnepdfpooobmcaaGreatDoor
open Go.RowKit
end Go.Proofs.YtnepdfpooobmcaaGreatDoor

/- Contracts and lemmas for the proofs of this seat; each theorem states its own conditions. -/
namespace Go.Proofs.YtnepdfpooobmcaaGreatDoor
open Go.RowKit
/-! rokeep.run, deedBegun, deed.Serial -/
/-- deeds, in a row -/
def SegDs (w : World) (v : Value) (D : List Ops) : Prop :=
  ∃ vs : List Value, vs.length = D.length ∧ Seg w v 1 vs.length vs ∧ ∀ (i : Nat) (u : Value) (d : Ops), vs[i]? = some u → D[i]? = some d → Seg w u 4 d.length (cO d)
theorem SegDs.ext {w w' : World} {v : Value} {D : List Ops} (h : SegDs w v D) (k : Ext w w') : SegDs w' v D := by
  obtain ⟨vs, h1, h2, h3⟩ := h
  exact ⟨vs, h1, h2.ext k, fun i u d a b => (h3 i u d a b).ext k⟩
theorem OwnDs.seg {w : World} {B B' : Nat} {v : Value} {vs : List Value} {D : List Ops} (h : OwnDs w B vs D) (ho : w.ownsRow B' 24 1 v vs.length vs) : SegDs w v D :=
  ⟨vs, h.len, own_seg ho, fun i u d a b => own_seg (h.own i u d a b)⟩
end Go.Proofs.YtnepdfpooobmcaaGreatDoor

/- Contracts and lemmas for the proofs of this seat; each theorem states its own conditions. -/
namespace Go.Proofs.YtnepdfpooobmcaaGreatDoor
open Go.RowKit
variable {eB : Nat}
/-! merge: Rounds, many, Waits -/
theorem ClsSt.form {w : World} {S : Nat → Prop} {F : Value → Prop} {v : Value} {bs : List Bat} (h : ClsSt eB w S F v bs) : ∃ a c, v = .slice a bs.length c := by
  obtain ⟨us, _, o, _⟩ := h
  exact own_form o
theorem BatSt.form {w : World} {S : Nat → Prop} {v : Value} {X : Bat} (h : BatSt eB w S v X) : ∃ a c, v = .slice a X.length c := by
  obtain ⟨es, _, o, _⟩ := h
  exact own_form o
end Go.Proofs.YtnepdfpooobmcaaGreatDoor
