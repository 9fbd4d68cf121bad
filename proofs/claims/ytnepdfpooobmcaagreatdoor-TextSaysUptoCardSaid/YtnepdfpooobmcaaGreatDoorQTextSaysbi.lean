/- Contracts and lemmas for the proof of TextSays; each theorem states its own conditions. -/
import Derived.Test.YtnepdfpooobmcaaGreatDoorQTextSaysbh
import Derived.Test.YtnepdfpooobmcaaGreatDoorQTextSaysaf
import Derived.Test.YtnepdfpooobmcaaGreatDoorQTextSaysaa
import Derived.Test.YtnepdfpooobmcaaGreatDoorQTextSaysbf
import Derived.Test.YtnepdfpooobmcaaGreatDoorQTextSaysal
import Derived.Test.YtnepdfpooobmcaaGreatDoorQTextSaysbc
set_option linter.unusedVariables false
set_option linter.unusedSimpArgs false
/- Contracts and lemmas for the proofs of this seat; each theorem states its own conditions. -/
namespace Go.Proofs.YtnepdfpooobmcaaGreatDoor
open Go.RowKit
theorem grown_extR {a b c : World} {row : Option Nat} (h : a.grownBy b row) (E : Ext b c) : a.grownBy c row :=
  ⟨E.os.trans h.os, E.tape.trans h.tape, E.output.trans h.output, Nat.le_trans h.size E.size', fun j hj hne => (Below.block E j (Nat.lt_of_lt_of_le hj h.size)).trans (h.block j hj hne)⟩
end Go.Proofs.YtnepdfpooobmcaaGreatDoor

/- Contracts and lemmas for the proofs of this seat; each theorem states its own conditions. -/
namespace Go.Proofs.YtnepdfpooobmcaaGreatDoor
open Go.RowKit
/-! a region that draws its order, in which one operation (m) turns what lies there and the last one (z) stores: all others only read and make -/
def TPost (P : Program) (l : List Oper) (t0 : Array Value) (ds : List Deferred) (x : Nat → Value) (o : Oper) (R : Value → World → Prop) (w : World) : Prop :=
  wpList P l.toArray (fun e a' w' => e = .normal ∧ ∃ v, a' = (⟨frL x l 0 t0, ds⟩ : Act).put o.dst v ∧ R v w') [o] ⟨frL x l 0 t0, ds⟩ w
theorem TPost.mono {P : Program} {l : List Oper} {t0 : Array Value} {ds : List Deferred} {x : Nat → Value} {o : Oper} {R R' : Value → World → Prop} {w : World} (h : TPost P l t0 ds x o R w) (k : ∀ v w', R v w' → R' v w') : TPost P l t0 ds x o R' w := by
  unfold TPost wpList at *
  split
  · rename_i hw
    rw [if_pos hw] at h
    rcases h with h | ⟨_, h⟩
    · left
      refine Oper.upon_both (fun a' w'' hh => ?_) (fun e a' w'' hne hh => ?_) h
      · obtain ⟨h1, v, h2, h3⟩ := hh
        exact ⟨h1, v, h2, k _ _ h3⟩
      · exact absurd hh.1 hne
    · obtain ⟨a', w'', he, _⟩ := h; cases he
  · rename_i hw
    rw [if_neg hw] at h
    obtain ⟨h1, v, h2, h3⟩ := h
    exact ⟨h1, v, h2, k _ _ h3⟩
end Go.Proofs.YtnepdfpooobmcaaGreatDoor

/- Contracts and lemmas for the proofs of this seat; each theorem states its own conditions. -/
namespace Go.Proofs.YtnepdfpooobmcaaGreatDoor
open Go.RowKit
/-! a region that draws its order, of the form a[i] = append(a[i], f(x)): p calls, q makes a block of what p gave, m turns, z (the last one) stores -/
end Go.Proofs.YtnepdfpooobmcaaGreatDoor

/- Contracts and lemmas for the proofs of this seat; each theorem states its own conditions. -/
namespace Go.Proofs.YtnepdfpooobmcaaGreatDoor
open Go.RowKit
variable {eB : Nat}
/-! merge: an entry added, a batch closed, in memory -/
end Go.Proofs.YtnepdfpooobmcaaGreatDoor

/- Contracts and lemmas for the proofs of this seat; each theorem states its own conditions. -/
namespace Go.Proofs.YtnepdfpooobmcaaGreatDoor
open Go.RowKit
variable {eB : Nat}
/-! merge.Close -/
/-- a row appended to: what it is, what has turned, where it lies -/
structure AppM (w : World) (e sz n : Nat) (xs : List Value) (r v : Value) (w' : World) : Prop where
  own : w'.ownsRow 0 e sz v n xs
  grown : w.grownBy w' r.ownBlock
  lies : ∀ k, v.ownBlock = some k → r.ownBlock = some k ∨ w.heap.size ≤ k
theorem AppM.ext {w : World} {e sz n : Nat} {xs : List Value} {r v : Value} {a b : World} (h : AppM w e sz n xs r v a) (E : Ext a b) : AppM w e sz n xs r v b := ⟨own_ext h.own E, grown_extR h.grown E, h.lies⟩
/-- a block that stands -/
def NewC (cs : Array Value) (e m : Nat) (v : Value) (w : World) : Prop := ∃ b, v = .slice (some ⟨b, 0, none⟩) m m ∧ w.heap[b]? = some (.cells cs e (0, 0))
theorem NewC.ext {cs : Array Value} {e m : Nat} {v : Value} {a b : World} (h : NewC cs e m v a) (E : Ext a b) : NewC cs e m v b := by
  obtain ⟨c, e, h⟩ := h
  exact ⟨c, e, E.heap h⟩
end Go.Proofs.YtnepdfpooobmcaaGreatDoor

/- Contracts and lemmas for the proofs of this seat; each theorem states its own conditions. -/
namespace Go.Proofs.YtnepdfpooobmcaaGreatDoor
open Go.RowKit
variable {eB : Nat}
/-! merge.check, merge.Add, merge.New -/
/-- a merge's entry that has been made -/
def NewE (eB : Nat) (y : Ent) (u : Value) (w : World) : Prop := ∃ e', u = evV e' ∧ EntSt eB w e' y
theorem NewE.ext {y : Ent} {u : Value} {a b : World} (h : NewE eB y u a) (E : Ext a b) : NewE eB y u b := by
  obtain ⟨e, h1, h2⟩ := h
  exact ⟨e, h1, h2.ext E⟩
def NewEB (eB : Nat) (y : Ent) (v : Value) (w : World) : Prop := ∃ e' b, EntSt eB w e' y ∧ v = .slice (some ⟨b, 0, none⟩) 1 1 ∧ w.heap[b]? = some (.cells (evC e').toArray 45 (0, 0))
theorem NewEB.ext {y : Ent} {v : Value} {a b : World} (h : NewEB eB y v a) (E : Ext a b) : NewEB eB y v b := by
  obtain ⟨e, k, h1, h2, h3⟩ := h
  exact ⟨e, k, h1.ext E, h2, E.heap h3⟩
def AppE (eB : Nat) (w : World) (y : Ent) (n : Nat) (es : List EV) (r v : Value) (w' : World) : Prop := ∃ e', AppM w 45 4 (n + 1) (cEn es ++ evC e') r v w' ∧ EntSt eB w' e' y
theorem AppE.ext {w : World} {y : Ent} {n : Nat} {es : List EV} {r v : Value} {a b : World} (h : AppE eB w y n es r v a) (E : Ext a b) : AppE eB w y n es r v b := by
  obtain ⟨e, h1, h2⟩ := h
  exact ⟨e, h1.ext E, h2.ext E⟩
end Go.Proofs.YtnepdfpooobmcaaGreatDoor

/- Contracts and lemmas for the proofs of this seat; each theorem states its own conditions. -/
namespace Go.Proofs.YtnepdfpooobmcaaGreatDoor
open Go.RowKit
/-! text.Entry -/
end Go.Proofs.YtnepdfpooobmcaaGreatDoor
