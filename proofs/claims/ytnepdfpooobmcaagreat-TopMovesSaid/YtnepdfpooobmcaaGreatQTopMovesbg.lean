/- Contracts and lemmas for the proof of TopMoves; each theorem states its own conditions. -/
import Derived.Test.YtnepdfpooobmcaaGreatQTopMovesau
import Derived.Test.YtnepdfpooobmcaaGreatQTopMovesax
import Derived.Test.YtnepdfpooobmcaaGreatQTopMovesbf
set_option linter.unusedVariables false
set_option linter.unusedSimpArgs false
/- Contracts and lemmas for the proofs of this seat; each theorem states its own conditions. -/
namespace Go.Proofs.YtnepdfpooobmcaaGreat
open Go.RowKit Go.Maps
/-! Free -/
/-- the table between: its rows of claims told by Cl, its map of keys of at most N entries -/
structure LockG (w : World) (B bt bk bd : Nat) (A : List Ops) (g : Nat → Bool) (F : ByteArray → Option SV) (G : Int → Option SV) (Cl : ByteArray → Clm) (N X : Nat) : Prop where
  hBt : B ≤ bt
  hBk : B ≤ bk
  hBd : B ≤ bd
  ne : bk ≠ bd
  box : w.heap[bt]? = some (.cells #[.map (some bk), .map (some bd), .int .i64 X] 174 (0, 0))
  km : ∃ n D, w.ownsMap Tryz.prog 9 svElem bk n D ∧ n ≤ N ∧ MapF kS okS dV D F
  dm : ∃ n D, w.ownsMap Tryz.prog 3 svElem bd n D ∧ n ≤ A.length ∧ MapF kI okI dV D G ∧ size D = liveN g A.length
  keys : ∀ k, w.ownsRow B 178 2 (svV ((F k).getD none)) (Cl k).length (cK (Cl k))
  apart : ∀ k k' s s', k ≠ k' → F k = some s → F k' = some s' → (svV s).ownBlock = none ∨ (svV s).ownBlock ≠ (svV s').ownBlock
  rows : ∀ n : Nat, n < A.length → g n = false → ∃ s, G (n : Int) = some s ∧ w.ownsRow B 9 1 (svV s) (tkL (A.getD n [])).length (cS (tkL (A.getD n [])))
theorem LockSt.g {w : World} {B bt bk bd : Nat} {A : List Ops} {g : Nat → Bool} {F : ByteArray → Option SV} {G : Int → Option SV} (h : LockSt w B bt bk bd A g F G) : LockG w B bt bk bd A g F G (fun k => clmTo A g k A.length) (32 * (A.length + (A.length - liveN g A.length))) A.length :=
  ⟨h.hBt, h.hBk, h.hBd, h.ne, h.box, h.km, h.dm, h.keys, h.apart, h.rows⟩
theorem LockG.ext {w w' : World} {B bt bk bd : Nat} {A : List Ops} {g : Nat → Bool} {F : ByteArray → Option SV} {G : Int → Option SV} {Cl : ByteArray → Clm} {N X : Nat} (h : LockG w B bt bk bd A g F G Cl N X) (E : Ext w w') : LockG w' B bt bk bd A g F G Cl N X where
  hBt := h.hBt
  hBk := h.hBk
  hBd := h.hBd
  ne := h.ne
  box := E.heap h.box
  km := by obtain ⟨n, D, a, b⟩ := h.km; exact ⟨n, D, ownsMap_ext a E, b⟩
  dm := by obtain ⟨n, D, a, b⟩ := h.dm; exact ⟨n, D, ownsMap_ext a E, b⟩
  keys := fun k => own_ext (h.keys k) E
  apart := h.apart
  rows := fun n a b => by obtain ⟨s, e, o⟩ := h.rows n a b; exact ⟨s, e, own_ext o E⟩
/-- a row of claims is turned in place, then stored anew: what holds between -/
def Mid (w0 : World) (B bt bk bd : Nat) (A : List Ops) (g : Nat → Bool) (F : ByteArray → Option SV) (G : Int → Option SV) (Cl : ByteArray → Clm) (N X : Nat) (key : ByteArray) (l' : Clm) (v : Value) (w : World) : Prop :=
  ∃ w1, LockG w1 B bt bk bd A g F G Cl N X ∧ w1.grownBy w (svV ((F key).getD none)).ownBlock ∧ w.ownsRow B 178 2 v l'.length (cK l') ∧ (v.ownBlock = (svV ((F key).getD none)).ownBlock ∨ ∀ k, v.ownBlock = some k → w1.heap.size ≤ k) ∧ Ext w0 w1
theorem claim_ne_box {w : World} {B bt bk bd : Nat} {A : List Ops} {g : Nat → Bool} {F : ByteArray → Option SV} {G : Int → Option SV} {Cl : ByteArray → Clm} {N X : Nat} (h : LockG w B bt bk bd A g F G Cl N X) (key : ByteArray) : (svV ((F key).getD none)).ownBlock ≠ some bt ∧ (svV ((F key).getD none)).ownBlock ≠ some bk ∧ (svV ((F key).getD none)).ownBlock ≠ some bd := by
  have hk := h.keys key
  refine ⟨own_ne hk h.box (by decide), fun e => ?_, fun e => ?_⟩
  · obtain ⟨n, D, ⟨es, clock, hm, _⟩, _⟩ := h.km
    rcases hk.2 with ⟨hn, _⟩ | ⟨b, cap, cur, hv, hb, hg, rest⟩
    · rw [hn] at e; cases e
    · rw [hv] at e; injection e with e; subst e; rw [hm] at hg; cases hg
  · obtain ⟨n, D, ⟨es, clock, hm, _⟩, _⟩ := h.dm
    rcases hk.2 with ⟨hn, _⟩ | ⟨b, cap, cur, hv, hb, hg, rest⟩
    · rw [hn] at e; cases e
    · rw [hv] at e; injection e with e; subst e; rw [hm] at hg; cases hg
theorem kept_ne {w w' : World} {B e sz n b : Nat} {v : Value} {xs : List Value} (hg : w.grownBy w' (some b)) (h : w.ownsRow B e sz v n xs) (hne : v.ownBlock ≠ some b) : w'.ownsRow B e sz v n xs := grown_own hg h (.inr hne)
end Go.Proofs.YtnepdfpooobmcaaGreat

/- Contracts and lemmas for the proofs of this seat; each theorem states its own conditions. -/
namespace Go.Proofs.YtnepdfpooobmcaaGreat
open Go.RowKit Go.Maps
/-! the table's steps, in memory -/
theorem grown_then_ext {a b c : World} {row : Option Nat} (h : a.grownBy b row) (k : Ext b c) : a.grownBy c row := h.trans (grown_of_ext k)
theorem Mid.ext {w0 w w' : World} {B bt bk bd : Nat} {A : List Ops} {g : Nat → Bool} {F : ByteArray → Option SV} {G : Int → Option SV} {Cl : ByteArray → Clm} {N X : Nat} {key : ByteArray} {l' : Clm} {v : Value} (h : Mid w0 B bt bk bd A g F G Cl N X key l' v w) (E : Ext w w') : Mid w0 B bt bk bd A g F G Cl N X key l' v w' := by
  obtain ⟨w1, h1, h2, h3, h4, h5⟩ := h
  exact ⟨w1, h1, grown_then_ext h2 E, own_ext h3 E, h4, h5⟩
theorem Mid.box {w0 w : World} {B bt bk bd : Nat} {A : List Ops} {g : Nat → Bool} {F : ByteArray → Option SV} {G : Int → Option SV} {Cl : ByteArray → Clm} {N X : Nat} {key : ByteArray} {l' : Clm} {v : Value} (h : Mid w0 B bt bk bd A g F G Cl N X key l' v w) : w.heap[bt]? = some (.cells #[.map (some bk), .map (some bd), .int .i64 X] 174 (0, 0)) := by
  obtain ⟨w1, h1, h2, _⟩ := h
  exact grown_heap h2 h1.box (claim_ne_box h1 key).1
theorem TFr.of_grown {B bt bk bd i : Nat} {w w' : World} (hg : w.grownBy w' (some i)) (hB : B ≤ i) (hi : i = bt ∨ i = bk ∨ i = bd) : TFr B bt bk bd w w' :=
  ⟨hg.os, hg.tape, hg.output, hg.size, fun j hj => by
    by_cases e : j = i
    · subst e
      refine .inr ⟨hB, ?_⟩
      rcases hi with e | e | e
      · exact .inl e
      · exact .inr (.inl e)
      · exact .inr (.inr (.inl e))
    · exact .inl (hg.block j hj (fun e' => e (Option.some.inj e')))⟩
/-- the table anew -/
theorem LockG.st {w : World} {B bt bk bd : Nat} {A : List Ops} {g : Nat → Bool} {F : ByteArray → Option SV} {G : Int → Option SV} {Cl : ByteArray → Clm} {N : Nat} (h : LockG w B bt bk bd A g F G Cl N A.length) (hN : N ≤ 32 * (A.length + (A.length - liveN g A.length))) (hc : ∀ k, Cl k = clmTo A g k A.length)
    (hnone : ∀ z : Int, (∀ n : Nat, z = (n : Int) → n < A.length → g n = false → False) → G z = none) (hlat : ∀ n, A.length ≤ n → g n = false) (hfew : A.length ≤ 60) (hd : ∀ d ∈ A, DeedOk d) : LockSt w B bt bk bd A g F G := by
  obtain ⟨h1, h2, h3, h4, h5, ⟨n, D, a, b, c⟩, h7, h8, h9, h10⟩ := h
  exact ⟨h1, h2, h3, h4, h5, ⟨n, D, a, by omega, c⟩, h7, fun k => by rw [← hc]; exact h8 k, h9, h10, hnone, hlat, hfew, hd⟩
/-- other rows may turn -/
theorem LockSt.kept {w w' : World} {B bt bk bd b e : Nat} {A : List Ops} {g : Nat → Bool} {F : ByteArray → Option SV} {G : Int → Option SV} (h : LockSt w B bt bk bd A g F G) {cs : Array Value} (hb : w.heap[b]? = some (.cells cs e (0, 0))) (h1 : 178 ≠ e) (h2 : 174 ≠ e) (h3 : 9 ≠ e) (hg : w.grownBy w' (some b)) : LockSt w' B bt bk bd A g F G where
  hBt := h.hBt
  hBk := h.hBk
  hBd := h.hBd
  ne := h.ne
  box := grown_heap hg h.box fun e' => by
    injection e' with e'; subst e'; rw [h.box] at hb; injection hb with hb; injection hb with _ hb; exact h2 hb
  km := by
    obtain ⟨n, D, a, r⟩ := h.km
    refine ⟨n, D, a.kept hg fun e' => ?_, r⟩
    obtain ⟨es, clock, hm, _⟩ := a
    injection e' with e'; subst e'; rw [hm] at hb; cases hb
  dm := by
    obtain ⟨n, D, a, r⟩ := h.dm
    refine ⟨n, D, a.kept hg fun e' => ?_, r⟩
    obtain ⟨es, clock, hm, _⟩ := a
    injection e' with e'; subst e'; rw [hm] at hb; cases hb
  keys := fun k => kept_ne hg (h.keys k) (own_ne (h.keys k) hb h1)
  apart := h.apart
  rows := fun n x y => by obtain ⟨s, q, o⟩ := h.rows n x y; exact ⟨s, q, kept_ne hg o (own_ne o hb h3)⟩
  nones := h.nones
  later := h.later
  few := h.few
  dok := h.dok
end Go.Proofs.YtnepdfpooobmcaaGreat

/- Contracts and lemmas for the proofs of this seat; each theorem states its own conditions. -/
namespace Go.Proofs.YtnepdfpooobmcaaGreat
open Go.RowKit
/-! parts of a store, in memory -/
structure PartsSt (w : World) (bt : Nat) (C : List ByteArray) (O : List Int) (P : Nat → Prs) (vc vo : Value) (pv : Nat → Value) : Prop where
  box : w.heap[bt]? = some (.cells #[vc, vo, pv 0, pv 1, pv 2, pv 3] 157 (0, 0))
  cuts : w.ownsRow 0 9 1 vc C.length (cS C)
  owners : w.ownsRow 0 3 1 vo O.length (cI O)
  rows : ∀ i, i < 4 → w.ownsRow 0 60 2 (pv i) (P i).length (cP (P i))
theorem PartsSt.ext {w w' : World} {bt : Nat} {C : List ByteArray} {O : List Int} {P : Nat → Prs} {vc vo : Value} {pv : Nat → Value} (h : PartsSt w bt C O P vc vo pv) (E : Ext w w') : PartsSt w' bt C O P vc vo pv :=
  ⟨E.heap h.box, own_ext h.cuts E, own_ext h.owners E, fun i hi => own_ext (h.rows i hi) E⟩
theorem PartsSt.lt {w : World} {bt : Nat} {C : List ByteArray} {O : List Int} {P : Nat → Prs} {vc vo : Value} {pv : Nat → Value} (h : PartsSt w bt C O P vc vo pv) : bt < w.heap.size := (Array.getElem?_eq_some_iff.1 h.box).1
theorem PartsSt.is {w : World} {bt : Nat} {C : List ByteArray} {O : List Int} {P : Nat → Prs} {vc vo : Value} {pv : Nat → Value} (h : PartsSt w bt C O P vc vo pv) : IsMap w (.agg #[vc, vo]) C O :=
  ⟨vc, vo, rfl, own_seg h.cuts, own_seg h.owners⟩
theorem PartsSt.cell0 {w : World} {bt : Nat} {C : List ByteArray} {O : List Int} {P : Nat → Prs} {vc vo : Value} {pv : Nat → Value} (h : PartsSt w bt C O P vc vo pv) : w.cell? ⟨bt, 0, none⟩ = some vc ∧ w.cell? ⟨bt, 1, none⟩ = some vo := by
  have hb := h.box
  simp [World.cell?, hb]
theorem PartsSt.cellI {w : World} {bt : Nat} {C : List ByteArray} {O : List Int} {P : Nat → Prs} {vc vo : Value} {pv : Nat → Value} (h : PartsSt w bt C O P vc vo pv) {i : Nat} (hi : i < 4) : w.cell? ⟨bt, 2 + i, none⟩ = some (pv i) ∧ w.frozen? ⟨bt, 2 + i, none⟩ = false := by
  have hb := h.box
  have : i = 0 ∨ i = 1 ∨ i = 2 ∨ i = 3 := by omega
  rcases this with rfl | rfl | rfl | rfl <;> simp [World.cell?, World.frozen?, hb]
/-- only the box has been written -/
theorem PartsSt.beside {w w' : World} {bt b : Nat} {C : List ByteArray} {O : List Int} {P : Nat → Prs} {vc vo : Value} {pv : Nat → Value} (h : PartsSt w bt C O P vc vo pv) (hg : w.grownBy w' (some b)) {cs : Array Value} {fr : Nat × Nat} (hb : w.heap[b]? = some (.cells cs 157 fr)) (hne : b ≠ bt) : PartsSt w' bt C O P vc vo pv where
  box := by
    rw [hg.block bt h.lt (fun e => by injection e with e; exact hne e.symm)]
    exact h.box
  cuts := kept_ne hg h.cuts (own_ne h.cuts hb (by decide))
  owners := kept_ne hg h.owners (own_ne h.owners hb (by decide))
  rows := fun i hi => kept_ne hg (h.rows i hi) (own_ne (h.rows i hi) hb (by decide))
theorem grown_cell' (w : World) (g i : Nat) (u : Value) : w.grownBy (w.setCell ⟨g, i, none⟩ u) (some g) := ⟨rfl, rfl, rfl, by simp [World.setCell], fun j hj hne => by
  have : g ≠ j := fun e => hne (by rw [e])
  simp [World.setCell, Array.getElem?_modify, this]⟩
/-- another part in its place -/
theorem PartsSt.set {w : World} {bt : Nat} {C : List ByteArray} {O : List Int} {P : Nat → Prs} {vc vo : Value} {pv : Nat → Value} (h : PartsSt w bt C O P vc vo pv) {i : Nat} (hi : i < 4) {v : Value} {L : Prs} (ho : w.ownsRow 0 60 2 v L.length (cP L)) :
    PartsSt (w.setCell ⟨bt, 2 + i, none⟩ v) bt C O (fun j => if j = i then L else P j) vc vo (fun j => if j = i then v else pv j) where
  box := by
    have hb := h.box
    have : i = 0 ∨ i = 1 ∨ i = 2 ∨ i = 3 := by omega
    rcases this with rfl | rfl | rfl | rfl <;> simp [World.setCell, Array.getElem?_modify, hb]
  cuts := kept_ne (grown_cell' w bt _ v) h.cuts (own_ne h.cuts h.box (by decide))
  owners := kept_ne (grown_cell' w bt _ v) h.owners (own_ne h.owners h.box (by decide))
  rows := fun j hj => by
    try dsimp only
    by_cases e : j = i
    · subst e
      rw [if_pos rfl, if_pos rfl]
      exact kept_ne (grown_cell' w bt _ v) ho (own_ne ho h.box (by decide))
    · rw [if_neg e, if_neg e]
      exact kept_ne (grown_cell' w bt _ v) (h.rows j hj) (own_ne (h.rows j hj) h.box (by decide))
end Go.Proofs.YtnepdfpooobmcaaGreat
