/- Contracts and lemmas for the proof of TopPlan; each theorem states its own conditions. -/
import Derived.Test.YtimchedebcoohaaGreatQTopPlanbe
import Derived.Test.YtimchedebcoohaaGreatQTopPlanaw
set_option linter.unusedVariables false
set_option linter.unusedSimpArgs false
/- Contracts and lemmas for the proofs of this seat; each theorem states its own conditions. -/
namespace Go.Proofs.YtimchedebcoohaaGreat
open Go.RowKit Go.Maps
/-! the table's steps, in memory -/
theorem grown_then_ext {a b c : World} {row : Option Nat} (h : a.grownBy b row) (k : Ext b c) : a.grownBy c row := h.trans (grown_of_ext k)
theorem Mid.ext {w0 w w' : World} {B bt bk bd : Nat} {A : List Ops} {g : Nat → Bool} {F : ByteArray → Option SV} {G : Int → Option SV} {Cl : ByteArray → Clm} {N X : Nat} {key : ByteArray} {l' : Clm} {v : Value} (h : Mid w0 B bt bk bd A g F G Cl N X key l' v w) (E : Ext w w') : Mid w0 B bt bk bd A g F G Cl N X key l' v w' := by
  obtain ⟨w1, h1, h2, h3, h4, h5⟩ := h
  exact ⟨w1, h1, grown_then_ext h2 E, own_ext h3 E, h4, h5⟩
theorem Mid.box {w0 w : World} {B bt bk bd : Nat} {A : List Ops} {g : Nat → Bool} {F : ByteArray → Option SV} {G : Int → Option SV} {Cl : ByteArray → Clm} {N X : Nat} {key : ByteArray} {l' : Clm} {v : Value} (h : Mid w0 B bt bk bd A g F G Cl N X key l' v w) : w.heap[bt]? = some (.cells #[.map (some bk), .map (some bd), .int .i64 X] 177 (0, 0)) := by
  obtain ⟨w1, h1, h2, _⟩ := h
  exact grown_heap h2 h1.box (claim_ne_box h1 key).1
/-- blocks of other elements stand -/
theorem TFr.heapG {B bt bk bd : Nat} {w w' : World} (h : TFr B bt bk bd w w') {A : List Ops} {g : Nat → Bool} {F : ByteArray → Option SV} {G : Int → Option SV} {Cl : ByteArray → Clm} {N X : Nat} (hl : LockG w B bt bk bd A g F G Cl N X) {i e : Nat} {cs : Array Value} (hi : w.heap[i]? = some (.cells cs e (0, 0))) (h1 : e ≠ 181) (h2 : e ≠ 177) : w'.heap[i]? = some (.cells cs e (0, 0)) := by
  rcases h.2.2.2.2 i (Array.getElem?_eq_some_iff.1 hi).1 with e' | ⟨_, e' | e' | e' | ⟨cs', e'⟩⟩
  · rw [e']; exact hi
  · subst e'; rw [hl.box] at hi; injection hi with hi; injection hi with _ hi; exact absurd hi.symm h2
  · subst e'
    obtain ⟨n, D, ⟨es, clock, hm, _⟩, _⟩ := hl.km
    rw [hm] at hi; cases hi
  · subst e'
    obtain ⟨n, D, ⟨es, clock, hm, _⟩, _⟩ := hl.dm
    rw [hm] at hi; cases hi
  · rw [e'] at hi; injection hi with hi; injection hi with _ hi; exact absurd hi.symm h1
theorem TFr.ownG {B bt bk bd : Nat} {w w' : World} (h : TFr B bt bk bd w w') {A : List Ops} {g : Nat → Bool} {F : ByteArray → Option SV} {G : Int → Option SV} {Cl : ByteArray → Clm} {N X : Nat} (hl : LockG w B bt bk bd A g F G Cl N X) {B' e sz n : Nat} {v : Value} {xs : List Value} (ho : w.ownsRow B' e sz v n xs) (h1 : e ≠ 181) (h2 : e ≠ 177) : w'.ownsRow B' e sz v n xs := by
  refine ⟨ho.1, ?_⟩
  rcases ho.2 with hn | ⟨b, cap, cur, rfl, hb, hg, rest⟩
  · exact .inl hn
  · exact .inr ⟨b, cap, cur, rfl, hb, h.heapG hl hg h1 h2, rest⟩
theorem TFr.of_grown {B bt bk bd i : Nat} {w w' : World} (hg : w.grownBy w' (some i)) (hB : B ≤ i) (hi : i = bt ∨ i = bk ∨ i = bd) : TFr B bt bk bd w w' :=
  ⟨hg.os, hg.tape, hg.output, hg.size, fun j hj => by
    by_cases e : j = i
    · subst e
      refine .inr ⟨hB, ?_⟩
      rcases hi with e | e | e
      · exact .inl e
      · exact .inr (.inl e)
      · exact .inr (.inr (.inl e))
    · exact .inl (hg.block j hj (fun e' => e (Option.some.inj e')))⟩
theorem not_map_row {w : World} {B e sz n b : Nat} {v : Value} {xs : List Value} (h : w.ownsRow B e sz v n xs) {R : Value → Option (DU × List MemPlace)} {k : TypeId} {m : Nat} {D : DU} (hm : w.ownsMap Tryz.prog k R b m D) : v.ownBlock ≠ some b := by
  obtain ⟨es, clock, hm, _⟩ := hm
  exact own_not_map h hm
/-- next++ -/
theorem lock_next {w : World} {B bt bk bd : Nat} {A : List Ops} {g : Nat → Bool} {F : ByteArray → Option SV} {G : Int → Option SV} {Cl : ByteArray → Clm} {N X : Nat} (h : LockG w B bt bk bd A g F G Cl N X) (Y : Nat) :
    LockG (w.setCell ⟨bt, 2, none⟩ (.int .i64 Y)) B bt bk bd A g F G Cl N Y ∧ TFr B bt bk bd w (w.setCell ⟨bt, 2, none⟩ (.int .i64 Y)) := by
  have hb := h.box
  have hg : w.grownBy (w.setCell ⟨bt, 2, none⟩ (.int .i64 Y)) (some bt) := ⟨rfl, rfl, rfl, by simp [World.setCell], fun j hj hne => by
    have : bt ≠ j := fun e => hne (by rw [e])
    simp [World.setCell, Array.getElem?_modify, this]⟩
  have hmk : ∀ {b : Nat} {k : TypeId} {m : Nat} {D : DU}, w.ownsMap Tryz.prog k svElem b m D → some b ≠ some bt := by
    rintro b k m D ⟨es, clock, hm, _⟩ e
    injection e with e; subst e; rw [hb] at hm; cases hm
  refine ⟨⟨h.hBt, h.hBk, h.hBd, h.ne, ?_, ?_, ?_, fun k => ?_, h.apart, fun n h1 h2 => ?_⟩, TFr.of_grown hg h.hBt (.inl rfl)⟩
  · simp [World.setCell, Array.getElem?_modify, hb]
  · obtain ⟨n, D, a, b⟩ := h.km
    exact ⟨n, D, a.kept hg (hmk a), b⟩
  · obtain ⟨n, D, a, b⟩ := h.dm
    exact ⟨n, D, a.kept hg (hmk a), b⟩
  · exact kept_ne hg (h.keys k) (claim_ne_box h k).1
  · obtain ⟨s, e, o⟩ := h.rows n h1 h2
    exact ⟨s, e, kept_ne hg o (own_ne o hb (by decide))⟩
/-- a deed's row comes in -/
theorem lock_deed {w w' : World} {B bt bk bd : Nat} {A : List Ops} {g : Nat → Bool} {F : ByteArray → Option SV} {G : Int → Option SV} {Cl : ByteArray → Clm} {N X : Nat} (h : LockG w B bt bk bd A g F G Cl N X) (hg0 : g A.length = false) (hG : G (A.length : Int) = none) {d : Ops} {sv : SV} {n : Nat} {D : DU}
    (hmap : w.ownsMap Tryz.prog 3 svElem bd n D) (hn : n ≤ A.length) (hF : MapF kI okI dV D G) (hsz : size D = liveN g A.length) (hok : okI (A.length : Int)) (ho : w.ownsRow B 9 1 (svV sv) (tkL d).length (cS (tkL d)))
    (hmap' : w'.ownsMap Tryz.prog 3 svElem bd (n + 1) (D.put (kI A.length) (dV sv))) (hg' : w.grownBy w' (some bd)) :
    LockG w' B bt bk bd (A ++ [d]) g F (fun z => if z = (A.length : Int) then some sv else G z) Cl N X ∧ TFr B bt bk bd w w' := by
  have hbt : bt ≠ bd := by
    rintro rfl
    obtain ⟨es, clock, hm, _⟩ := hmap
    have := h.box; rw [hm] at this; cases this
  have hl : (A ++ [d]).length = A.length + 1 := by simp
  have htd := hmap.tidy lawInt
  have hhas : has D (kI A.length) = false := by rw [hF.has hok, hG]; rfl
  refine ⟨⟨h.hBt, h.hBk, h.hBd, h.ne, ?_, ?_, ⟨n + 1, _, hmap', by omega, hF.put kI_inj kI_is hok sv, ?_⟩, fun k => ?_, h.apart, fun m h1 h2 => ?_⟩, TFr.of_grown hg' h.hBd (.inr (.inr rfl))⟩
  · exact grown_heap hg' h.box (fun e => hbt (by injection e with e; exact e.symm))
  · obtain ⟨m, D', a, b⟩ := h.km
    exact ⟨m, D', a.kept hg' (fun e => h.ne (by injection e)), b⟩
  · rw [size_put htd, hhas, hsz, hl]
    simp [liveN, hg0]
  · exact kept_ne hg' (h.keys k) (not_map_row (h.keys k) hmap)
  · rw [hl] at h1
    by_cases e : m = A.length
    · subst e
      refine ⟨sv, by simp, ?_⟩
      have : (A ++ [d]).getD A.length [] = d := by simp
      rw [this]
      exact kept_ne hg' ho (not_map_row ho hmap)
    · obtain ⟨s, e1, o⟩ := h.rows m (by omega) h2
      refine ⟨s, by rw [if_neg (by omega)]; exact e1, ?_⟩
      rw [getD_app (by omega)]
      exact kept_ne hg' o (not_map_row o hmap)
/-- a deed goes -/
theorem lock_gone {w w' : World} {B bt bk bd : Nat} {A : List Ops} {g : Nat → Bool} {F : ByteArray → Option SV} {G : Int → Option SV} {Cl : ByteArray → Clm} {N X : Nat} (h : LockG w B bt bk bd A g F G Cl N X) {s : Nat} (hs : s < A.length) (hg0 : g s = false) {n : Nat} {D : DU}
    (hmap : w.ownsMap Tryz.prog 3 svElem bd n D) (hn : n ≤ A.length) (hF : MapF kI okI dV D G) (hsz : size D = liveN g A.length) (hok : okI (s : Int))
    (hmap' : w'.ownsMap Tryz.prog 3 svElem bd n (D.del (kI s))) (hg' : w.grownBy w' (some bd)) :
    LockG w' B bt bk bd A (goneW g s) F (fun z => if z = (s : Int) then none else G z) Cl N X ∧ TFr B bt bk bd w w' := by
  have hbt : bt ≠ bd := by
    rintro rfl
    obtain ⟨es, clock, hm, _⟩ := hmap
    have := h.box; rw [hm] at this; cases this
  have htd := hmap.tidy lawInt
  obtain ⟨s0, hs0, _⟩ := h.rows s hs hg0
  have hhas : has D (kI s) = true := by rw [hF.has hok, hs0]; rfl
  refine ⟨⟨h.hBt, h.hBk, h.hBd, h.ne, ?_, ?_, ⟨n, _, hmap', hn, hF.del kI_inj (s : Int), ?_⟩, fun k => ?_, h.apart, fun m h1 h2 => ?_⟩, TFr.of_grown hg' h.hBd (.inr (.inr rfl))⟩
  · exact grown_heap hg' h.box (fun e => hbt (by injection e with e; exact e.symm))
  · obtain ⟨m, D', a, b⟩ := h.km
    exact ⟨m, D', a.kept hg' (fun e => h.ne (by injection e)), b⟩
  · have := size_del (k := kI s) htd
    rw [hhas, hsz] at this
    have l := (live_gone hg0 (n := A.length)).1 hs
    simp at this; omega
  · exact kept_ne hg' (h.keys k) (not_map_row (h.keys k) hmap)
  · unfold goneW at h2
    split at h2
    · cases h2
    · rename_i hne
      obtain ⟨s', e1, o⟩ := h.rows m h1 h2
      exact ⟨s', by rw [if_neg (by omega)]; exact e1, kept_ne hg' o (not_map_row o hmap)⟩
/-- the table anew -/
theorem LockG.st {w : World} {B bt bk bd : Nat} {A : List Ops} {g : Nat → Bool} {F : ByteArray → Option SV} {G : Int → Option SV} {Cl : ByteArray → Clm} {N : Nat} (h : LockG w B bt bk bd A g F G Cl N A.length) (hN : N ≤ 32 * (A.length + (A.length - liveN g A.length))) (hc : ∀ k, Cl k = clmTo A g k A.length)
    (hnone : ∀ z : Int, (∀ n : Nat, z = (n : Int) → n < A.length → g n = false → False) → G z = none) (hlat : ∀ n, A.length ≤ n → g n = false) (hfew : A.length ≤ 60) (hd : ∀ d ∈ A, DeedOk d) : LockSt w B bt bk bd A g F G := by
  obtain ⟨h1, h2, h3, h4, h5, ⟨n, D, a, b, c⟩, h7, h8, h9, h10⟩ := h
  exact ⟨h1, h2, h3, h4, h5, ⟨n, D, a, by omega, c⟩, h7, fun k => by rw [← hc]; exact h8 k, h9, h10, hnone, hlat, hfew, hd⟩
/-- other rows may turn -/
theorem LockSt.kept {w w' : World} {B bt bk bd b e : Nat} {A : List Ops} {g : Nat → Bool} {F : ByteArray → Option SV} {G : Int → Option SV} (h : LockSt w B bt bk bd A g F G) {cs : Array Value} (hb : w.heap[b]? = some (.cells cs e (0, 0))) (h1 : 181 ≠ e) (h2 : 177 ≠ e) (h3 : 9 ≠ e) (hg : w.grownBy w' (some b)) : LockSt w' B bt bk bd A g F G where
  hBt := h.hBt
  hBk := h.hBk
  hBd := h.hBd
  ne := h.ne
  box := grown_heap hg h.box fun e' => by
    injection e' with e'; subst e'; rw [h.box] at hb; injection hb with hb; injection hb with _ hb; exact h2 hb
  km := by
    obtain ⟨n, D, a, r⟩ := h.km
    refine ⟨n, D, a.kept hg fun e' => ?_, r⟩
    obtain ⟨es, clock, hm, _⟩ := a
    injection e' with e'; subst e'; rw [hm] at hb; cases hb
  dm := by
    obtain ⟨n, D, a, r⟩ := h.dm
    refine ⟨n, D, a.kept hg fun e' => ?_, r⟩
    obtain ⟨es, clock, hm, _⟩ := a
    injection e' with e'; subst e'; rw [hm] at hb; cases hb
  keys := fun k => kept_ne hg (h.keys k) (own_ne (h.keys k) hb h1)
  apart := h.apart
  rows := fun n x y => by obtain ⟨s, q, o⟩ := h.rows n x y; exact ⟨s, q, kept_ne hg o (own_ne o hb h3)⟩
  nones := h.nones
  later := h.later
  few := h.few
  dok := h.dok
theorem grown_cell (w : World) (g i : Nat) (u : Value) : w.grownBy (w.setCell ⟨g, i, none⟩ u) (some g) := ⟨rfl, rfl, rfl, by simp [World.setCell], fun j hj hne => by
    have : g ≠ j := fun e => hne (by rw [e])
    simp [World.setCell, Array.getElem?_modify, this]⟩
end Go.Proofs.YtimchedebcoohaaGreat

/- Contracts and lemmas for the proofs of this seat; each theorem states its own conditions. -/
namespace Go.Proofs.YtimchedebcoohaaGreat
open Go.RowKit
/-! parts of a store, in memory -/
structure PartsSt (w : World) (bt : Nat) (C : List ByteArray) (O : List Int) (P : Nat → Prs) (vc vo : Value) (pv : Nat → Value) : Prop where
  box : w.heap[bt]? = some (.cells #[vc, vo, pv 0, pv 1, pv 2, pv 3] 189 (0, 0))
  cuts : w.ownsRow 0 9 1 vc C.length (cS C)
  owners : w.ownsRow 0 3 1 vo O.length (cI O)
  rows : ∀ i, i < 4 → w.ownsRow 0 33 2 (pv i) (P i).length (cP (P i))
theorem PartsSt.ext {w w' : World} {bt : Nat} {C : List ByteArray} {O : List Int} {P : Nat → Prs} {vc vo : Value} {pv : Nat → Value} (h : PartsSt w bt C O P vc vo pv) (E : Ext w w') : PartsSt w' bt C O P vc vo pv :=
  ⟨E.heap h.box, own_ext h.cuts E, own_ext h.owners E, fun i hi => own_ext (h.rows i hi) E⟩
theorem PartsSt.lt {w : World} {bt : Nat} {C : List ByteArray} {O : List Int} {P : Nat → Prs} {vc vo : Value} {pv : Nat → Value} (h : PartsSt w bt C O P vc vo pv) : bt < w.heap.size := (Array.getElem?_eq_some_iff.1 h.box).1
theorem PartsSt.is {w : World} {bt : Nat} {C : List ByteArray} {O : List Int} {P : Nat → Prs} {vc vo : Value} {pv : Nat → Value} (h : PartsSt w bt C O P vc vo pv) : IsMap w (.agg #[vc, vo]) C O :=
  ⟨vc, vo, rfl, own_seg h.cuts, own_seg h.owners⟩
theorem PartsSt.cell0 {w : World} {bt : Nat} {C : List ByteArray} {O : List Int} {P : Nat → Prs} {vc vo : Value} {pv : Nat → Value} (h : PartsSt w bt C O P vc vo pv) : w.cell? ⟨bt, 0, none⟩ = some vc ∧ w.cell? ⟨bt, 1, none⟩ = some vo := by
  have hb := h.box
  simp [World.cell?, hb]
theorem PartsSt.cellI {w : World} {bt : Nat} {C : List ByteArray} {O : List Int} {P : Nat → Prs} {vc vo : Value} {pv : Nat → Value} (h : PartsSt w bt C O P vc vo pv) {i : Nat} (hi : i < 4) : w.cell? ⟨bt, 2 + i, none⟩ = some (pv i) ∧ w.frozen? ⟨bt, 2 + i, none⟩ = false := by
  have hb := h.box
  have : i = 0 ∨ i = 1 ∨ i = 2 ∨ i = 3 := by omega
  rcases this with rfl | rfl | rfl | rfl <;> simp [World.cell?, World.frozen?, hb]
/-- only the box has been written -/
theorem PartsSt.beside {w w' : World} {bt b : Nat} {C : List ByteArray} {O : List Int} {P : Nat → Prs} {vc vo : Value} {pv : Nat → Value} (h : PartsSt w bt C O P vc vo pv) (hg : w.grownBy w' (some b)) {cs : Array Value} {fr : Nat × Nat} (hb : w.heap[b]? = some (.cells cs 189 fr)) (hne : b ≠ bt) : PartsSt w' bt C O P vc vo pv where
  box := by
    rw [hg.block bt h.lt (fun e => by injection e with e; exact hne e.symm)]
    exact h.box
  cuts := kept_ne hg h.cuts (own_ne h.cuts hb (by decide))
  owners := kept_ne hg h.owners (own_ne h.owners hb (by decide))
  rows := fun i hi => kept_ne hg (h.rows i hi) (own_ne (h.rows i hi) hb (by decide))
theorem grown_cell' (w : World) (g i : Nat) (u : Value) : w.grownBy (w.setCell ⟨g, i, none⟩ u) (some g) := ⟨rfl, rfl, rfl, by simp [World.setCell], fun j hj hne => by
  have : g ≠ j := fun e => hne (by rw [e])
  simp [World.setCell, Array.getElem?_modify, this]⟩
/-- another part in its place -/
theorem PartsSt.set {w : World} {bt : Nat} {C : List ByteArray} {O : List Int} {P : Nat → Prs} {vc vo : Value} {pv : Nat → Value} (h : PartsSt w bt C O P vc vo pv) {i : Nat} (hi : i < 4) {v : Value} {L : Prs} (ho : w.ownsRow 0 33 2 v L.length (cP L)) :
    PartsSt (w.setCell ⟨bt, 2 + i, none⟩ v) bt C O (fun j => if j = i then L else P j) vc vo (fun j => if j = i then v else pv j) where
  box := by
    have hb := h.box
    have : i = 0 ∨ i = 1 ∨ i = 2 ∨ i = 3 := by omega
    rcases this with rfl | rfl | rfl | rfl <;> simp [World.setCell, Array.getElem?_modify, hb]
  cuts := kept_ne (grown_cell' w bt _ v) h.cuts (own_ne h.cuts h.box (by decide))
  owners := kept_ne (grown_cell' w bt _ v) h.owners (own_ne h.owners h.box (by decide))
  rows := fun j hj => by
    try dsimp only
    by_cases e : j = i
    · subst e
      rw [if_pos rfl, if_pos rfl]
      exact kept_ne (grown_cell' w bt _ v) ho (own_ne ho h.box (by decide))
    · rw [if_neg e, if_neg e]
      exact kept_ne (grown_cell' w bt _ v) (h.rows j hj) (own_ne (h.rows j hj) h.box (by decide))
end Go.Proofs.YtimchedebcoohaaGreat
