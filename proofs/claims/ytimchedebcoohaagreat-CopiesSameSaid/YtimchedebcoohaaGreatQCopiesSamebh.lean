/- Contracts and lemmas for the proof of CopiesSame; each theorem states its own conditions. -/
import Derived.Test.YtimchedebcoohaaGreatQCopiesSamebg
import Derived.Test.YtimchedebcoohaaGreatQCopiesSameay
set_option linter.unusedVariables false
set_option linter.unusedSimpArgs false
/- Contracts and lemmas for the proofs of this seat; each theorem states its own conditions. -/
namespace Go.Proofs.YtimchedebcoohaaGreat
open Go.RowKit Go.Maps
/-! the table's steps, in memory -/
theorem grown_then_ext {a b c : World} {row : Option Nat} (h : a.grownBy b row) (k : Ext b c) : a.grownBy c row := h.trans (grown_of_ext k)
theorem Mid.ext {w0 w w' : World} {B bt bk bd : Nat} {A : List Ops} {g : Nat → Bool} {F : ByteArray → Option SV} {G : Int → Option SV} {Cl : ByteArray → Clm} {N X : Nat} {key : ByteArray} {l' : Clm} {v : Value} (h : Mid w0 B bt bk bd A g F G Cl N X key l' v w) (E : Ext w w') : Mid w0 B bt bk bd A g F G Cl N X key l' v w' := by
  obtain ⟨w1, h1, h2, h3, h4, h5⟩ := h
  exact ⟨w1, h1, grown_then_ext h2 E, own_ext h3 E, h4, h5⟩
theorem Mid.box {w0 w : World} {B bt bk bd : Nat} {A : List Ops} {g : Nat → Bool} {F : ByteArray → Option SV} {G : Int → Option SV} {Cl : ByteArray → Clm} {N X : Nat} {key : ByteArray} {l' : Clm} {v : Value} (h : Mid w0 B bt bk bd A g F G Cl N X key l' v w) : w.heap[bt]? = some (.cells #[.map (some bk), .map (some bd), .int .i64 X] 177 (0, 0)) := by
  obtain ⟨w1, h1, h2, _⟩ := h
  exact grown_heap h2 h1.box (claim_ne_box h1 key).1
/-- blocks of other elements stand -/
theorem TFr.heapG {B bt bk bd : Nat} {w w' : World} (h : TFr B bt bk bd w w') {A : List Ops} {g : Nat → Bool} {F : ByteArray → Option SV} {G : Int → Option SV} {Cl : ByteArray → Clm} {N X : Nat} (hl : LockG w B bt bk bd A g F G Cl N X) {i e : Nat} {cs : Array Value} (hi : w.heap[i]? = some (.cells cs e (0, 0))) (h1 : e ≠ 181) (h2 : e ≠ 177) : w'.heap[i]? = some (.cells cs e (0, 0)) := by
  rcases h.2.2.2.2 i (Array.getElem?_eq_some_iff.1 hi).1 with e' | ⟨_, e' | e' | e' | ⟨cs', e'⟩⟩
  · rw [e']; exact hi
  · subst e'; rw [hl.box] at hi; injection hi with hi; injection hi with _ hi; exact absurd hi.symm h2
  · subst e'
    obtain ⟨n, D, ⟨es, clock, hm, _⟩, _⟩ := hl.km
    rw [hm] at hi; cases hi
  · subst e'
    obtain ⟨n, D, ⟨es, clock, hm, _⟩, _⟩ := hl.dm
    rw [hm] at hi; cases hi
  · rw [e'] at hi; injection hi with hi; injection hi with _ hi; exact absurd hi.symm h1
theorem TFr.ownG {B bt bk bd : Nat} {w w' : World} (h : TFr B bt bk bd w w') {A : List Ops} {g : Nat → Bool} {F : ByteArray → Option SV} {G : Int → Option SV} {Cl : ByteArray → Clm} {N X : Nat} (hl : LockG w B bt bk bd A g F G Cl N X) {B' e sz n : Nat} {v : Value} {xs : List Value} (ho : w.ownsRow B' e sz v n xs) (h1 : e ≠ 181) (h2 : e ≠ 177) : w'.ownsRow B' e sz v n xs := by
  refine ⟨ho.1, ?_⟩
  rcases ho.2 with hn | ⟨b, cap, cur, rfl, hb, hg, rest⟩
  · exact .inl hn
  · exact .inr ⟨b, cap, cur, rfl, hb, h.heapG hl hg h1 h2, rest⟩
theorem TFr.of_grown {B bt bk bd i : Nat} {w w' : World} (hg : w.grownBy w' (some i)) (hB : B ≤ i) (hi : i = bt ∨ i = bk ∨ i = bd) : TFr B bt bk bd w w' :=
  ⟨hg.os, hg.tape, hg.output, hg.size, fun j hj => by
    by_cases e : j = i
    · subst e
      refine .inr ⟨hB, ?_⟩
      rcases hi with e | e | e
      · exact .inl e
      · exact .inr (.inl e)
      · exact .inr (.inr (.inl e))
    · exact .inl (hg.block j hj (fun e' => e (Option.some.inj e')))⟩
theorem not_map_row {w : World} {B e sz n b : Nat} {v : Value} {xs : List Value} (h : w.ownsRow B e sz v n xs) {R : Value → Option (DU × List MemPlace)} {k : TypeId} {m : Nat} {D : DU} (hm : w.ownsMap Tryz.prog k R b m D) : v.ownBlock ≠ some b := by
  obtain ⟨es, clock, hm, _⟩ := hm
  exact own_not_map h hm
theorem G_none {A : List Ops} {g : Nat → Bool} {G : Int → Option SV} (h : ∀ z : Int, (∀ n : Nat, z = (n : Int) → n < A.length → g n = false → False) → G z = none) : G (A.length : Int) = none :=
  h _ fun n e h1 _ => by omega
/-- next++ -/
theorem lock_next {w : World} {B bt bk bd : Nat} {A : List Ops} {g : Nat → Bool} {F : ByteArray → Option SV} {G : Int → Option SV} {Cl : ByteArray → Clm} {N X : Nat} (h : LockG w B bt bk bd A g F G Cl N X) (Y : Nat) :
    LockG (w.setCell ⟨bt, 2, none⟩ (.int .i64 Y)) B bt bk bd A g F G Cl N Y ∧ TFr B bt bk bd w (w.setCell ⟨bt, 2, none⟩ (.int .i64 Y)) := by
  have hb := h.box
  have hg : w.grownBy (w.setCell ⟨bt, 2, none⟩ (.int .i64 Y)) (some bt) := ⟨rfl, rfl, rfl, by simp [World.setCell], fun j hj hne => by
    have : bt ≠ j := fun e => hne (by rw [e])
    simp [World.setCell, Array.getElem?_modify, this]⟩
  have hmk : ∀ {b : Nat} {k : TypeId} {m : Nat} {D : DU}, w.ownsMap Tryz.prog k svElem b m D → some b ≠ some bt := by
    rintro b k m D ⟨es, clock, hm, _⟩ e
    injection e with e; subst e; rw [hb] at hm; cases hm
  refine ⟨⟨h.hBt, h.hBk, h.hBd, h.ne, ?_, ?_, ?_, fun k => ?_, h.apart, fun n h1 h2 => ?_⟩, TFr.of_grown hg h.hBt (.inl rfl)⟩
  · simp [World.setCell, Array.getElem?_modify, hb]
  · obtain ⟨n, D, a, b⟩ := h.km
    exact ⟨n, D, a.kept hg (hmk a), b⟩
  · obtain ⟨n, D, a, b⟩ := h.dm
    exact ⟨n, D, a.kept hg (hmk a), b⟩
  · exact kept_ne hg (h.keys k) (claim_ne_box h k).1
  · obtain ⟨s, e, o⟩ := h.rows n h1 h2
    exact ⟨s, e, kept_ne hg o (own_ne o hb (by decide))⟩
/-- a deed's row comes in -/
theorem lock_deed {w w' : World} {B bt bk bd : Nat} {A : List Ops} {g : Nat → Bool} {F : ByteArray → Option SV} {G : Int → Option SV} {Cl : ByteArray → Clm} {N X : Nat} (h : LockG w B bt bk bd A g F G Cl N X) (hg0 : g A.length = false) (hG : G (A.length : Int) = none) {d : Ops} {sv : SV} {n : Nat} {D : DU}
    (hmap : w.ownsMap Tryz.prog 3 svElem bd n D) (hn : n ≤ A.length) (hF : MapF kI okI dV D G) (hsz : size D = liveN g A.length) (hok : okI (A.length : Int)) (ho : w.ownsRow B 9 1 (svV sv) (tkL d).length (cS (tkL d)))
    (hmap' : w'.ownsMap Tryz.prog 3 svElem bd (n + 1) (D.put (kI A.length) (dV sv))) (hg' : w.grownBy w' (some bd)) :
    LockG w' B bt bk bd (A ++ [d]) g F (fun z => if z = (A.length : Int) then some sv else G z) Cl N X ∧ TFr B bt bk bd w w' := by
  have hbt : bt ≠ bd := by
    rintro rfl
    obtain ⟨es, clock, hm, _⟩ := hmap
    have := h.box; rw [hm] at this; cases this
  have hl : (A ++ [d]).length = A.length + 1 := by simp
  have htd := hmap.tidy lawInt
  have hhas : has D (kI A.length) = false := by rw [hF.has hok, hG]; rfl
  refine ⟨⟨h.hBt, h.hBk, h.hBd, h.ne, ?_, ?_, ⟨n + 1, _, hmap', by omega, hF.put kI_inj kI_is hok sv, ?_⟩, fun k => ?_, h.apart, fun m h1 h2 => ?_⟩, TFr.of_grown hg' h.hBd (.inr (.inr rfl))⟩
  · exact grown_heap hg' h.box (fun e => hbt (by injection e with e; exact e.symm))
  · obtain ⟨m, D', a, b⟩ := h.km
    exact ⟨m, D', a.kept hg' (fun e => h.ne (by injection e)), b⟩
  · rw [size_put htd, hhas, hsz, hl]
    simp [liveN, hg0]
  · exact kept_ne hg' (h.keys k) (not_map_row (h.keys k) hmap)
  · rw [hl] at h1
    by_cases e : m = A.length
    · subst e
      refine ⟨sv, by simp, ?_⟩
      have : (A ++ [d]).getD A.length [] = d := by simp
      rw [this]
      exact kept_ne hg' ho (not_map_row ho hmap)
    · obtain ⟨s, e1, o⟩ := h.rows m (by omega) h2
      refine ⟨s, by rw [if_neg (by omega)]; exact e1, ?_⟩
      rw [getD_app (by omega)]
      exact kept_ne hg' o (not_map_row o hmap)
/-- a deed goes -/
theorem lock_gone {w w' : World} {B bt bk bd : Nat} {A : List Ops} {g : Nat → Bool} {F : ByteArray → Option SV} {G : Int → Option SV} {Cl : ByteArray → Clm} {N X : Nat} (h : LockG w B bt bk bd A g F G Cl N X) {s : Nat} (hs : s < A.length) (hg0 : g s = false) {n : Nat} {D : DU}
    (hmap : w.ownsMap Tryz.prog 3 svElem bd n D) (hn : n ≤ A.length) (hF : MapF kI okI dV D G) (hsz : size D = liveN g A.length) (hok : okI (s : Int))
    (hmap' : w'.ownsMap Tryz.prog 3 svElem bd n (D.del (kI s))) (hg' : w.grownBy w' (some bd)) :
    LockG w' B bt bk bd A (goneW g s) F (fun z => if z = (s : Int) then none else G z) Cl N X ∧ TFr B bt bk bd w w' := by
  have hbt : bt ≠ bd := by
    rintro rfl
    obtain ⟨es, clock, hm, _⟩ := hmap
    have := h.box; rw [hm] at this; cases this
  have htd := hmap.tidy lawInt
  obtain ⟨s0, hs0, _⟩ := h.rows s hs hg0
  have hhas : has D (kI s) = true := by rw [hF.has hok, hs0]; rfl
  refine ⟨⟨h.hBt, h.hBk, h.hBd, h.ne, ?_, ?_, ⟨n, _, hmap', hn, hF.del kI_inj (s : Int), ?_⟩, fun k => ?_, h.apart, fun m h1 h2 => ?_⟩, TFr.of_grown hg' h.hBd (.inr (.inr rfl))⟩
  · exact grown_heap hg' h.box (fun e => hbt (by injection e with e; exact e.symm))
  · obtain ⟨m, D', a, b⟩ := h.km
    exact ⟨m, D', a.kept hg' (fun e => h.ne (by injection e)), b⟩
  · have := size_del (k := kI s) htd
    rw [hhas, hsz] at this
    have l := (live_gone hg0 (n := A.length)).1 hs
    simp at this; omega
  · exact kept_ne hg' (h.keys k) (not_map_row (h.keys k) hmap)
  · unfold goneW at h2
    split at h2
    · cases h2
    · rename_i hne
      obtain ⟨s', e1, o⟩ := h.rows m h1 h2
      exact ⟨s', by rw [if_neg (by omega)]; exact e1, kept_ne hg' o (not_map_row o hmap)⟩
/-- the table anew -/
theorem LockG.st {w : World} {B bt bk bd : Nat} {A : List Ops} {g : Nat → Bool} {F : ByteArray → Option SV} {G : Int → Option SV} {Cl : ByteArray → Clm} {N : Nat} (h : LockG w B bt bk bd A g F G Cl N A.length) (hN : N ≤ 32 * (A.length + (A.length - liveN g A.length))) (hc : ∀ k, Cl k = clmTo A g k A.length)
    (hnone : ∀ z : Int, (∀ n : Nat, z = (n : Int) → n < A.length → g n = false → False) → G z = none) (hlat : ∀ n, A.length ≤ n → g n = false) (hfew : A.length ≤ 60) (hd : ∀ d ∈ A, DeedOk d) : LockSt w B bt bk bd A g F G := by
  obtain ⟨h1, h2, h3, h4, h5, ⟨n, D, a, b, c⟩, h7, h8, h9, h10⟩ := h
  exact ⟨h1, h2, h3, h4, h5, ⟨n, D, a, by omega, c⟩, h7, fun k => by rw [← hc]; exact h8 k, h9, h10, hnone, hlat, hfew, hd⟩
/-- other rows may turn -/
theorem LockSt.kept {w w' : World} {B bt bk bd b e : Nat} {A : List Ops} {g : Nat → Bool} {F : ByteArray → Option SV} {G : Int → Option SV} (h : LockSt w B bt bk bd A g F G) {cs : Array Value} (hb : w.heap[b]? = some (.cells cs e (0, 0))) (h1 : 181 ≠ e) (h2 : 177 ≠ e) (h3 : 9 ≠ e) (hg : w.grownBy w' (some b)) : LockSt w' B bt bk bd A g F G where
  hBt := h.hBt
  hBk := h.hBk
  hBd := h.hBd
  ne := h.ne
  box := grown_heap hg h.box fun e' => by
    injection e' with e'; subst e'; rw [h.box] at hb; injection hb with hb; injection hb with _ hb; exact h2 hb
  km := by
    obtain ⟨n, D, a, r⟩ := h.km
    refine ⟨n, D, a.kept hg fun e' => ?_, r⟩
    obtain ⟨es, clock, hm, _⟩ := a
    injection e' with e'; subst e'; rw [hm] at hb; cases hb
  dm := by
    obtain ⟨n, D, a, r⟩ := h.dm
    refine ⟨n, D, a.kept hg fun e' => ?_, r⟩
    obtain ⟨es, clock, hm, _⟩ := a
    injection e' with e'; subst e'; rw [hm] at hb; cases hb
  keys := fun k => kept_ne hg (h.keys k) (own_ne (h.keys k) hb h1)
  apart := h.apart
  rows := fun n x y => by obtain ⟨s, q, o⟩ := h.rows n x y; exact ⟨s, q, kept_ne hg o (own_ne o hb h3)⟩
  nones := h.nones
  later := h.later
  few := h.few
  dok := h.dok
theorem grown_cell (w : World) (g i : Nat) (u : Value) : w.grownBy (w.setCell ⟨g, i, none⟩ u) (some g) := ⟨rfl, rfl, rfl, by simp [World.setCell], fun j hj hne => by
    have : g ≠ j := fun e => hne (by rw [e])
    simp [World.setCell, Array.getElem?_modify, this]⟩
end Go.Proofs.YtimchedebcoohaaGreat

/- Contracts and lemmas for the proofs of this seat; each theorem states its own conditions. -/
namespace Go.Proofs.YtimchedebcoohaaGreat
open Go.RowKit
/-! parts of a store, in memory -/
structure PartsSt (w : World) (bt : Nat) (C : List ByteArray) (O : List Int) (P : Nat → Prs) (vc vo : Value) (pv : Nat → Value) : Prop where
  box : w.heap[bt]? = some (.cells #[vc, vo, pv 0, pv 1, pv 2, pv 3] 189 (0, 0))
  cuts : w.ownsRow 0 9 1 vc C.length (cS C)
  owners : w.ownsRow 0 3 1 vo O.length (cI O)
  rows : ∀ i, i < 4 → w.ownsRow 0 33 2 (pv i) (P i).length (cP (P i))
theorem PartsSt.ext {w w' : World} {bt : Nat} {C : List ByteArray} {O : List Int} {P : Nat → Prs} {vc vo : Value} {pv : Nat → Value} (h : PartsSt w bt C O P vc vo pv) (E : Ext w w') : PartsSt w' bt C O P vc vo pv :=
  ⟨E.heap h.box, own_ext h.cuts E, own_ext h.owners E, fun i hi => own_ext (h.rows i hi) E⟩
theorem PartsSt.lt {w : World} {bt : Nat} {C : List ByteArray} {O : List Int} {P : Nat → Prs} {vc vo : Value} {pv : Nat → Value} (h : PartsSt w bt C O P vc vo pv) : bt < w.heap.size := (Array.getElem?_eq_some_iff.1 h.box).1
theorem PartsSt.is {w : World} {bt : Nat} {C : List ByteArray} {O : List Int} {P : Nat → Prs} {vc vo : Value} {pv : Nat → Value} (h : PartsSt w bt C O P vc vo pv) : IsMap w (.agg #[vc, vo]) C O :=
  ⟨vc, vo, rfl, own_seg h.cuts, own_seg h.owners⟩
theorem PartsSt.cell0 {w : World} {bt : Nat} {C : List ByteArray} {O : List Int} {P : Nat → Prs} {vc vo : Value} {pv : Nat → Value} (h : PartsSt w bt C O P vc vo pv) : w.cell? ⟨bt, 0, none⟩ = some vc ∧ w.cell? ⟨bt, 1, none⟩ = some vo := by
  have hb := h.box
  simp [World.cell?, hb]
theorem PartsSt.cellI {w : World} {bt : Nat} {C : List ByteArray} {O : List Int} {P : Nat → Prs} {vc vo : Value} {pv : Nat → Value} (h : PartsSt w bt C O P vc vo pv) {i : Nat} (hi : i < 4) : w.cell? ⟨bt, 2 + i, none⟩ = some (pv i) ∧ w.frozen? ⟨bt, 2 + i, none⟩ = false := by
  have hb := h.box
  have : i = 0 ∨ i = 1 ∨ i = 2 ∨ i = 3 := by omega
  rcases this with rfl | rfl | rfl | rfl <;> simp [World.cell?, World.frozen?, hb]
/-- only the box has been written -/
theorem PartsSt.beside {w w' : World} {bt b : Nat} {C : List ByteArray} {O : List Int} {P : Nat → Prs} {vc vo : Value} {pv : Nat → Value} (h : PartsSt w bt C O P vc vo pv) (hg : w.grownBy w' (some b)) {cs : Array Value} {fr : Nat × Nat} (hb : w.heap[b]? = some (.cells cs 189 fr)) (hne : b ≠ bt) : PartsSt w' bt C O P vc vo pv where
  box := by
    rw [hg.block bt h.lt (fun e => by injection e with e; exact hne e.symm)]
    exact h.box
  cuts := kept_ne hg h.cuts (own_ne h.cuts hb (by decide))
  owners := kept_ne hg h.owners (own_ne h.owners hb (by decide))
  rows := fun i hi => kept_ne hg (h.rows i hi) (own_ne (h.rows i hi) hb (by decide))
theorem grown_cell' (w : World) (g i : Nat) (u : Value) : w.grownBy (w.setCell ⟨g, i, none⟩ u) (some g) := ⟨rfl, rfl, rfl, by simp [World.setCell], fun j hj hne => by
  have : g ≠ j := fun e => hne (by rw [e])
  simp [World.setCell, Array.getElem?_modify, this]⟩
/-- another part in its place -/
theorem PartsSt.set {w : World} {bt : Nat} {C : List ByteArray} {O : List Int} {P : Nat → Prs} {vc vo : Value} {pv : Nat → Value} (h : PartsSt w bt C O P vc vo pv) {i : Nat} (hi : i < 4) {v : Value} {L : Prs} (ho : w.ownsRow 0 33 2 v L.length (cP L)) :
    PartsSt (w.setCell ⟨bt, 2 + i, none⟩ v) bt C O (fun j => if j = i then L else P j) vc vo (fun j => if j = i then v else pv j) where
  box := by
    have hb := h.box
    have : i = 0 ∨ i = 1 ∨ i = 2 ∨ i = 3 := by omega
    rcases this with rfl | rfl | rfl | rfl <;> simp [World.setCell, Array.getElem?_modify, hb]
  cuts := kept_ne (grown_cell' w bt _ v) h.cuts (own_ne h.cuts h.box (by decide))
  owners := kept_ne (grown_cell' w bt _ v) h.owners (own_ne h.owners h.box (by decide))
  rows := fun j hj => by
    try dsimp only
    by_cases e : j = i
    · subst e
      rw [if_pos rfl, if_pos rfl]
      exact kept_ne (grown_cell' w bt _ v) ho (own_ne ho h.box (by decide))
    · rw [if_neg e, if_neg e]
      exact kept_ne (grown_cell' w bt _ v) (h.rows j hj) (own_ne (h.rows j hj) h.box (by decide))
end Go.Proofs.YtimchedebcoohaaGreat

/- Contracts and lemmas for the proofs of this seat; each theorem states its own conditions. -/
namespace Go.Proofs.YtimchedebcoohaaGreat
/-! parts of a store, all and turned, in plain lists -/
/-- what the last one says -/
def lastV (v : Int) : Prs → ByteArray → Int
  | [], _ => v
  | x :: l, k => lastV (if x.1 = k then x.2 else v) l k
theorem lastV_app (v : Int) (a b : Prs) (k : ByteArray) : lastV v (a ++ b) k = lastV (lastV v a k) b k := by
  induction a generalizing v with
  | nil => rfl
  | cons x a ih => rw [List.cons_append, lastV, ih]; rfl
theorem lastV_filter (p : ByteArray → Bool) (v : Int) (l : Prs) (k : ByteArray) : lastV v (l.filter fun x => p x.1) k = if p k = true then lastV v l k else v := by
  induction l generalizing v with
  | nil => simp [lastV]
  | cons x l ih =>
    rw [List.filter_cons]
    by_cases h : x.1 = k
    · subst h
      cases hp : p x.1
      · rw [if_neg (by simp), ih]; simp [hp]
      · rw [if_pos rfl, lastV, ih, lastV]; simp [hp]
    · cases hp : p x.1
      · rw [if_neg (by simp), ih, lastV, if_neg h]
      · rw [if_pos rfl, lastV, ih, lastV, if_neg h]
theorem val_no {l : Prs} {k : ByteArray} (h : ∀ x ∈ l, x.1 ≠ k) : valP l k = 0 := by
  induction l with
  | nil => rfl
  | cons x l ih => rw [valP, if_neg (h x (by simp)), ih fun y hy => h y (by simp [hy])]
theorem lastV_store {l : Prs} (hs : srtP l) (hz : ∀ x ∈ l, x.2 ≠ 0) (v : Int) (k : ByteArray) : lastV v l k = if valP l k = 0 then v else valP l k := by
  induction l generalizing v with
  | nil => simp [lastV, valP]
  | cons x l ih =>
    obtain ⟨h1, h2⟩ := srtP_cons.1 hs
    rw [lastV, ih h2 (fun y hy => hz y (by simp [hy])), valP]
    by_cases e : x.1 = k
    · subst e
      have h0 : valP l x.1 = 0 := val_no fun y hy e => by have := h1 y hy; rw [e, blt_irrefl] at this; cases this
      rw [if_pos rfl, h0, if_pos rfl, if_pos rfl, if_neg (hz x (by simp))]
    · rw [if_neg e, if_neg e]
/-- one put after the other -/
def foldW (A : Prs) (l : Prs) : Prs := l.foldl (fun a x => withP a x.1 x.2) A
theorem foldW_app (A l m : Prs) : foldW A (l ++ m) = foldW (foldW A l) m := by unfold foldW; rw [List.foldl_append]
theorem foldW_one (A : Prs) (x : ByteArray × Int) : foldW A [x] = withP A x.1 x.2 := rfl
theorem foldW_ok : ∀ {l A : Prs}, StoreOk A → (∀ x ∈ l, keyB x.1 = true ∧ -1000000000 ≤ x.2 ∧ x.2 ≤ 1000000000) → StoreOk (foldW A l) ∧ (foldW A l).length ≤ A.length + l.length ∧ ∀ k, valP (foldW A l) k = lastV (valP A k) l k
  | [], A, h, _ => ⟨h, Nat.le_refl _, fun k => rfl⟩
  | x :: l, A, h, hl => by
    obtain ⟨q1, q2⟩ := hl x (by simp)
    obtain ⟨a, b, c⟩ := foldW_ok (l := l) (storeOk_with h q1 q2) fun y hy => hl y (by simp [hy])
    have hw := with_len A x.1 x.2
    refine ⟨a, by have e : foldW A (x :: l) = foldW (withP A x.1 x.2) l := rfl
                  rw [e, List.length_cons]; omega, fun k => ?_⟩
    have e : foldW A (x :: l) = foldW (withP A x.1 x.2) l := rfl
    rw [e, c k, val_with h.srt, lastV]
/-- the parts below i, in a row -/
def allP (P : Nat → Prs) : Nat → Prs
  | 0 => []
  | i + 1 => allP P i ++ P i
/-- the parts of a store -/
def parP (C : List ByteArray) (O : List Int) (S : Prs) (i : Nat) : Prs := partP C O S (i : Int)
theorem par_ok {S : Prs} (h : StoreOk S) (C : List ByteArray) (O : List Int) (i : Nat) : StoreOk (parP C O S i) := storeOk_filter h _
theorem par_len (C : List ByteArray) (O : List Int) (S : Prs) (i : Nat) : (parP C O S i).length ≤ S.length := List.length_filter_le _ _
theorem par_val {S : Prs} (h : StoreOk S) (C : List ByteArray) (O : List Int) (i : Nat) (k : ByteArray) : valP (parP C O S i) k = if whose C O k = (i : Int) then valP S k else 0 := by
  unfold parP
  rw [partP, val_filter h.srt]
  by_cases e : whose C O k = (i : Int)
  · rw [if_pos (by simp [e]), if_pos e]
  · rw [if_neg (by simp [e]), if_neg e]
theorem par_mem {C : List ByteArray} {O : List Int} {S : Prs} {i : Nat} {x : ByteArray × Int} (h : x ∈ parP C O S i) : whose C O x.1 = (i : Int) ∧ x ∈ S := by
  unfold parP partP at h
  obtain ⟨h1, h2⟩ := List.mem_filter.1 h
  exact ⟨by simpa using h2, h1⟩
theorem all_mem {C : List ByteArray} {O : List Int} {S : Prs} {x : ByteArray × Int} : ∀ {i : Nat}, x ∈ allP (parP C O S) i → x ∈ S
  | 0, h => by simp [allP] at h
  | i + 1, h => by
    rcases List.mem_append.1 h with h | h
    · exact all_mem h
    · exact (par_mem h).2
theorem all_pr {C : List ByteArray} {O : List Int} {S : Prs} (hS : StoreOk S) {i : Nat} : ∀ x ∈ allP (parP C O S) i, keyB x.1 = true ∧ -1000000000 ≤ x.2 ∧ x.2 ≤ 1000000000 := fun x hx => ⟨hS.key x (all_mem hx), (hS.val x (all_mem hx)).2⟩
theorem all_last {C : List ByteArray} {O : List Int} (hm : MapOk C O) {S : Prs} (hS : StoreOk S) (k : ByteArray) : ∀ i : Nat, lastV 0 (allP (parP C O S) i) k = if whose C O k < (i : Int) then valP S k else 0
  | 0 => by rw [if_neg (by have := (whose_rng hm k).1; simp; omega)]; rfl
  | i + 1 => by
    have hp := par_ok hS C O i
    rw [allP, lastV_app, all_last hm hS k i, lastV_store hp.srt hp.nz, par_val hS]
    by_cases e : whose C O k = (i : Int)
    · rw [if_pos e]
      have h1 : ¬ whose C O k < (i : Int) := by omega
      have h2 : whose C O k < ((i + 1 : Nat) : Int) := by omega
      rw [if_neg h1, if_pos h2]
      split
      · rename_i h; exact h.symm
      · rfl
    · rw [if_neg e, if_pos rfl]
      by_cases e2 : whose C O k < (i : Int)
      · rw [if_pos e2, if_pos (by omega)]
      · rw [if_neg e2, if_neg (by omega)]
/-- all that all have is the store -/
theorem all_store {C : List ByteArray} {O : List Int} (hm : MapOk C O) {S : Prs} (hS : StoreOk S) : foldW [] (allP (parP C O S) 4) = S := by
  obtain ⟨a, _, c⟩ := foldW_ok (l := allP (parP C O S) 4) storeOk_nil (all_pr hS)
  refine store_ext a hS fun k => ?_
  have hr : whose C O k < ((4 : Nat) : Int) := (whose_rng hm k).2
  rw [c k]
  show lastV 0 _ k = _
  rw [all_last hm hS, if_pos hr]
/-- all of whom a map names -/
def toP (C : List ByteArray) (O : List Int) (l : Prs) (a : Nat) : Prs := l.filter fun x => decide (whose C O x.1 = (a : Int))
theorem turn_store {C C' : List ByteArray} {O O' : List Int} (hm : MapOk C O) {S : Prs} (hS : StoreOk S) (a : Nat) : foldW [] (toP C' O' (allP (parP C O S) 4) a) = parP C' O' S a := by
  obtain ⟨p, _, c⟩ := foldW_ok (l := toP C' O' (allP (parP C O S) 4) a) storeOk_nil (fun x hx => all_pr hS x (List.mem_filter.1 hx).1)
  refine store_ext p (par_ok hS C' O' a) fun k => ?_
  have hr : whose C O k < ((4 : Nat) : Int) := (whose_rng hm k).2
  rw [c k, par_val hS]
  show lastV 0 _ k = _
  unfold toP
  rw [lastV_filter (fun k => decide (whose C' O' k = (a : Int))), all_last hm hS, if_pos hr]
  simp
theorem toP_add (C : List ByteArray) (O : List Int) (l : Prs) (x : ByteArray × Int) (a : Nat) : toP C O (l ++ [x]) a = if whose C O x.1 = (a : Int) then toP C O l a ++ [x] else toP C O l a := by
  unfold toP
  rw [List.filter_append]
  by_cases e : whose C O x.1 = (a : Int)
  · simp [e]
  · simp [e]
/-- how many have another owner by another map -/
def movedN (C C' : List ByteArray) (O O' : List Int) (l : Prs) : Nat := l.countP fun x => whose C' O' x.1 != whose C O x.1
theorem moved_app (C C' : List ByteArray) (O O' : List Int) (l m : Prs) : movedN C C' O O' (l ++ m) = movedN C C' O O' l + movedN C C' O O' m := List.countP_append
theorem moved_one (C C' : List ByteArray) (O O' : List Int) (x : ByteArray × Int) : movedN C C' O O' [x] = if whose C' O' x.1 = whose C O x.1 then 0 else 1 := by
  unfold movedN
  rw [List.countP_cons]
  by_cases e : whose C' O' x.1 = whose C O x.1
  · simp [e]
  · simp [e]
theorem moved_to (C C' : List ByteArray) (O O' : List Int) (S : Prs) : ∀ i : Nat, movedN C C' O O' (allP (parP C O S) i) = movedN C C' O O' (S.filter fun x => decide (0 ≤ whose C O x.1) && decide (whose C O x.1 < (i : Int)))
  | 0 => by
    have : (S.filter fun x => decide (0 ≤ whose C O x.1) && decide (whose C O x.1 < ((0 : Nat) : Int))) = [] := by
      rw [List.filter_eq_nil_iff]
      intro x _
      simp
    rw [this]; rfl
  | i + 1 => by
    rw [allP, moved_app, moved_to C C' O O' S i]
    unfold movedN parP partP
    induction S with
    | nil => rfl
    | cons x S ih =>
      simp only [List.filter_cons]
      by_cases e : whose C O x.1 = (i : Int)
      · have h1 : (decide (0 ≤ whose C O x.1) && decide (whose C O x.1 < (i : Int))) = false := by simp; omega
        have h2 : (!(whose C O x.1 != (i : Int))) = true := by simp [e]
        have h3 : (decide (0 ≤ whose C O x.1) && decide (whose C O x.1 < ((i + 1 : Nat) : Int))) = true := by simp; omega
        rw [h1, h2, h3]
        simp only [Bool.false_eq_true, if_false, if_true, List.countP_cons]
        omega
      · have h2 : (!(whose C O x.1 != (i : Int))) = false := by simp [e]
        have h3 : (decide (0 ≤ whose C O x.1) && decide (whose C O x.1 < ((i + 1 : Nat) : Int))) = (decide (0 ≤ whose C O x.1) && decide (whose C O x.1 < (i : Int))) := by
          congr 1
          rw [decide_eq_decide]
          constructor <;> intro h <;> omega
        rw [h2, h3]
        cases decide (0 ≤ whose C O x.1) && decide (whose C O x.1 < (i : Int))
        · simpa using ih
        · simp only [Bool.false_eq_true, if_false, if_true, List.countP_cons]
          omega
theorem moved_all {C : List ByteArray} {O : List Int} (hm : MapOk C O) (C' : List ByteArray) (O' : List Int) (S : Prs) : movedN C C' O O' (allP (parP C O S) 4) = movedN C C' O O' S := by
  rw [moved_to]
  congr 1
  rw [List.filter_eq_self]
  intro x _
  have := whose_rng hm x.1
  simp; omega
theorem moved_le (C C' : List ByteArray) (O O' : List Int) (S : Prs) : movedN C C' O O' S ≤ S.length := List.countP_le_length
theorem moved_back (C C' : List ByteArray) (O O' : List Int) (S : Prs) : movedN C' C O' O S = movedN C C' O O' S := by
  unfold movedN
  congr 1
  funext x
  exact bne_comm
theorem moved_same (C : List ByteArray) (O : List Int) (S : Prs) : movedN C C O O S = 0 := by
  unfold movedN
  rw [List.countP_eq_zero]
  intro x _
  simp
theorem filter_two {α : Type} {p q r : α → Bool} (h1 : ∀ x, p x = true → r x = true) (h2 : ∀ x, q x = true → r x = true) (h3 : ∀ x, p x = true → q x = true → False) : ∀ l : List α, (l.filter p).length + (l.filter q).length ≤ (l.filter r).length
  | [] => by simp
  | x :: l => by
    have ih := filter_two h1 h2 h3 l
    simp only [List.filter_cons]
    cases hp : p x with
    | true =>
      cases hq : q x with
      | true => exact absurd hq (fun e => h3 x hp e)
      | false => rw [if_pos rfl, if_neg (by simp), if_pos (h1 x hp)]; simp only [List.length_cons]; omega
    | false =>
      cases hq : q x with
      | true => rw [if_neg (by simp), if_pos rfl, if_pos (h2 x hq)]; simp only [List.length_cons]; omega
      | false =>
        rw [if_neg (by simp), if_neg (by simp)]
        split
        · simp only [List.length_cons]; omega
        · exact ih
theorem all_len0 (C : List ByteArray) (O : List Int) (S : Prs) : ∀ i : Nat, (allP (parP C O S) i).length ≤ (S.filter fun x => decide (0 ≤ whose C O x.1) && decide (whose C O x.1 < (i : Int))).length
  | 0 => by simp [allP]
  | i + 1 => by
    rw [allP, List.length_append]
    have ih := all_len0 C O S i
    have e : parP C O S i = S.filter fun x => !(whose C O x.1 != (i : Int)) := rfl
    have h := filter_two (p := fun x : ByteArray × Int => decide (0 ≤ whose C O x.1) && decide (whose C O x.1 < (i : Int))) (q := fun x => !(whose C O x.1 != (i : Int))) (r := fun x => decide (0 ≤ whose C O x.1) && decide (whose C O x.1 < ((i + 1 : Nat) : Int)))
      (fun x hx => by simp only [Bool.and_eq_true, decide_eq_true_eq] at hx ⊢; omega) (fun x hx => by simp only [Bool.and_eq_true, decide_eq_true_eq, Bool.not_eq_true', bne_eq_false_iff_eq] at hx ⊢; omega) (fun x hx hy => by simp only [Bool.and_eq_true, decide_eq_true_eq, Bool.not_eq_true', bne_eq_false_iff_eq] at hx hy; omega) S
    rw [e]; omega
theorem all_len (C : List ByteArray) (O : List Int) (S : Prs) (i : Nat) : (allP (parP C O S) i).length ≤ S.length := by
  have := all_len0 C O S i
  have h2 := List.length_filter_le (fun x : ByteArray × Int => decide (0 ≤ whose C O x.1) && decide (whose C O x.1 < (i : Int))) S
  omega
end Go.Proofs.YtimchedebcoohaaGreat

/- Contracts and lemmas for the proofs of this seat; each theorem states its own conditions. -/
namespace Go.Proofs.YtimchedebcoohaaGreat
open Go.RowKit
/-! two appends in one region that draws its order -/
/-- append under a frame of appends: at the operation -/
theorem wpList_appG {P : Program} {w : World} {ops : Array Oper} {rest : List Oper} {o : Oper} {a : Act} {Q : Exit → Act → World → Prop} (hgd : o.guard = none) (s x : Operand) (t : TypeId)
    (ho : o.op = .call { callee := .builtin .append, args := #[s, x], argTypes := #[t, t] })
    (base : Nat) (e : TypeId) (z : Value) (size bytes : Nat) (ht : P.underlying t = some (.slice e))
    (hinfo : (P.info? e).map (fun i => (i.zero, i.size, i.bytes)) = some (some z, size, bytes)) (hzs : z.cells.size = size) (hsz : 0 < size)
    (v : Value) (n : Nat) (xs : List Value) (hs : a.eval s = v) (hown : w.ownsRow base e size v n xs)
    (xv : Value) (m : Nat) (news : List Value) (hx : a.eval x = xv) (hm : 0 < m) (hseg : Seg w xv size m news) (h1 : ∀ u ∈ news, u.oneCell' = true)
    (hbytes : (n + m) * bytes ≤ 140737488355328) (h63 : n + m ≤ maxLen) (hbase : base ≤ w.heap.size)
    (G : Nat → Option (Nat × List Value)) (hG : ∀ g, v.ownBlock = some g → ∃ o, o = n * size ∧ G g = some (o, news)) (hGlt : ∀ k, w.heap.size ≤ k → G k = none)
    (h : ∀ v' w', OwnG G base e size v' (n + m) (xs ++ news) w' → GF G w w' → (∀ k, v'.ownBlock = some k → v.ownBlock = some k ∨ w.heap.size ≤ k) → wpList P ops Q rest (a.put o.dst v') w') : wpList P ops Q (o :: rest) a w := by
  obtain ⟨hl, ad, cap, rfl, hc1, hc2, hc3⟩ := hseg
  obtain ⟨b, off, rfl, h6⟩ := hc3 hm
  obtain ⟨v', w', r1, r2, r3, _, r5⟩ := run_app (P := P) w t o.type e z size bytes ht hinfo hzs hsz base v n xs hown ⟨b, off, none⟩ m cap news hl (fun j u hu => by rw [addr_add]; exact h6 j u hu) h1 hbytes h63 hbase G (fun g hg => by obtain ⟨o', e, h⟩ := hG g hg; rw [← e]; exact h) hGlt
  refine wpList_plain hgd fun K hK => ?_
  unfold Oper.wp
  simp [execOp, ho, resolve, invoke, builtin, hs, hx, r1, Result.andThen]
  exact hK _ _ (h v' w' r2 r3 r5)
/-- what two appends turn: r's row by ns, w's row by ms -/
def G2 (r : Value) (n : Nat) (ns : List Value) (u : Value) (m : Nat) (ms : List Value) : Nat → Option (Nat × List Value) := fun g =>
  if r.ownBlock = some g then some (n, ns) else if u.ownBlock = some g then some (m, ms) else none
theorem g2_fst {r u : Value} {n m : Nat} {ns ms : List Value} : ∀ g, r.ownBlock = some g → G2 r n ns u m ms g = some (n, ns) := fun g h => by simp [G2, h]
theorem g2_snd {r u : Value} {n m : Nat} {ns ms : List Value} (ha : ∀ k, r.ownBlock = some k → u.ownBlock ≠ some k) : ∀ g, u.ownBlock = some g → G2 r n ns u m ms g = some (m, ms) := fun g h => by
  have : r.ownBlock ≠ some g := fun e => ha g e h
  simp [G2, h, this]
theorem g2_none {r u : Value} {n m : Nat} {ns ms : List Value} {N : Nat} (hr : ∀ k, r.ownBlock = some k → k < N) (hu : ∀ k, u.ownBlock = some k → k < N) : ∀ k, N ≤ k → G2 r n ns u m ms k = none := fun k hk => by
  have h1 : r.ownBlock ≠ some k := fun e => by have := hr k e; omega
  have h2 : u.ownBlock ≠ some k := fun e => by have := hu k e; omega
  simp [G2, h1, h2]
theorem g2_own_fst {r u : Value} {n m B e : Nat} {ns ms xs : List Value} {w : World} (h : w.ownsRow B e 1 r n xs) : OwnG (G2 r n ns u m ms) B e 1 r n xs w :=
  ⟨h, fun g hg o os ho => by rw [g2_fst g hg] at ho; injection ho with ho; injection ho with h1 h2; left; omega⟩
theorem g2_own_snd {r u : Value} {n m B e : Nat} {ns ms xs : List Value} {w : World} (ha : ∀ k, r.ownBlock = some k → u.ownBlock ≠ some k) (h : w.ownsRow B e 1 u m xs) : OwnG (G2 r n ns u m ms) B e 1 u m xs w :=
  ⟨h, fun g hg o os ho => by rw [g2_snd ha g hg] at ho; injection ho with ho; injection ho with h1 h2; left; omega⟩
theorem g2_fst1 {r u : Value} {n m : Nat} {ns ms : List Value} : ∀ g, r.ownBlock = some g → ∃ o, o = n * 1 ∧ G2 r n ns u m ms g = some (o, ns) := fun g h => ⟨n, by omega, g2_fst g h⟩
theorem g2_snd1 {r u : Value} {n m : Nat} {ns ms : List Value} (ha : ∀ k, r.ownBlock = some k → u.ownBlock ≠ some k) : ∀ g, u.ownBlock = some g → ∃ o, o = m * 1 ∧ G2 r n ns u m ms g = some (o, ms) := fun g h => ⟨m, by omega, g2_snd ha g h⟩
/-- a fresh block with some cells -/
def NewB (N : Nat) (cs : Array Value) (e : TypeId) (m : Nat) (v : Value) (w : World) : Prop := ∃ b, v = .slice (some ⟨b, 0, none⟩) m m ∧ w.heap[b]? = some (.cells cs e (0, 0)) ∧ N ≤ b
theorem NewB.st {G : Nat → Option (Nat × List Value)} {N m : Nat} {cs : Array Value} {e : TypeId} {v : Value} {w w' : World} (hG : ∀ k, N ≤ k → G k = none) (hF : GF G w w') (h : NewB N cs e m v w) : NewB N cs e m v w' := by
  obtain ⟨b, h1, h2, h3⟩ := h
  exact ⟨b, h1, gf_heap hF h2 (hG b h3), h3⟩
theorem NewB.seg {N m : Nat} {cs : List Value} {e : TypeId} {v : Value} {w : World} (h : NewB N cs.toArray e m v w) (hl : cs.length = m) (hm : m ≤ 10) : Seg w v 1 m cs := by
  obtain ⟨b, rfl, h2, _⟩ := h
  exact seg_blk h2 (by omega) (Nat.le_refl _) (by unfold maxLen; omega)
theorem gf_size {G : Nat → Option (Nat × List Value)} {w w' : World} (h : GF G w w') : w.heap.size ≤ w'.heap.size := h.2.2.2.1
theorem phNew {G : Nat → Option (Nat × List Value)} {w0 w' : World} {x : Nat → Value} {cs : Array Value} {e : TypeId} {m : Nat} (hE : GF G w0 w') :
    PR.PhOk (GF G) w0 (.p (NewB w0.heap.size cs e m)) x w' (.slice (some ⟨w'.heap.size, 0, none⟩) m m) (w'.alloc (.cells cs e (0, 0))) :=
  PR.phN (gf_fr G) ⟨_, rfl, heap_alloc_new _ _, gf_size hE⟩ hE (gf_ext ((Ext.refl _).alloc _))
/-- what the first append leaves -/
def App1 (G : Nat → Option (Nat × List Value)) (N B e : Nat) (r : Value) (n : Nat) (xs : List Value) (v : Value) (w : World) : Prop :=
  OwnG G B e 1 v n xs w ∧ ∀ k, v.ownBlock = some k → r.ownBlock = some k ∨ (N ≤ k ∧ k < w.heap.size)
theorem App1.st {G : Nat → Option (Nat × List Value)} {N B e n : Nat} {r v : Value} {xs : List Value} {w w' : World} (hF : GF G w w') (h : App1 G N B e r n xs v w) : App1 G N B e r n xs v w' :=
  ⟨OwnG.st hF h.1, fun k hk => by
    rcases h.2 k hk with a | ⟨a, b⟩
    · exact .inl a
    · exact .inr ⟨a, Nat.lt_of_lt_of_le b (gf_size hF)⟩⟩
/-- and the second -/
def App2 (G : Nat → Option (Nat × List Value)) (N B e : Nat) (r : Value) (n : Nat) (xs : List Value) (l : List Value) (v : Value) (w : World) : Prop :=
  OwnG G B e 1 v n xs w ∧ (∀ k, v.ownBlock = some k → r.ownBlock = some k ∨ N ≤ k) ∧ ∀ u ∈ l, ∀ k, u.ownBlock = some k → v.ownBlock ≠ some k
theorem App2.st {G : Nat → Option (Nat × List Value)} {N B e n : Nat} {r v : Value} {xs l : List Value} {w w' : World} (hF : GF G w w') (h : App2 G N B e r n xs l v w) : App2 G N B e r n xs l v w' := ⟨OwnG.st hF h.1, h.2.1, h.2.2⟩
theorem app1_mk {G : Nat → Option (Nat × List Value)} {N B e n : Nat} {r v : Value} {xs : List Value} {w' w'' : World} (hN : N ≤ w'.heap.size) (o1 : OwnG G B e 1 v n xs w'') (o3 : ∀ k, v.ownBlock = some k → r.ownBlock = some k ∨ w'.heap.size ≤ k) : App1 G N B e r n xs v w'' :=
  ⟨o1, fun k hk => by
    rcases o3 k hk with a | a
    · exact .inl a
    · exact .inr ⟨by omega, (o1.1.lt k hk).2⟩⟩
theorem app2_mk {G : Nat → Option (Nat × List Value)} {w0 : World} {N B e n n1 : Nat} {r u v v1 : Value} {xs xs1 : List Value} {w' w'' : World} (hN : N ≤ w'.heap.size) (hr : ∀ k, r.ownBlock = some k → k < N) (hu : ∀ k, u.ownBlock = some k → k < N) (ha : ∀ k, r.ownBlock = some k → u.ownBlock ≠ some k)
    (u1 : PR.Up (GF G) w0 w' (App1 G N B e r n1 xs1 v1)) (o1 : OwnG G B e 1 v n xs w'') (o3 : ∀ k, v.ownBlock = some k → u.ownBlock = some k ∨ w'.heap.size ≤ k) : App2 G N B e u n xs [v1] v w'' := by
  have h1 := u1.now (fun a b => App1.st a b)
  refine ⟨o1, fun k hk => ?_, fun y hy k hk hk' => ?_⟩
  · rcases o3 k hk with a | a
    · exact .inl a
    · exact .inr (by omega)
  · simp at hy; subst hy
    rcases h1.2 k hk with a | ⟨a, b⟩
    · rcases o3 k hk' with c | c
      · exact ha k a c
      · have := hr k a; omega
    · rcases o3 k hk' with c | c
      · have := hu k c; omega
      · omega
end Go.Proofs.YtimchedebcoohaaGreat
