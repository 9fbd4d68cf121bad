/- Contracts and lemmas for the proof of PartsPlay; each theorem states its own conditions. -/
import Derived.Test.YtimchedebcoohaaGreatDoorQPartsPlaybc
import Derived.Test.YtimchedebcoohaaGreatDoorQPartsPlaybe
import Derived.Test.YtimchedebcoohaaGreatDoorQPartsPlaybk
import Derived.Test.YtimchedebcoohaaGreatDoorQPartsPlayas
import Derived.Test.YtimchedebcoohaaGreatDoorQPartsPlaybj
import Derived.Test.YtimchedebcoohaaGreatDoorQPartsPlaybr
import Derived.Test.YtimchedebcoohaaGreatDoorQPartsPlaybb
import Derived.Test.YtimchedebcoohaaGreatDoorQPartsPlayae
import Derived.Test.YtimchedebcoohaaGreatDoorQPartsPlayau
import Derived.Test.YtimchedebcoohaaGreatDoorQPartsPlaybu
import Derived.Deep.RegionHeld3
import Derived.BigRegion
import Derived.Test.YtimchedebcoohaaGreatDoorQPartsPlaybs
import Derived.Test.YtimchedebcoohaaGreatDoorQPartsPlayao
import Derived.Test.YtimchedebcoohaaGreatDoorQPartsPlaybl
import Derived.Test.YtimchedebcoohaaGreatDoorQPartsPlaybv
import Derived.Test.YtimchedebcoohaaGreatDoorQPartsPlaybq
import Derived.Test.YtimchedebcoohaaGreatDoorQPartsPlaybx
set_option linter.unusedVariables false
set_option linter.unusedSimpArgs false
/- Contracts and lemmas for the proofs of this seat; each theorem states its own conditions. -/
namespace Go.Proofs.YtimchedebcoohaaGreatDoor
open Go.RowKit Go.Maps
/-! writing beside a lock table -/
end Go.Proofs.YtimchedebcoohaaGreatDoor

/- Contracts and lemmas for the proofs of this seat; each theorem states its own conditions. -/
namespace Go.Proofs.YtimchedebcoohaaGreatDoor
open Go.RowKit
theorem own_nat {w : World} {B n c g : Nat} {l : List Nat} (h : w.ownsRow B 3 1 (.slice (some ⟨g, 0, none⟩) n c) n (cN l)) {i : Nat} (hi : i < l.length) : w.cell? ⟨g, i, none⟩ = some (.int .i64 ((l[i] : Nat) : Int)) := by
  have hl : l.length = n := by have := h.1; simpa [cN] using this
  obtain ⟨_, _, he, _, _, _, hc⟩ := seg_cells (own_seg h) (by omega)
  injection he with he; injection he with he1 he2
  subst he1; subst he2
  have := hc i (.int .i64 ((l[i] : Nat) : Int)) (by simp [cN, hi])
  rw [Nat.zero_add] at this
  exact this
theorem ready_nodup (A : List Ops) (g : Nat → Bool) (n : Nat) : (readyL A g n).Nodup := List.Pairwise.filter _ List.nodup_range
theorem ready_inj {A : List Ops} {g : Nat → Bool} {n i j : Nat} {hi : i < (readyL A g n).length} {hj : j < (readyL A g n).length} (hne : i ≠ j) : (readyL A g n)[i] ≠ (readyL A g n)[j] := by
  rcases Nat.lt_or_ge i j with k | k
  · exact List.pairwise_iff_getElem.1 (ready_nodup A g n) i j hi hj k
  · exact Ne.symm (List.pairwise_iff_getElem.1 (ready_nodup A g n) j i hj hi (by omega))
theorem ready_none {A : List Ops} {g : Nat → Bool} {n : Nat} (h : liveN g n = 0) : readyL A g n = [] := by
  cases e : readyL A g n with
  | nil => rfl
  | cons a l =>
    have ha : a ∈ readyL A g n := by rw [e]; simp
    obtain ⟨a1, a2, _⟩ := ready_mem.1 ha
    rw [live_none h a a1] at a2; cases a2
theorem getD_at {D : List Ops} {i : Nat} (h : i < D.length) : D.getD i [] = D[i] := by simp [h]
end Go.Proofs.YtimchedebcoohaaGreatDoor

/- Contracts and lemmas for the proofs of this seat; each theorem states its own conditions. -/
namespace Go.Proofs.YtimchedebcoohaaGreatDoor
open Go.RowKit
/-! plan.Play -/
abbrev PYS := List Nat × (Nat → Bool) × Prs × List Bool
/-- which of so many is taken -/
def pickN (P : List Int) (k r : Nat) : Nat := if k < P.length then (wi (P.getD k 0) r).toNat else 0
def seqN (D : List Ops) (P : List Int) (s : PYS) : Nat := (readyL D s.2.1 D.length).getD (pickN P s.1.length (readyL D s.2.1 D.length).length) 0
def play1 (D : List Ops) (P : List Int) (s : PYS) : PYS := (s.1 ++ [seqN D P s], goneW s.2.1 (seqN D P s), runS s.2.2.1 (D.getD (seqN D P s) []), s.2.2.2.set (seqN D P s) (runB s.2.2.1 (D.getD (seqN D P s) [])))
def playN (D : List Ops) (S : Prs) (P : List Int) : Nat → PYS
  | 0 => ([], fun _ => false, S, List.replicate D.length false)
  | j + 1 => play1 D P (playN D S P j)
theorem pick_lt (P : List Int) (k : Nat) {r : Nat} (h : 0 < r) : pickN P k r < r := by
  unfold pickN
  split
  · have g1 := wi_lo (k := P.getD k 0) (n := r) (by omega)
    have g2 := wi_hi (k := P.getD k 0) (n := r) (by omega)
    omega
  · exact h
theorem seq_ready {D : List Ops} {P : List Int} {s : PYS} (h : 0 < liveN s.2.1 D.length) : seqN D P s ∈ readyL D s.2.1 D.length := by
  have hp : 0 < (readyL D s.2.1 D.length).length := List.length_pos_iff.2 (ready_some h)
  have hl := pick_lt P s.1.length hp
  unfold seqN
  rw [show (readyL D s.2.1 D.length).getD (pickN P s.1.length (readyL D s.2.1 D.length).length) 0 = (readyL D s.2.1 D.length)[pickN P s.1.length (readyL D s.2.1 D.length).length] by simp [hl]]
  exact List.getElem_mem hl
theorem playN_inv (D : List Ops) (S : Prs) (P : List Int) : ∀ j, j ≤ D.length → PlayI D S (playN D S P j).1 (playN D S P j).2.1 (playN D S P j).2.2.1 (playN D S P j).2.2.2 ∧ liveN (playN D S P j).2.1 D.length + j = D.length ∧ (playN D S P j).1.length = j
  | 0, _ => ⟨play_start D S, by rw [show (playN D S P 0).2.1 = fun _ => false from rfl, live_all (fun _ _ => rfl)]; rfl, rfl⟩
  | j + 1, h => by
    obtain ⟨h1, h2, h3⟩ := playN_inv D S P j (by omega)
    have hr := seq_ready (D := D) (P := P) (s := playN D S P j) (by omega)
    obtain ⟨a1, a2, a3⟩ := ready_mem.1 hr
    refine ⟨play_step h1 a1 a2 a3, ?_, ?_⟩
    · have := (live_gone a2 (n := D.length)).1 a1
      show liveN (goneW _ _) D.length + (j + 1) = _
      omega
    · show (_ ++ [_]).length = _
      rw [List.length_append, h3]; rfl
theorem playN_len {D : List Ops} (hD : ∀ d ∈ D, d.length ≤ 8) (S : Prs) (P : List Int) : ∀ j, (playN D S P j).2.2.1.length ≤ S.length + 16 * j
  | 0 => Nat.le_refl _
  | j + 1 => by
    have h1 := playN_len hD S P j
    have h2 := run_len (playN D S P j).2.2.1 (D.getD (seqN D P (playN D S P j)) [])
    have h3 : (D.getD (seqN D P (playN D S P j)) []).length ≤ 8 := by
      rw [List.getD_eq_getElem?_getD]
      cases e : D[seqN D P (playN D S P j)]? with
      | none => simp
      | some d => exact hD d (List.mem_of_getElem? e)
    show (runS _ _).length ≤ _
    omega
theorem playN_ok {D : List Ops} (hD : ∀ d ∈ D, DeedOk d) {S : Prs} (hS : StoreOk S) (P : List Int) : ∀ j, j ≤ D.length → StoreOk (playN D S P j).2.2.1 := fun j hj => by
  obtain ⟨h1, _, _⟩ := playN_inv D S P j hj
  rw [h1.sto]
  refine ser_ok (fun d hd => ?_) hS
  obtain ⟨i, hi, rfl⟩ := List.mem_map.1 hd
  have := h1.lt i hi
  rw [show D.getD i [] = D[i] by simp [this]]
  exact hD _ (List.getElem_mem this)
theorem results_tmp4 {fn : Func} {t u v x : Tmp} (h : fn.results = #[.tmp t, .tmp u, .tmp v, .tmp x]) (tmps : Array Value) (P : Program) (w : World) :
    (results fn tmps).run P w = .ok (.tuple #[tmps.getD t undef, tmps.getD u undef, tmps.getD v undef, tmps.getD x undef]) w := by
  simp [results, h, go_sem]
theorem getN_at {l : List Nat} {i : Nat} (h : i < l.length) : l.getD i 0 = l[i] := by simp [h]
theorem getI_at {l : List Int} {i : Nat} (h : i < l.length) : l.getD i 0 = l[i] := by simp [h]
end Go.Proofs.YtimchedebcoohaaGreatDoor

/- Contracts and lemmas for the proofs of this seat; each theorem states its own conditions. -/
namespace Go.Proofs.YtimchedebcoohaaGreatDoor
open Go.RowKit Go.Maps
/-! the document's table, in memory: Is, May, Ready -/
def goneB (g : Nat → Bool) (n : Nat) : List Bool := (List.range n).map g
theorem goneB_len (g : Nat → Bool) (n : Nat) : (goneB g n).length = n := by simp [goneB]
theorem goneB_at (g : Nat → Bool) {n i : Nat} (h : i < n) : (goneB g n)[i]? = some (g i) := by simp [goneB, h]
structure RTab (w : World) (bt : Nat) (A : List Ops) (g : Nat → Bool) (aD : Option Addr) (cD : Nat) (aG : Option Addr) (cG : Nat) : Prop where
  deeds : w.cell? ⟨bt, 0, none⟩ = some (.slice aD A.length cD)
  gone : w.cell? ⟨bt, 1, none⟩ = some (.slice aG A.length cG)
  sD : SegDs w (.slice aD A.length cD) A
  sG : Seg w (.slice aG A.length cG) 1 A.length (cB (goneB g A.length))
theorem RTab.ext {w w' : World} {bt : Nat} {A : List Ops} {g : Nat → Bool} {aD aG : Option Addr} {cD cG : Nat} (h : RTab w bt A g aD cD aG cG) (E : Ext w w') : RTab w' bt A g aD cD aG cG :=
  ⟨E.cell h.deeds, E.cell h.gone, h.sD.ext E, h.sG.ext E⟩
theorem RTab.at {w : World} {bt : Nat} {A : List Ops} {g : Nat → Bool} {aD aG : Option Addr} {cD cG : Nat} (h : RTab w bt A g aD cD aG cG) {i : Nat} (hi : i < A.length) :
    (∃ b off, aG = some ⟨b, off, none⟩ ∧ w.cell? ⟨b, off + i, none⟩ = some (.bool (g i))) ∧
    ∃ b off, aD = some ⟨b, off, none⟩ ∧ ∃ au cu, w.cell? ⟨b, off + i, none⟩ = some (.slice au A[i].length cu) ∧ Seg w (.slice au A[i].length cu) 4 A[i].length (cO A[i]) := by
  constructor
  · obtain ⟨b, off, rfl, _, _, _, hc⟩ := seg_cells h.sG (by omega)
    exact ⟨b, off, rfl, hc i _ (by simp [cB, goneB_at g hi])⟩
  · obtain ⟨a, c, e, h1, h2, h3⟩ := h.sD.form
    injection e with e1 _ e3
    subst e1; subst e3
    obtain ⟨b, off, rfl, h4⟩ := h3 (by omega)
    exact ⟨b, off, rfl, h4 i A[i] (List.getElem?_eq_getElem hi)⟩
def isB (A : List Ops) (g : Nat → Bool) (z : Int) : Bool := if 0 ≤ z ∧ z < (A.length : Int) then !g z.toNat else false
theorem isB_nat {A : List Ops} {g : Nat → Bool} {i : Nat} (h : i < A.length) : isB A g (i : Int) = !g i := by
  unfold isB; rw [if_pos (by omega)]; simp
theorem isB_no {A : List Ops} {g : Nat → Bool} {z : Int} (h : ¬ (0 ≤ z ∧ z < (A.length : Int))) : isB A g z = false := by unfold isB; rw [if_neg h]
theorem may_no {A : List Ops} {g : Nat → Bool} {s t : Nat} (ht : t < s) (hg : g t = false) (hc : clashB (A.getD t []) (A.getD s []) = true) : mayB A g s = false := by
  cases h : mayB A g s with
  | false => rfl
  | true => have := mayB_iff.1 h t ht hg; rw [hc] at this; cases this
end Go.Proofs.YtimchedebcoohaaGreatDoor

/- Contracts and lemmas for the proofs of this seat; each theorem states its own conditions. -/
namespace Go.Proofs.YtimchedebcoohaaGreatDoor
open Go.RowKit Go.Maps
/-! the document's Play -/
theorem set_ext {w w' : World} {p : Addr} {u : Value} (h : Ext w w') : Ext (w.setCell p u) (w'.setCell p u) := by
  refine ⟨by simpa [World.setCell] using h.os, by simpa [World.setCell] using h.tape, by simpa [World.setCell] using h.output, by simpa [World.setCell] using h.size, fun k hk => ?_⟩
  have hk' : k < w.heap.size := by simpa [World.setCell] using hk
  have hb := h.block k hk'
  by_cases e : k = p.block
  · subst e
    simp [World.setCell, Array.getElem?_modify, hb]
  · rw [Below.heap_setCell _ _ _ _ e, Below.heap_setCell _ _ _ _ e]; exact hb
/-- kept, whether the cell was set or not -/
def Kep (w : World) (p : Addr) (u : Value) (w' : World) : Prop := Ext w w' ∨ Ext (w.setCell p u) w'
theorem Kep.start {w w' : World} {p : Addr} {u : Value} (h : Ext w w') : Kep w p u w' := .inl h
theorem Kep.ext {w a b : World} {p : Addr} {u : Value} (h : Kep w p u a) (E : Ext a b) : Kep w p u b := by
  rcases h with h | h
  · exact .inl (h.trans E)
  · exact .inr (h.trans E)
theorem set_twice {w : World} {p : Addr} {u : Value} : (w.setCell p u).setCell p u = w.setCell p u := by
  simp only [World.setCell]
  congr 1
  apply Array.ext
  · simp
  · intro i h1 h2
    simp only [Array.getElem_modify]
    split
    · generalize w.heap[i]'(by simpa using h1) = o
      cases o with
      | cells c e f => cases hs : p.spot <;> simp
      | _ => rfl
    · rfl
theorem Kep.set {w a : World} {p : Addr} {u : Value} (h : Kep w p u a) : Ext (w.setCell p u) (a.setCell p u) := by
  rcases h with h | h
  · exact set_ext h
  · have := set_ext (p := p) (u := u) h
    rw [set_twice] at this; exact this
theorem kepE {w a b : World} {p a1 a2 : Addr} {u v1 v2 : Value} (h : a.cell? a1 = some v1 ∧ a.cell? a2 = some v2 ∧ Kep w p u a) (E : Ext a b) : b.cell? a1 = some v1 ∧ b.cell? a2 = some v2 ∧ Kep w p u b :=
  ⟨E.cell h.1, E.cell h.2.1, h.2.2.ext E⟩
theorem kepS {w a : World} {p a1 a2 : Addr} {u v1 v2 : Value} (h : a.cell? a1 = some v1 ∧ a.cell? a2 = some v2 ∧ Kep w p u a) (h1 : p.block ≠ a1.block) (h2 : p.block ≠ a2.block) : (a.setCell p u).cell? a1 = some v1 ∧ (a.setCell p u).cell? a2 = some v2 ∧ Kep w p u (a.setCell p u) :=
  ⟨cell_set_far h.1 h1, cell_set_far h.2.1 h2, .inr h.2.2.set⟩
end Go.Proofs.YtimchedebcoohaaGreatDoor

/- Contracts and lemmas for the proofs of this seat; each theorem states its own conditions. -/
namespace Go.Proofs.YtimchedebcoohaaGreatDoor
open Go.RowKit Go.Maps
theorem results_tmp3 {fn : Func} {t u v : Tmp} (h : fn.results = #[.tmp t, .tmp u, .tmp v]) (tmps : Array Value) (P : Program) (w : World) :
    (results fn tmps).run P w = .ok (.tuple #[tmps.getD t undef, tmps.getD u undef, tmps.getD v undef]) w := by
  simp [results, h, go_sem]
theorem goneB_set {g : Nat → Bool} {n s : Nat} (hs : s < n) : (goneB g n).set s true = goneB (goneW g s) n := by
  apply List.ext_getElem
  · simp [goneB]
  · intro i h1 h2
    simp only [goneB, List.getElem_set, List.getElem_map, List.getElem_range, goneW]
    by_cases e : s = i
    · subst e; simp
    · rw [if_neg e, if_neg (fun q => e q.symm)]
def RunP (w : World) (okv : Bool) (v : Vls) (d : Ops) (n : Nat) (e : Ending) (w' : World) : Prop := ∃ b' n' D' f', e = .returned (.tuple #[.map (some b'), .bool okv]) ∧ w'.ownsMap Tryz.prog 9 (plainElem Tryz.prog 3) b' n' D' ∧ MapF kS okS dI D' f' ∧ atF f' = stepV v d ∧ FV f' ∧ n' ≤ n + 2 * d.length ∧ Ext w w'
end Go.Proofs.YtimchedebcoohaaGreatDoor

/- Contracts and lemmas for the proofs of this seat; each theorem states its own conditions. -/
namespace Go.Proofs.YtimchedebcoohaaGreatDoor
open Go.RowKit
/-! lock.Table.Add of what may not be, of one too many; plan.laid of what may not be -/
/-! plan.Rounds, plan.Order of what may not be -/
end Go.Proofs.YtimchedebcoohaaGreatDoor

/- Contracts and lemmas for the proofs of this seat; each theorem states its own conditions. -/
namespace Go.Proofs.YtimchedebcoohaaGreatDoor
open Go.RowKit
/-! plan.Play at whatever is handed in -/
def playE (S : Prs) (D : List Ops) : Int := if storeErr S ≠ 0 then storeErr S else deedsE D
end Go.Proofs.YtimchedebcoohaaGreatDoor

/- Contracts and lemmas for the proofs of this seat; each theorem states its own conditions. -/
namespace Go.Proofs.YtimchedebcoohaaGreatDoor
open Go.RowKit Go.Maps
/-! PlanPlays: whatever is handed in -/
theorem equal_Nl (v u : Value) (L : List Nat) (w : World) (h : Seg w v 1 L.length (cN L)) (h' : Seg w u 1 L.length (cN L)) :
    Calls Tryz.prog 23 #[v, u] w fun e w' => e = .returned (.bool true) ∧ Ext w w' := by
  rw [cN_cI] at h h'
  have q := equal_Int v u (L.map fun (n : Nat) => (n : Int)) (L.map fun (n : Nat) => (n : Int)) w (by rw [List.length_map]; exact h) (by rw [List.length_map]; exact h')
  rw [decide_eq_true rfl] at q
  refine q.mono ?_
  rintro e w' ⟨rfl, d, rfl⟩
  exact ⟨rfl, (Ext.refl w).drewN d⟩
theorem equal_Pl (v u : Value) (L : Prs) (w : World) (h : Seg w v 2 L.length (cP L)) (h' : Seg w u 2 L.length (cP L)) :
    Calls Tryz.prog 24 #[v, u] w fun e w' => e = .returned (.bool true) ∧ Ext w w' := by
  have q := equal_Pair v u L L w h h'
  rw [decide_eq_true rfl] at q
  refine q.mono ?_
  rintro e w' ⟨rfl, d, rfl⟩
  exact ⟨rfl, (Ext.refl w).drewN d⟩
def opP : GOp := ⟨1, ⟨#[97]⟩, ⟨#[]⟩, 5⟩
theorem play_lit : playE [] [[opP]] = 0 ∧ (playN [[opP]] [] [] 1).2.2.1 = [(⟨#[97]⟩, 5)] ∧ (playN [[opP]] [] [] 1).2.2.2 = [true] ∧ (playN [[opP]] [] [] 1).1 = [0] := by decide +kernel
end Go.Proofs.YtimchedebcoohaaGreatDoor

/- Contracts and lemmas for the proofs of this seat; each theorem states its own conditions. -/
namespace Go.Proofs.YtimchedebcoohaaGreatDoor
open Go.RowKit Go.Maps
/-! PartsPlay: what a round keeps -/
theorem map_cells_ne {P : Program} {k : TypeId} {R : Value → Option (DU × List MemPlace)} {w : World} {b n : Nat} {D : DU} (h : w.ownsMap P k R b n D) {bt : Nat} {cs : Array Value} {t : TypeId} {fr : Nat × Nat} (hb : w.heap[bt]? = some (.cells cs t fr)) : b ≠ bt := by
  obtain ⟨es, clock, hg, _⟩ := h
  rintro rfl
  rw [hb] at hg; cases hg
structure PPS (w : World) (K : List ByteArray) (bt mb N : Nat) (vv : Value) (wr : World) (C : List ByteArray) (O : List Int) (S : Prs) (b n : Nat) (Dm : DU) (f : ByteArray → Option Int) (vc vo : Value) (pv : Nat → Value) (u1 u2 : Value) (vr : Value) (nr : Nat) (xs : List Value) : Prop where
  parts : PartsSt wr bt C O (parP C O S) vc vo pv
  box : wr.heap[mb]? = some (.cells #[u1, u2] 25 (0, 0))
  is : IsMap w (.agg #[u1, u2]) C O
  ok : MapOk C O
  sC : ∀ k ∈ C, k.size ≤ 9223372036854775807
  vv : vv = .map (some b)
  map : wr.ownsMap Tryz.prog 9 (plainElem Tryz.prog 3) b n Dm
  mf : MapF kS okS dI Dm f
  at' : atF f = valP S
  fv : FV f
  n : n ≤ N
  sto : StoreOk S
  inK : inK K S
  E : Ext w wr
  row : wr.ownsRow 0 23 1 vr nr xs
def PPI (w : World) (K : List ByteArray) (bt mb : Nat) (vr : Value) (nr : Nat) (xs : List Value) (N : Nat) (vv : Value) (wr : World) : Prop := ∃ C O S b n Dm f vc vo pv u1 u2, PPS w K bt mb N vv wr C O S b n Dm f vc vo pv u1 u2 vr nr xs
theorem PPS.ext {w : World} {K : List ByteArray} {bt mb N : Nat} {vv : Value} {wr w' : World} {C : List ByteArray} {O : List Int} {S : Prs} {b n : Nat} {Dm : DU} {f : ByteArray → Option Int} {vc vo : Value} {pv : Nat → Value} {u1 u2 : Value} {vr : Value} {nr : Nat} {xs : List Value}
    (h : PPS w K bt mb N vv wr C O S b n Dm f vc vo pv u1 u2 vr nr xs) (E : Ext wr w') : PPS w K bt mb N vv w' C O S b n Dm f vc vo pv u1 u2 vr nr xs :=
  { h with parts := h.parts.ext E, box := E.heap h.box, map := ownsMap_ext h.map E, E := h.E.trans E, row := own_ext h.row E }
theorem PPS.more {w : World} {K : List ByteArray} {bt mb N N' : Nat} {vv : Value} {wr : World} {C : List ByteArray} {O : List Int} {S : Prs} {b n : Nat} {Dm : DU} {f : ByteArray → Option Int} {vc vo : Value} {pv : Nat → Value} {u1 u2 : Value} {vr : Value} {nr : Nat} {xs : List Value}
    (h : PPS w K bt mb N vv wr C O S b n Dm f vc vo pv u1 u2 vr nr xs) (hN : N ≤ N') : PPS w K bt mb N' vv wr C O S b n Dm f vc vo pv u1 u2 vr nr xs :=
  { h with n := Nat.le_trans h.n hN }
/-- a turn of the parts alone -/
theorem PPS.turn {w : World} {K : List ByteArray} {bt mb N : Nat} {vv : Value} {wr w' : World} {C : List ByteArray} {O : List Int} {S : Prs} {b n : Nat} {Dm : DU} {f : ByteArray → Option Int} {vc vo : Value} {pv : Nat → Value} {u1 u2 : Value} {vr : Value} {nr : Nat} {xs : List Value}
    (h : PPS w K bt mb N vv wr C O S b n Dm f vc vo pv u1 u2 vr nr xs) (hb : w.heap.size ≤ bt) (hne : mb ≠ bt) (g : wr.grownBy w' (some bt)) :
    w'.heap[mb]? = some (.cells #[u1, u2] 25 (0, 0)) ∧ w'.ownsMap Tryz.prog 9 (plainElem Tryz.prog 3) b n Dm ∧ Ext w w' ∧ w'.ownsRow 0 23 1 vr nr xs :=
  ⟨grown_heap g h.box (fun e => by injection e with e; exact hne e.symm), h.map.kept g (fun e => by injection e with e; exact map_cells_ne h.map h.parts.box e), h.E.grown g (fun k hk => by injection hk with hk; omega), grown_own g h.row (.inr (own_ne h.row h.parts.box (by decide)))⟩
theorem PartsSt.set_box {w : World} {bt : Nat} {C : List ByteArray} {O : List Int} {P : Nat → Prs} {vc vo : Value} {pv : Nat → Value} (h : PartsSt w bt C O P vc vo pv) {mb i : Nat} {u : Value} {cs : Array Value} {fr : Nat × Nat} (hb : w.heap[mb]? = some (.cells cs 25 fr)) (hne : mb ≠ bt) :
    PartsSt (w.setCell ⟨mb, i, none⟩ u) bt C O P vc vo pv :=
  ⟨heap_set_far h.box (fun e => hne e.symm), own_set_other h.cuts (own_ne h.cuts hb (by decide)) u, own_set_other h.owners (own_ne h.owners hb (by decide)) u, fun i hi => own_set_other (h.rows i hi) (own_ne (h.rows i hi) hb (by decide)) u⟩
/-- another map -/
theorem PPS.next {w : World} {K : List ByteArray} {bt mb N : Nat} {vv : Value} {wr w' : World} {C C2 : List ByteArray} {O O2 : List Int} {S : Prs} {b n : Nat} {Dm : DU} {f : ByteArray → Option Int} {vc vo vc' vo' : Value} {pv pv' : Nat → Value} {u1 u2 v1 v2 : Value} {vr : Value} {nr : Nat} {xs : List Value}
    (h : PPS w K bt mb N vv wr C O S b n Dm f vc vo pv u1 u2 vr nr xs) (hp : PartsSt w' bt C2 O2 (parP C2 O2 S) vc' vo' pv') (hb : w'.heap[mb]? = some (.cells #[u1, u2] 25 (0, 0))) (hm : w'.ownsMap Tryz.prog 9 (plainElem Tryz.prog 3) b n Dm) (hE : Ext w w') (hr : w'.ownsRow 0 23 1 vr nr xs)
    (hi : IsMap w (.agg #[v1, v2]) C2 O2) (ok : MapOk C2 O2) (sc : ∀ k ∈ C2, k.size ≤ 9223372036854775807) (hne : mb ≠ bt) (hl : w.heap.size ≤ mb) :
    PPS w K bt mb N vv ((w'.setCell ⟨mb, 0, none⟩ v1).setCell ⟨mb, 1, none⟩ v2) C2 O2 S b n Dm f vc' vo' pv' v1 v2 vr nr xs := by
  have hb1 := blk2_set0 hb v1
  have g1 := grown_cell w' mb 0 v1
  have g2 := grown_cell (w'.setCell ⟨mb, 0, none⟩ v1) mb 1 v2
  have m1 := hm.kept g1 (fun e => by injection e with e; exact map_cells_ne hm hb e)
  exact ⟨(hp.set_box hb hne).set_box hb1 hne, blk2_set2 hb, hi, ok, sc, h.vv, m1.kept g2 (fun e => by injection e with e; exact map_cells_ne m1 hb1 e), h.mf, h.at', h.fv, h.n, h.sto, h.inK,
    (hE.setCell (p := ⟨mb, 0, none⟩) hl v1).setCell (p := ⟨mb, 1, none⟩) hl v2, own_set_other (own_set_other hr (own_ne hr hb (by decide)) v1) (own_ne (own_set_other hr (own_ne hr hb (by decide)) v1) hb1 (by decide)) v2⟩
end Go.Proofs.YtimchedebcoohaaGreatDoor

/- Contracts and lemmas for the proofs of this seat; each theorem states its own conditions. -/
namespace Go.Proofs.YtimchedebcoohaaGreatDoor
open Go.RowKit Go.Shelf
/-! PartsPlay: the owners of a deed's keys, gathered -/
def own2 (C : List ByteArray) (O : List Int) (K : List ByteArray) (i j : Nat) : List Int := ownTo C O K i ++ if ownIn C O (K.take j) i then [(i : Int)] else []
theorem own2_0 (C : List ByteArray) (O : List Int) (K : List ByteArray) (i : Nat) : own2 C O K i 0 = ownTo C O K i := by simp [own2, ownIn]
theorem own2_end (C : List ByteArray) (O : List Int) (K : List ByteArray) (i : Nat) : own2 C O K i K.length = ownTo C O K (i + 1) := by simp [own2, ownTo]
theorem ownIn_succ (C : List ByteArray) (O : List Int) {K : List ByteArray} (i : Nat) {j : Nat} (hj : j < K.length) : ownIn C O (K.take (j + 1)) i = (ownIn C O (K.take j) i || (whose C O K[j] == (i : Int))) := by
  unfold ownIn
  rw [List.take_succ_eq_append_getElem hj, List.any_append]
  simp
theorem own2_no {C : List ByteArray} {O : List Int} {K : List ByteArray} {i j : Nat} (hj : j < K.length) (h : whose C O K[j] ≠ (i : Int)) : own2 C O K i (j + 1) = own2 C O K i j := by
  unfold own2
  rw [ownIn_succ C O i hj]
  simp [h]
theorem own2_has {C : List ByteArray} {O : List Int} {K : List ByteArray} {i j : Nat} (hj : j < K.length) (h : (i : Int) ∈ own2 C O K i j) : own2 C O K i (j + 1) = own2 C O K i j := by
  unfold own2 at h ⊢
  rw [ownIn_succ C O i hj]
  by_cases q : ownIn C O (K.take j) i = true
  · simp [q]
  · rw [if_neg q, List.append_nil, ownTo_mem] at h
    obtain ⟨a, h1, h2, _⟩ := h
    omega
theorem own2_new {C : List ByteArray} {O : List Int} {K : List ByteArray} {i j : Nat} (hj : j < K.length) (h : whose C O K[j] = (i : Int)) (hn : (i : Int) ∉ own2 C O K i j) : own2 C O K i (j + 1) = own2 C O K i j ++ [(i : Int)] := by
  unfold own2 at hn ⊢
  rw [ownIn_succ C O i hj]
  by_cases q : ownIn C O (K.take j) i = true
  · rw [if_pos q] at hn; simp at hn
  · simp [q, h]
theorem ownTo_len (C : List ByteArray) (O : List Int) (K : List ByteArray) : ∀ i, (ownTo C O K i).length ≤ i
  | 0 => by simp [ownTo]
  | i + 1 => by
    have := ownTo_len C O K i
    rw [ownTo, List.length_append]
    split <;> simp <;> omega
theorem own2_len (C : List ByteArray) (O : List Int) (K : List ByteArray) (i j : Nat) : (own2 C O K i j).length ≤ i + 1 := by
  have := ownTo_len C O K i
  unfold own2
  rw [List.length_append]
  split <;> simp <;> omega
theorem cI_snoc (L : List Int) (z : Int) : cI (L ++ [z]) = cI L ++ [.int .i64 z] := by simp [cI]
theorem idxI_nil (x : Int) (w : World) : Calls Tryz.prog 50 #[.slice none 0 0, .int .i64 x] w fun e w' => e = .returned (.int .i64 (-1)) ∧ w' = w := by
  go_enter Tryz.func50, Tryz.ntmps50
  go_wp2_with fail
  go_loopw [8] (fun iv wr => iv = .int .i64 0 ∧ wr = w) (fun _ _ => 0)
  case atStart => exact ⟨rfl, rfl⟩
  case round =>
    obtain ⟨rfl, rfl⟩ := hrel
    go_wp2
    go_ret
    exact ⟨rfl, rfl⟩
theorem conI_nil (x : Int) (w : World) : Calls Tryz.prog 22 #[.slice none 0 0, .int .i64 x] w fun e w' => e = .returned (.bool false) ∧ w' = w := by
  go_enter Tryz.func22, Tryz.ntmps22
  go_wp2_with fail
  refine (idxI_nil x w).mono ?_
  rintro e w1 ⟨rfl, rfl⟩
  go_wp2
  go_ret
  exact ⟨rfl, rfl⟩
theorem conI_own {w : World} {B : Nat} {v : Value} {L : List Int} (h : w.ownsRow B 3 1 v L.length (cI L)) (h2 : L.length ≤ 2000000) (x : Int) : Calls Tryz.prog 22 #[v, .int .i64 x] w fun e w' => e = .returned (.bool (decide (x ∈ L))) ∧ w' = w := by
  have hs := own_seg h
  rcases h.2 with ⟨rfl, hn⟩ | ⟨g, cap, cur, rfl, _, hg, _⟩
  · have : L = [] := List.length_eq_zero_iff.1 hn
    subst this
    simpa using conI_nil x w
  · have := Any.slices_Contains_int lays107 g 0 L.length cap L x w (Nat.le_refl _) (by omega) (fun j hj => by
      obtain ⟨b, off, e, _, _, _, hc⟩ := seg_cells hs (by omega)
      injection e with e; injection e with e1 e2
      subst e1; subst e2
      have := hc j _ (cI_at0 L j hj)
      rw [this]; simp [hj])
    rw [List.contains_eq_mem, List.take_of_length_le (Nat.le_refl _)] at this
    exact this
end Go.Proofs.YtimchedebcoohaaGreatDoor
