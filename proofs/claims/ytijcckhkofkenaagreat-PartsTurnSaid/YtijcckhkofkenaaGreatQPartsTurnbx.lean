/- Contracts and lemmas for the proof of PartsTurn; each theorem states its own conditions. -/
import Derived.Test.YtijcckhkofkenaaGreatQPartsTurnbw
import Derived.Test.YtijcckhkofkenaaGreatQPartsTurnbn
import Derived.Test.YtijcckhkofkenaaGreatQPartsTurnbo
set_option linter.unusedVariables false
set_option linter.unusedSimpArgs false
/- Contracts and lemmas for the proofs of this seat; each theorem states its own conditions. -/
namespace Go.Proofs.YtijcckhkofkenaaGreat
open Go.RowKit
/-! rokeep.partsBegun -/
def pbC : List ByteArray := [⟨#[109]⟩]
def pbO : List Int := [0, 1]
def pbS : Prs := [((⟨#[97]⟩ : ByteArray), (1 : Int)), ((⟨#[122]⟩ : ByteArray), (2 : Int))]
theorem pb_lit : mapErr pbC pbO = 0 ∧ storeErr pbS = 0 ∧ (parP pbC pbO pbS 1).length = 1 := by decide +kernel
set_option maxRecDepth 100000 in
set_option maxHeartbeats 2000000 in
theorem partsBegun_any (w : World) : Calls Tryz.prog 45 #[] w fun e w' => e = .returned (.bool true) ∧ Ext w w' := by
  have Ea := ((Ext.refl w).alloc (.cells #[.string ⟨#[109]⟩] 9))
  have Eb := Ea.alloc (.cells #[.int .i64 0, .int .i64 1] 3)
  have b1 := heap_1 w (.cells #[.string ⟨#[109]⟩] 9) (.cells #[.int .i64 0, .int .i64 1] 3)
  have b2 := heap_2 w (.cells #[.string ⟨#[109]⟩] 9) (.cells #[.int .i64 0, .int .i64 1] 3)
  generalize hwb : (w.alloc (.cells #[.string ⟨#[109]⟩] 9)).alloc (.cells #[.int .i64 0, .int .i64 1] 3) = wb at Eb b1 b2
  have sb : wb.heap.size = w.heap.size + 2 := by rw [← hwb]; simp
  have b3 := heap_alloc_new wb (.cells #[.string ⟨#[97]⟩, .int .i64 1, .string ⟨#[122]⟩, .int .i64 2] 33)
  have Ec := (Ext.refl wb).alloc (.cells #[.string ⟨#[97]⟩, .int .i64 1, .string ⟨#[122]⟩, .int .i64 2] 33)
  rw [sb] at b3
  obtain ⟨q1, q2, q3⟩ := pb_lit
  have P0 := hid (pnew_ok (.agg #[.slice (some ⟨w.heap.size, 0, none⟩) 1 1, .slice (some ⟨w.heap.size + 1, 0, none⟩) 2 2]) (.slice (some ⟨w.heap.size + 2, 0, none⟩) 2 2) pbC pbO pbS (wb.alloc (.cells #[.string ⟨#[97]⟩, .int .i64 1, .string ⟨#[122]⟩, .int .i64 2] 33))
    ⟨_, _, rfl, (seg_blk (xs := cS pbC) b1 rfl (Nat.le_refl _) (by simp [maxLen])).ext Ec, (seg_blk (xs := cI pbO) b2 rfl (Nat.le_refl _) (by simp [maxLen])).ext Ec⟩ (ok_of_mapErr q1) (by simp [pbC]; decide) (seg_blk (xs := cP pbS) b3 rfl (Nat.le_refl _) (by simp [maxLen])) (store_ok q2) (by decide))
  have Q3 := hid q3
  have E := Eb.trans Ec
  clear q1 q2 q3 b1 b2 b3 Ea Eb Ec
  go_enter Tryz.func45, Tryz.ntmps45
  go_wp2_with fail
  refine (P0.out).mono ?_
  rintro e w1 ⟨bt, vc, vo, pv, rfl, _, hP, E1⟩
  have PP := hid (ppart_ok hP 1 (by omega) (by rw [Q3.out]; omega))
  rw [Q3.out] at PP
  clear P0 hwb sb hP
  go_wp2_with fail
  refine (PP.out).mono ?_
  rintro e w2 ⟨v2, rfl, o2, E2⟩
  obtain ⟨a2, c2, rfl⟩ := own_form o2
  clear o2 PP
  go_wp2
  go_ret
  exact ⟨rfl, E.trans (E1.trans E2)⟩
end Go.Proofs.YtijcckhkofkenaaGreat

/- Contracts and lemmas for the proofs of this seat; each theorem states its own conditions. -/
namespace Go.Proofs.YtijcckhkofkenaaGreat
open Go.RowKit
/-- what the row tells of a slice of slices of numbers, as mine -/
theorem segll_of_rows {w : World} {base : Nat} {x : Addr} {len cap : Nat} {A : Nat → Option Addr} {L C : Nat → Nat} {Z : Nat → List Int} (hl : len ≤ cap) (hm : cap ≤ maxLen)
    (h : ∀ r, r < cap → w.cell? (x.add r) = some (.slice (A r) (L r) (C r)) ∧ L r ≤ C r ∧ C r ≤ maxLen ∧ (Z r).length = C r ∧ (∀ n ∈ Z r, (Lit.int .i64 n).wf = true) ∧ (A r = none → C r = 0) ∧
        ∀ a', A r = some a' → base ≤ a'.block ∧ ∀ c, c < C r → w.cell? (a'.add c) = some (.int .i64 ((Z r).getD c 0))) :
    ∃ ls : List (List Int), SegLL w (.slice (some x) len cap) ls ∧ ls.length = len ∧ ∀ l ∈ ls, ∀ z ∈ l, -9223372036854775808 ≤ z ∧ z ≤ 9223372036854775807 := by
  have row : ∀ r, r < cap → Seg w (.slice (A r) (L r) (C r)) 1 ((Z r).take (L r)).length (cI ((Z r).take (L r))) ∧ ∀ z ∈ (Z r).take (L r), -9223372036854775808 ≤ z ∧ z ≤ 9223372036854775807 := fun r hr => by
    obtain ⟨h1, h2, h3, h4, h5, h6, h7⟩ := h r hr
    have hrow := seg_of_row (w := w) (a := A r) (len := L r) (cap := C r) (zs := Z r) (by
      cases ha : A r with
      | none =>
        have := h6 ha
        left
        exact ⟨rfl, by omega, this, List.eq_nil_of_length_eq_zero (by omega)⟩
      | some a' =>
        right
        exact ⟨a', rfl, h2, h3, h4, fun i hi => (h7 a' ha).2 i (by omega), h5⟩)
    exact ⟨hrow.1, hrow.2.1⟩
  refine ⟨(List.range len).map fun r => (Z r).take (L r), ⟨(List.range len).map fun r => .slice (A r) (L r) (C r), by simp, ⟨by simp, some x, cap, by simp, by simpa using hl, hm, fun hn => ?_⟩, fun i u m hu hm' => ?_⟩, by simp, fun l hl' z hz => ?_⟩
  · simp at hn
    have hs := cell_spot (h 0 (by omega)).1
    obtain ⟨b, off, sp⟩ := x
    have : sp = none := by simpa [Addr.add] using hs
    subst this
    refine ⟨b, off, rfl, fun j u hu => ?_⟩
    rw [← addr_add]
    obtain ⟨hj, e⟩ := List.getElem?_eq_some_iff.1 hu
    simp at hj e
    subst e
    exact (h j (by omega)).1
  · obtain ⟨hj, e⟩ := List.getElem?_eq_some_iff.1 hu
    obtain ⟨_, e'⟩ := List.getElem?_eq_some_iff.1 hm'
    simp at hj e e'
    subst e; subst e'
    exact (row i (by omega)).1
  · simp at hl'
    obtain ⟨r, hr, rfl⟩ := hl'
    exact (row r (by omega)).2 z hz
theorem segll_nil (w : World) : SegLL w (.slice none 0 0) [] := ⟨[], rfl, Seg.nil _ _, fun i u m h => by simp at h⟩
theorem seg_rows {w : World} {a : Option Addr} {len cap : Nat} {zs : List Int} (h : (a = none ∧ len = 0 ∧ cap = 0 ∧ zs = []) ∨
    ∃ x, a = some x ∧ len ≤ cap ∧ cap ≤ maxLen ∧ zs.length = cap ∧ (∀ i, i < zs.length → w.cell? (x.add i) = some (.int .i64 (zs.getD i 0))) ∧ ∀ n ∈ zs, (Lit.int .i64 n).wf = true) :
    ∃ l : List Int, Seg w (.slice a len cap) 1 l.length (cI l) ∧ ∀ z ∈ l, -9223372036854775808 ≤ z ∧ z ≤ 9223372036854775807 := ⟨_, (seg_of_row h).1, (seg_of_row h).2.1⟩
end Go.Proofs.YtijcckhkofkenaaGreat

/- Contracts and lemmas for the proofs of this seat; each theorem states its own conditions. -/
namespace Go.Proofs.YtijcckhkofkenaaGreat
open Go.RowKit
/-! what a turn of a box of parts leaves -/
theorem OwnDs.keptB {w w' : World} {B b : Nat} {us : List Value} {D : List Ops} (h : OwnDs w B us D) (hg : w.grownBy w' (some b)) (hb : b < B) : OwnDs w' B us D :=
  ⟨h.len, fun i u d a e => grown_own hg (h.own i u d a e) (.inr (fun e' => by have := own_ge (h.own i u d a e) _ e'; omega)), h.ne⟩
theorem own_keptB {w w' : World} {B b e sz n : Nat} {v : Value} {xs : List Value} (h : w.ownsRow B e sz v n xs) (hg : w.grownBy w' (some b)) (hb : b < B) : w'.ownsRow B e sz v n xs :=
  grown_own hg h (.inr (fun e' => by have := own_ge h _ e'; omega))
theorem ext_keptB {w0 w w' : World} {b : Nat} (E : Ext w0 w) (hg : w.grownBy w' (some b)) (hb : w0.heap.size ≤ b) : Ext w0 w' := E.grown hg (fun k e => by injection e with e; omega)
theorem not_own {w : World} {B b e sz n : Nat} {v : Value} {xs : List Value} (h : w.ownsRow B e sz v n xs) (hb : b < B) : v.ownBlock ≠ some b := fun e' => by have := own_ge h _ e'; omega
theorem not_own' {w : World} {B b e sz n : Nat} {v : Value} {xs : List Value} (h : w.ownsRow B e sz v n xs) (hb : w.heap.size ≤ b) : v.ownBlock ≠ some b := fun e' => by have := (h.lt _ e').2; omega
/-- the deeds of a list at hand, one of them taken -/
theorem deed_cell {w : World} {B B' : Nat} {us : List Value} {D : List Ops} {aD : Option Addr} {cD : Nat} (hds : OwnDs w B us D) (ho : w.ownsRow B' 29 1 (.slice aD D.length cD) D.length us) {k : Nat} (hk : k < D.length) :
    ∃ b x y, aD = some ⟨b, 0, none⟩ ∧ w.cell? ⟨b, k, none⟩ = some (.slice x D[k].length y) ∧ Seg w (.slice x D[k].length y) 4 D[k].length (cO D[k]) ∧ D.length ≤ cD ∧ cD ≤ maxLen := by
  have hl := hds.len
  have hs : SegDs w (.slice aD D.length cD) D := by
    refine hds.seg (B' := B') ?_
    rw [hl]; exact ho
  obtain ⟨_, _, e, h1, h2, h3⟩ := hs.form
  injection e with e1 _ e3
  subst e1; subst e3
  obtain ⟨g, e', _⟩ := own_pos ho (by omega)
  obtain ⟨b, off, e, h4⟩ := h3 (by omega)
  rw [e'] at e
  injection e with e; injection e with e1 e2
  subst e1; subst e2
  obtain ⟨x, y, c, s⟩ := h4 k D[k] (List.getElem?_eq_getElem hk)
  rw [Nat.zero_add] at c
  exact ⟨g, x, y, e', c, s, h1, h2⟩
end Go.Proofs.YtijcckhkofkenaaGreat
