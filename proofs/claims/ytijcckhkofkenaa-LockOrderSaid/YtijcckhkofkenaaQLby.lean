import Derived.Test.YtijcckhkofkenaaLaq
import Derived.Test.YtijcckhkofkenaaLf2q
import Derived.Test.YtijcckhkofkenaaQLbt
import Derived.Test.YtijcckhkofkenaaQLbx
import Derived.Test.YtijcckhkofkenaaSr
import Derived.Test.YtijcckhkofkenaaD3q
/- Contracts and lemmas for the proofs of this seat; each theorem states its own conditions. -/
namespace Go.Proofs.Ytijcckhkofkenaa
open Go.RowKit Go.Maps
/-! rokeep.lockBegun -/
theorem lnew_ok (w : World) : Calls Try.prog 48 #[] w fun e w' => ∃ bt bk bd, e = .returned (.pointer (some ⟨bt, 0, none⟩)) ∧ LockSt w' w.heap.size bt bk bd [] (fun _ => false) (fun _ => none) (fun _ => none) ∧ Ext w w' := by
  refine (lnew_any w).mono ?_
  rintro e w' ⟨rfl, h, E⟩
  exact ⟨_, _, _, rfl, h, E⟩
def setA : Ops := [⟨1, ⟨#[97]⟩, ⟨#[]⟩, 0⟩]
theorem setA_ok : deedE setA = 0 := by decide +kernel
theorem ready_one (d : Ops) : readyL [d] (fun _ => false) 1 = [0] := by
  have h := ready_succ [d] (fun _ => false) 0
  have m : mayB [d] (fun _ => false) 0 = true := by simp [mayB]
  rw [m] at h
  have z : readyL [d] (fun _ => false) 0 = [] := by simp [readyL]
  rw [z] at h
  simpa using h
theorem cN_cI (l : List Nat) : cN l = cI (l.map fun (n : Nat) => (n : Int)) := by simp [cN, cI]
set_option maxRecDepth 100000 in
set_option maxHeartbeats 1000000 in
theorem lockBegun_any (w : World) : Calls Try.prog 46 #[] w fun e w' => e = .returned (.bool true) ∧ Ext w w' := by
  go_enter Try.func46, Try.ntmps46
  go_wp2_with fail
  refine (lnew_ok _).mono ?_
  rintro e w1 ⟨bt, bk, bd, rfl, L, E1⟩
  have hs : w.heap.size ≤ w.heap.size := Nat.le_refl _
  have b1 := heap_alloc_new w1 (.cells #[.int .i64 1, .string ⟨#[97]⟩, .string ⟨#[]⟩, .int .i64 0] 79)
  have E2 := (Ext.refl w1).alloc (.cells #[.int .i64 1, .string ⟨#[97]⟩, .string ⟨#[]⟩, .int .i64 0] 79)
  have AD := hid (add_ok (L.ext E2) (.slice (some ⟨w1.heap.size, 0, none⟩) 1 1) setA (seg_blk (xs := cO setA) b1 rfl (Nat.le_refl _) (by simp [maxLen])) (deed_ok setA_ok) (by intro o ho; simp [setA] at ho; subst ho; decide) (by simp))
  replace E1 := E1.trans E2
  clear L b1 E2
  go_wp2_with fail
  refine (AD.out).mono ?_
  rintro e w2 ⟨rfl, ⟨F', G', L2⟩, T2⟩
  replace E1 := T2.low E1 hs
  clear AD T2
  have RD := ready_any L2
  have hr : readyL ([] ++ [setA]) (fun _ => false) ([] ++ [setA]).length = [0] := ready_one setA
  rw [hr] at RD
  have RD := hid RD
  clear L2 hr
  go_wp2_with fail
  refine (RD.out).mono ?_
  rintro e w3 ⟨v', rfl, ho, E3⟩
  replace E1 := E1.trans E3
  have s3 := (own_seg ho).ext ((Ext.refl w3).alloc (.cells #[.int .i64 0] 3))
  have b3 := heap_alloc_new w3 (.cells #[.int .i64 0] 3)
  rw [cN_cI] at s3
  have Q := equal_Int v' (.slice (some ⟨w3.heap.size, 0, none⟩) 1 1) [0] [0] (w3.alloc (.cells #[.int .i64 0] 3)) s3 (seg_blk (xs := cI [0]) b3 rfl (Nat.le_refl _) (by simp [maxLen]))
  have Q := hid Q
  clear RD ho s3 b3 E3
  go_wp2_with fail
  refine (Q.out).mono ?_
  rintro e w4 ⟨rfl, n, rfl⟩
  go_wp2
  go_ret
  exact ⟨rfl, (E1.alloc _).drewN n⟩
end Go.Proofs.Ytijcckhkofkenaa

/- Contracts and lemmas for the proofs of this seat; each theorem states its own conditions. -/
namespace Go.Proofs.Ytijcckhkofkenaa
open Go.RowKit
/-- what the row tells of a slice of slices of numbers, as mine -/
theorem segll_of_rows {w : World} {base : Nat} {x : Addr} {len cap : Nat} {A : Nat → Option Addr} {L C : Nat → Nat} {Z : Nat → List Int} (hl : len ≤ cap) (hm : cap ≤ maxLen)
    (h : ∀ r, r < cap → w.cell? (x.add r) = some (.slice (A r) (L r) (C r)) ∧ L r ≤ C r ∧ C r ≤ maxLen ∧ (Z r).length = C r ∧ (∀ n ∈ Z r, (Lit.int .i64 n).wf = true) ∧ (A r = none → C r = 0) ∧
        ∀ a', A r = some a' → base ≤ a'.block ∧ ∀ c, c < C r → w.cell? (a'.add c) = some (.int .i64 ((Z r).getD c 0))) :
    ∃ ls : List (List Int), SegLL w (.slice (some x) len cap) ls ∧ ls.length = len ∧ ∀ l ∈ ls, ∀ z ∈ l, -9223372036854775808 ≤ z ∧ z ≤ 9223372036854775807 := by
  have row : ∀ r, r < cap → Seg w (.slice (A r) (L r) (C r)) 1 ((Z r).take (L r)).length (cI ((Z r).take (L r))) ∧ ∀ z ∈ (Z r).take (L r), -9223372036854775808 ≤ z ∧ z ≤ 9223372036854775807 := fun r hr => by
    obtain ⟨h1, h2, h3, h4, h5, h6, h7⟩ := h r hr
    have hrow := seg_of_row (w := w) (a := A r) (len := L r) (cap := C r) (zs := Z r) (by
      cases ha : A r with
      | none =>
        have := h6 ha
        left
        exact ⟨rfl, by omega, this, List.eq_nil_of_length_eq_zero (by omega)⟩
      | some a' =>
        right
        exact ⟨a', rfl, h2, h3, h4, fun i hi => (h7 a' ha).2 i (by omega), h5⟩)
    exact ⟨hrow.1, hrow.2.1⟩
  refine ⟨(List.range len).map fun r => (Z r).take (L r), ⟨(List.range len).map fun r => .slice (A r) (L r) (C r), by simp, ⟨by simp, some x, cap, by simp, by simpa using hl, hm, fun hn => ?_⟩, fun i u m hu hm' => ?_⟩, by simp, fun l hl' z hz => ?_⟩
  · simp at hn
    have hs := cell_spot (h 0 (by omega)).1
    obtain ⟨b, off, sp⟩ := x
    have : sp = none := by simpa [Addr.add] using hs
    subst this
    refine ⟨b, off, rfl, fun j u hu => ?_⟩
    rw [← addr_add]
    obtain ⟨hj, e⟩ := List.getElem?_eq_some_iff.1 hu
    simp at hj e
    subst e
    exact (h j (by omega)).1
  · obtain ⟨hj, e⟩ := List.getElem?_eq_some_iff.1 hu
    obtain ⟨_, e'⟩ := List.getElem?_eq_some_iff.1 hm'
    simp at hj e e'
    subst e; subst e'
    exact (row i (by omega)).1
  · simp at hl'
    obtain ⟨r, hr, rfl⟩ := hl'
    exact (row r (by omega)).2 z hz
theorem segll_nil (w : World) : SegLL w (.slice none 0 0) [] := ⟨[], rfl, Seg.nil _ _, fun i u m h => by simp at h⟩
theorem seg_rows {w : World} {a : Option Addr} {len cap : Nat} {zs : List Int} (h : (a = none ∧ len = 0 ∧ cap = 0 ∧ zs = []) ∨
    ∃ x, a = some x ∧ len ≤ cap ∧ cap ≤ maxLen ∧ zs.length = cap ∧ (∀ i, i < zs.length → w.cell? (x.add i) = some (.int .i64 (zs.getD i 0))) ∧ ∀ n ∈ zs, (Lit.int .i64 n).wf = true) :
    ∃ l : List Int, Seg w (.slice a len cap) 1 l.length (cI l) ∧ ∀ z ∈ l, -9223372036854775808 ≤ z ∧ z ≤ 9223372036854775807 := ⟨_, (seg_of_row h).1, (seg_of_row h).2.1⟩
end Go.Proofs.Ytijcckhkofkenaa
