/- Contracts and lemmas for the proof of TextLines; each theorem states its own conditions. -/
import Derived.Test.YtnepdfpooobmcaaGreatDoorQTextLinesal
import Derived.Test.YtnepdfpooobmcaaGreatDoorQTextLinesam
import Derived.Deep.Cut
import Derived.Test.YtnepdfpooobmcaaGreatDoorQTextLinesaf
import Derived.Deep.CutBlock
import Derived.Test.YtnepdfpooobmcaaGreatDoorQTextLinesac
set_option linter.unusedVariables false
set_option linter.unusedSimpArgs false
/- Contracts and lemmas for the proofs of this seat; each theorem states its own conditions. -/
namespace Go.Proofs.YtnepdfpooobmcaaGreatDoor
open Go.RowKit
def sameB (c c' : List ByteArray) (o o' : List Int) : Bool := decide (c = c') && decide (o = o')
set_option maxRecDepth 10000 in
theorem sameMap_any (v u : Value) (c c' : List ByteArray) (o o' : List Int) (w : World) (hv : IsMap w v c o) (hu : IsMap w u c' o') :
    Calls Tryz.prog 11 #[v, u] w fun e w' => e = .returned (.bool (sameB c c' o o')) ∧ Ext w w' := by
  obtain ⟨c1, o1, rfl, h1, h2⟩ := hv
  obtain ⟨c2, o2, rfl, h3, h4⟩ := hu
  by_cases g1 : c = c'
  · have q : decide (c = c') = true := by simp [g1]
    have e1 : sameB c c' o o' = decide (o = o') := by simp [sameB, g1]
    have E1 := (show Hid (sameB c c' o o' = decide (o = o')) from e1)
    clear e1 g1
    go_enter Tryz.func11, Tryz.ntmps11
    go_wp2_with fail
    refine (equal_Str c1 c2 c c' _ (h1.ext (by (repeat (first | (with_reducible assumption) | (with_reducible exact Ext.refl _) | (with_reducible refine Ext.drew ?_) | (with_reducible refine Ext.drewN ?_ _) | (with_reducible refine Ext.alloc ?_ _) | (with_reducible refine Ext.trans ?_ (by with_reducible assumption)))))) (h3.ext (by (repeat (first | (with_reducible assumption) | (with_reducible exact Ext.refl _) | (with_reducible refine Ext.drew ?_) | (with_reducible refine Ext.drewN ?_ _) | (with_reducible refine Ext.alloc ?_ _) | (with_reducible refine Ext.trans ?_ (by with_reducible assumption))))))).mono ?_
    rintro e w1 ⟨rfl, d, rfl⟩
    go_wp2_with fail
    refine (equal_Int o1 o2 o o' _ (h2.ext (by (repeat (first | (with_reducible assumption) | (with_reducible exact Ext.refl _) | (with_reducible refine Ext.drew ?_) | (with_reducible refine Ext.drewN ?_ _) | (with_reducible refine Ext.alloc ?_ _) | (with_reducible refine Ext.trans ?_ (by with_reducible assumption)))))) (h4.ext (by (repeat (first | (with_reducible assumption) | (with_reducible exact Ext.refl _) | (with_reducible refine Ext.drew ?_) | (with_reducible refine Ext.drewN ?_ _) | (with_reducible refine Ext.alloc ?_ _) | (with_reducible refine Ext.trans ?_ (by with_reducible assumption))))))).mono ?_
    rintro e w2 ⟨rfl, d', rfl⟩
    go_wp2
    go_ret
    exact ⟨rB E1.out.symm, by (repeat (first | (with_reducible assumption) | (with_reducible exact Ext.refl _) | (with_reducible refine Ext.drew ?_) | (with_reducible refine Ext.drewN ?_ _) | (with_reducible refine Ext.alloc ?_ _) | (with_reducible refine Ext.trans ?_ (by with_reducible assumption))))⟩
  · have q : decide (c = c') = false := by simp [g1]
    have e1 : sameB c c' o o' = false := by simp [sameB, g1]
    have E1 := (show Hid (sameB c c' o o' = false) from e1)
    clear e1 g1
    go_enter Tryz.func11, Tryz.ntmps11
    go_wp2_with fail
    refine (equal_Str c1 c2 c c' _ (h1.ext (by (repeat (first | (with_reducible assumption) | (with_reducible exact Ext.refl _) | (with_reducible refine Ext.drew ?_) | (with_reducible refine Ext.drewN ?_ _) | (with_reducible refine Ext.alloc ?_ _) | (with_reducible refine Ext.trans ?_ (by with_reducible assumption)))))) (h3.ext (by (repeat (first | (with_reducible assumption) | (with_reducible exact Ext.refl _) | (with_reducible refine Ext.drew ?_) | (with_reducible refine Ext.drewN ?_ _) | (with_reducible refine Ext.alloc ?_ _) | (with_reducible refine Ext.trans ?_ (by with_reducible assumption))))))).mono ?_
    rintro e w1 ⟨rfl, d, rfl⟩
    go_wp2
    go_ret
    exact ⟨rB E1.out.symm, by (repeat (first | (with_reducible assumption) | (with_reducible exact Ext.refl _) | (with_reducible refine Ext.drew ?_) | (with_reducible refine Ext.drewN ?_ _) | (with_reducible refine Ext.alloc ?_ _) | (with_reducible refine Ext.trans ?_ (by with_reducible assumption))))⟩
end Go.Proofs.YtnepdfpooobmcaaGreatDoor

/- Contracts and lemmas for the proofs of this seat; each theorem states its own conditions. -/
namespace Go.Proofs.YtnepdfpooobmcaaGreatDoor
open Go.RowKit
end Go.Proofs.YtnepdfpooobmcaaGreatDoor

/- Contracts and lemmas for the proofs of this seat; each theorem states its own conditions. -/
namespace Go.Proofs.YtnepdfpooobmcaaGreatDoor
theorem mem_range_of {O : List Int} (h : allTo (ownOk O) O.length) : ∀ n ∈ O, 0 ≤ n ∧ n < 4 := by
  intro n hn
  obtain ⟨i, hi, rfl⟩ := List.mem_iff_getElem.1 hn
  have := h i hi
  simp [ownOk, hi] at this
  omega
theorem OwnMap.unpack {w : World} {B : Nat} {v : Value} {cuts : List ByteArray} {owners : List Int} (h : OwnMap w B v cuts owners) :
    ∃ a k a' k', v = .agg #[.slice a cuts.length k, .slice a' owners.length k'] ∧ IsMap w (.agg #[.slice a cuts.length k, .slice a' owners.length k']) cuts owners := by
  have h' := h.is
  obtain ⟨a, k, a', k', rfl, _⟩ := h'.unpack
  exact ⟨a, k, a', k', rfl, h'⟩
end Go.Proofs.YtnepdfpooobmcaaGreatDoor

/- Contracts and lemmas for the proofs of this seat; each theorem states its own conditions. -/
namespace Go.Proofs.YtnepdfpooobmcaaGreatDoor
/-! Plain, in plain lists -/
theorem cut_key {C : List ByteArray} (h : allTo (cutOk C) C.length) : ∀ x ∈ C, keyB x = true := by
  intro x hx
  obtain ⟨i, hi, rfl⟩ := List.mem_iff_getElem.1 hx
  have := h i hi
  simp [cutOk, kAt_eq hi] at this
  exact this.1
end Go.Proofs.YtnepdfpooobmcaaGreatDoor

/- Contracts and lemmas for the proofs of this seat; each theorem states its own conditions. -/
namespace Go.Proofs.YtnepdfpooobmcaaGreatDoor
open Go.Lib
/-! maps as text, in plain lists -/
def bA (l : List UInt8) : ByteArray := ⟨l.toArray⟩
theorem bA_data (k : ByteArray) : bA k.data.toList = k := by simp [bA]
theorem bA_toL (l : List UInt8) : (bA l).data.toList = l := by simp [bA]
theorem key_let {k : ByteArray} (h : keyB k = true) : ∀ c ∈ k.data.toList, letB c = true := by
  simp only [keyB, Bool.and_eq_true, List.all_eq_true] at h
  rw [← toList_data]; exact h.2
theorem num_ne {c d : UInt8} (h : numB c = true) (hd : numB d = false) : c ≠ d := fun e => by rw [e, hd] at h; cases h
theorem itoa_not (n : Int) (d : UInt8) (hd : numB d = false) : d ∉ itoa n := fun q => num_ne (itoa_numB n d q) hd rfl
theorem jn_cons (c : UInt8) (x y : List UInt8) (r : List (List UInt8)) : jn c (x :: y :: r) = x ++ c :: jn c (y :: r) := by
  simp [jn]
/-- one cut and the owner behind it -/
def cutT (p : ByteArray × Int) : List UInt8 := 58 :: p.1.data.toList ++ 58 :: itoa p.2
/-- P35 -/
def mapT (C : List ByteArray) : List Int → List UInt8
  | [] => []
  | o :: O => itoa o ++ (C.zip O).flatMap cutT
/-- the text of the first k cuts -/
def mapTo (C : List ByteArray) (O : List Int) (k : Nat) : List UInt8 := itoa (O.getD 0 0) ++ ((C.zip O.tail).take k).flatMap cutT
theorem mapTo_zero (C : List ByteArray) (O : List Int) : mapTo C O 0 = itoa (O.getD 0 0) := by simp [mapTo]
theorem mapTo_succ {C : List ByteArray} {O : List Int} {k : Nat} (hO : O.length = C.length + 1) (hk : k < C.length) :
    mapTo C O (k + 1) = mapTo C O k ++ (58 :: (C[k]).data.toList ++ 58 :: itoa (O[k + 1]'(by omega))) := by
  have hz : k < (C.zip O.tail).length := by simp; omega
  have e : (C.zip O.tail)[k] = (C[k], O[k + 1]'(by omega)) := by simp
  unfold mapTo
  rw [List.take_succ_eq_append_getElem hz, List.flatMap_append, e]
  simp [cutT]
theorem mapTo_all {C : List ByteArray} {O : List Int} (hO : O.length = C.length + 1) : mapTo C O C.length = mapT C O := by
  cases O with
  | nil => simp at hO
  | cons o O =>
    unfold mapTo mapT
    rw [List.take_of_length_le (by simp; omega)]
    rfl
/-- the pieces of a map -/
def mapQ : List ByteArray → List Int → List (List UInt8)
  | _, [] => []
  | [], o :: _ => [itoa o]
  | c :: C, o :: O => itoa o :: c.data.toList :: mapQ C O
theorem mapQ_ne {C : List ByteArray} {o : Int} {O : List Int} : ∃ x r, mapQ C (o :: O) = x :: r := by
  cases C <;> exact ⟨_, _, rfl⟩
theorem jn_mapQ : ∀ (C : List ByteArray) (o : Int) (O : List Int), O.length = C.length → jn 58 (mapQ C (o :: O)) = mapT C (o :: O)
  | [], o, O, h => by
    obtain rfl : O = [] := List.length_eq_zero_iff.1 h
    simp [mapQ, mapT, jn]
  | c :: C, o, [], h => by simp at h
  | c :: C, o, p :: O, h => by
    have ih := jn_mapQ C p O (by simpa using h)
    obtain ⟨x, r, e⟩ := mapQ_ne (C := C) (o := p) (O := O)
    rw [mapQ, e, jn_cons, jn_cons, ← e, ih]
    simp [mapT, cutT]
/-- reading pieces: 'false' where a number is next -/
def rdm : Bool → List ByteArray → Option (List ByteArray × List Int)
  | _, [] => some ([], [])
  | true, w :: r => (rdm false r).map fun p => (w :: p.1, p.2)
  | false, w :: r => match numL w.data.toList with | none => none | some n => (rdm true r).map fun p => (p.1, n :: p.2)
theorem rdm_back : ∀ (n : Nat) (L : List ByteArray), L.length ≤ n → ∀ (C : List ByteArray) (O : List Int), rdm false L = some (C, O) → O.length = C.length + 1 → L.map (·.data.toList) = mapQ C O
  | n, [], hn, C, O, h, hl => by
    simp only [rdm, Option.some.injEq, Prod.mk.injEq] at h
    obtain ⟨rfl, rfl⟩ := h
    simp at hl
  | n, [w], hn, C, O, h, hl => by
    simp only [rdm] at h
    cases hw : numL w.data.toList with
    | none => simp [hw] at h
    | some v =>
      simp [hw] at h
      obtain ⟨rfl, rfl⟩ := h
      simp [mapQ, (numL_some hw).1]
  | n + 1, w :: u :: r, hn, C, O, h, hl => by
    simp only [rdm] at h
    cases hw : numL w.data.toList with
    | none => simp [hw] at h
    | some v =>
      cases hr : rdm false r with
      | none => simp [hw, hr] at h
      | some p =>
        simp [hw, hr] at h
        obtain ⟨rfl, rfl⟩ := h
        have ih := rdm_back n r (by simp at hn; omega) p.1 p.2 hr (by simpa using hl)
        simp [mapQ, (numL_some hw).1, ih]
  | 0, w :: u :: r, hn, C, O, h, hl => by simp at hn
/-- the pieces of a string between the bytes c -/
def pcs (s : ByteArray) (c : UInt8) : List ByteArray := splitB ⟨#[c]⟩ 0 (countB s ⟨#[c]⟩) s
theorem pcs_psp (s : ByteArray) (c : UInt8) : (pcs s c).map (·.data.toList) = psp c s.data.toList := splitB_psp s c
theorem pcs_len (s : ByteArray) (c : UInt8) : (pcs s c).length = countB s ⟨#[c]⟩ + 1 := by
  have := splitB_all ⟨#[c]⟩ (Nat.le_refl 1) 0 (countB s ⟨#[c]⟩) s rfl
  exact this
theorem pcs_mem {s : ByteArray} {c : UInt8} {w : ByteArray} (h : w ∈ pcs s c) : w.size ≤ s.size ∧ c ∉ w.data.toList := by
  have hm : w.data.toList ∈ psp c s.data.toList := by rw [← pcs_psp]; exact List.mem_map_of_mem h
  have := psp_sub _ _ hm
  exact ⟨by simpa [← ByteArray.size_data] using this, psp_mem _ _ hm⟩
/-- P36: the error, the cuts, the owners -/
def mapRd (s : ByteArray) : Int × List ByteArray × List Int :=
  match rdm false (pcs s 58) with
  | none => (9, [], [])
  | some (C, O) => if mapErr C O = 0 then (0, C, O) else (mapErr C O, [], [])
theorem mapRd_back {s : ByteArray} {C : List ByteArray} {O : List Int} (h : mapRd s = (0, C, O)) : mapErr C O = 0 ∧ bA (mapT C O) = s := by
  simp only [mapRd] at h
  split at h
  · simp at h
  · rename_i C' O' hr
    split at h
    · rename_i he
      simp only [Prod.mk.injEq, true_and] at h
      obtain ⟨rfl, rfl⟩ := h
      refine ⟨he, ?_⟩
      have hl := (ok_of_mapErr he).len
      have e := rdm_back _ _ (Nat.le_refl _) _ _ hr hl
      rw [pcs_psp] at e
      have j := jn_psp 58 s.data.toList
      rw [e] at j
      cases O' with
      | nil => simp at hl
      | cons o O =>
        rw [jn_mapQ C' o O (by simpa using hl)] at j
        rw [j, bA_data]
    · rename_i he
      simp only [Prod.mk.injEq] at h
      exact absurd h.1 he
end Go.Proofs.YtnepdfpooobmcaaGreatDoor
