/- Contracts and lemmas for the proof of TextSays; each theorem states its own conditions. -/
import Derived.Test.YtnepdfpooobmcaaGreatDoorQTextSaysac
import Derived.Test.YtnepdfpooobmcaaGreatDoorQTextSaysan
set_option linter.unusedVariables false
set_option linter.unusedSimpArgs false
/- Contracts and lemmas for the proofs of this seat; each theorem states its own conditions. -/
namespace Go.Proofs.YtnepdfpooobmcaaGreatDoor
open Go.Lib
/-! maps as text, in plain lists -/
def bA (l : List UInt8) : ByteArray := ⟨l.toArray⟩
theorem bA_data (k : ByteArray) : bA k.data.toList = k := by simp [bA]
theorem bA_toL (l : List UInt8) : (bA l).data.toList = l := by simp [bA]
theorem key_let {k : ByteArray} (h : keyB k = true) : ∀ c ∈ k.data.toList, letB c = true := by
  simp only [keyB, Bool.and_eq_true, List.all_eq_true] at h
  rw [← toList_data]; exact h.2
theorem let_ne {c d : UInt8} (h : letB c = true) (hd : letB d = false) : c ≠ d := fun e => by rw [e, hd] at h; cases h
theorem num_ne {c d : UInt8} (h : numB c = true) (hd : numB d = false) : c ≠ d := fun e => by rw [e, hd] at h; cases h
theorem key_not {k : ByteArray} (h : keyB k = true) (d : UInt8) (hd : letB d = false) : d ∉ k.data.toList := fun q => let_ne (key_let h d q) hd rfl
theorem itoa_not (n : Int) (d : UInt8) (hd : numB d = false) : d ∉ itoa n := fun q => num_ne (itoa_numB n d q) hd rfl
theorem jn_cons (c : UInt8) (x y : List UInt8) (r : List (List UInt8)) : jn c (x :: y :: r) = x ++ c :: jn c (y :: r) := by
  simp [jn]
/-- one cut and the owner behind it -/
def cutT (p : ByteArray × Int) : List UInt8 := 58 :: p.1.data.toList ++ 58 :: itoa p.2
/-- P35 -/
def mapT (C : List ByteArray) : List Int → List UInt8
  | [] => []
  | o :: O => itoa o ++ (C.zip O).flatMap cutT
/-- the text of the first k cuts -/
def mapTo (C : List ByteArray) (O : List Int) (k : Nat) : List UInt8 := itoa (O.getD 0 0) ++ ((C.zip O.tail).take k).flatMap cutT
theorem mapTo_zero (C : List ByteArray) (O : List Int) : mapTo C O 0 = itoa (O.getD 0 0) := by simp [mapTo]
theorem mapTo_succ {C : List ByteArray} {O : List Int} {k : Nat} (hO : O.length = C.length + 1) (hk : k < C.length) :
    mapTo C O (k + 1) = mapTo C O k ++ (58 :: (C[k]).data.toList ++ 58 :: itoa (O[k + 1]'(by omega))) := by
  have hz : k < (C.zip O.tail).length := by simp; omega
  have e : (C.zip O.tail)[k] = (C[k], O[k + 1]'(by omega)) := by simp
  unfold mapTo
  rw [List.take_succ_eq_append_getElem hz, List.flatMap_append, e]
  simp [cutT]
theorem mapTo_all {C : List ByteArray} {O : List Int} (hO : O.length = C.length + 1) : mapTo C O C.length = mapT C O := by
  cases O with
  | nil => simp at hO
  | cons o O =>
    unfold mapTo mapT
    rw [List.take_of_length_le (by simp; omega)]
    rfl
/-- the pieces of a map -/
def mapQ : List ByteArray → List Int → List (List UInt8)
  | _, [] => []
  | [], o :: _ => [itoa o]
  | c :: C, o :: O => itoa o :: c.data.toList :: mapQ C O
theorem mapQ_ne {C : List ByteArray} {o : Int} {O : List Int} : ∃ x r, mapQ C (o :: O) = x :: r := by
  cases C <;> exact ⟨_, _, rfl⟩
theorem jn_mapQ : ∀ (C : List ByteArray) (o : Int) (O : List Int), O.length = C.length → jn 58 (mapQ C (o :: O)) = mapT C (o :: O)
  | [], o, O, h => by
    obtain rfl : O = [] := List.length_eq_zero_iff.1 h
    simp [mapQ, mapT, jn]
  | c :: C, o, [], h => by simp at h
  | c :: C, o, p :: O, h => by
    have ih := jn_mapQ C p O (by simpa using h)
    obtain ⟨x, r, e⟩ := mapQ_ne (C := C) (o := p) (O := O)
    rw [mapQ, e, jn_cons, jn_cons, ← e, ih]
    simp [mapT, cutT]
theorem mapQ_mem : ∀ (C : List ByteArray) (O : List Int), (∀ c ∈ C, keyB c = true) → ∀ y ∈ mapQ C O, (58 : UInt8) ∉ y
  | [], [], _, y, h => by simp [mapQ] at h
  | _ :: _, [], _, y, h => by simp [mapQ] at h
  | [], o :: O, _, y, h => by
    simp only [mapQ, List.mem_singleton] at h
    subst h; exact itoa_not o 58 rfl
  | c :: C, o :: O, hc, y, h => by
    simp only [mapQ, List.mem_cons] at h
    rcases h with rfl | rfl | h
    · exact itoa_not o 58 rfl
    · exact key_not (hc c (by simp)) 58 rfl
    · exact mapQ_mem C O (fun k hk => hc k (by simp [hk])) y h
/-- reading pieces: 'false' where a number is next -/
def rdm : Bool → List ByteArray → Option (List ByteArray × List Int)
  | _, [] => some ([], [])
  | true, w :: r => (rdm false r).map fun p => (w :: p.1, p.2)
  | false, w :: r => match numL w.data.toList with | none => none | some n => (rdm true r).map fun p => (p.1, n :: p.2)
theorem rdm_mapQ : ∀ (C : List ByteArray) (O : List Int) (L : List ByteArray), O.length = C.length + 1 → (∀ o ∈ O, -1000000000 ≤ o ∧ o ≤ 1000000000) → L.map (·.data.toList) = mapQ C O → rdm false L = some (C, O)
  | [], [], L, h, _, _ => by simp at h
  | [], o :: o' :: O, L, h, _, _ => by simp at h
  | [], [o], L, _, ho, e => by
    cases L with
    | nil => simp [mapQ] at e
    | cons w L =>
      simp only [mapQ, List.map_cons, List.cons.injEq, List.map_eq_nil_iff] at e
      obtain ⟨e1, rfl⟩ := e
      have := ho o (by simp)
      simp [rdm, e1, numL_itoa this.1 this.2]
  | c :: C, [], L, h, _, _ => by simp at h
  | c :: C, o :: O, L, h, ho, e => by
    match L, e with
    | [], e => simp [mapQ] at e
    | [w], e => simp [mapQ] at e
    | w :: u :: L, e =>
      simp only [mapQ, List.map_cons, List.cons.injEq] at e
      obtain ⟨e1, e2, e3⟩ := e
      have := ho o (by simp)
      have ih := rdm_mapQ C O L (by simpa using h) (fun x hx => ho x (by simp [hx])) e3
      have hu : u = c := by rw [← bA_data u, e2, bA_data]
      simp [rdm, e1, numL_itoa this.1 this.2, ih, hu]
/-- the pieces of a string between the bytes c -/
def pcs (s : ByteArray) (c : UInt8) : List ByteArray := splitB ⟨#[c]⟩ 0 (countB s ⟨#[c]⟩) s
theorem pcs_psp (s : ByteArray) (c : UInt8) : (pcs s c).map (·.data.toList) = psp c s.data.toList := splitB_psp s c
theorem pcs_len (s : ByteArray) (c : UInt8) : (pcs s c).length = countB s ⟨#[c]⟩ + 1 := by
  have := splitB_all ⟨#[c]⟩ (Nat.le_refl 1) 0 (countB s ⟨#[c]⟩) s rfl
  exact this
theorem pcs_mem {s : ByteArray} {c : UInt8} {w : ByteArray} (h : w ∈ pcs s c) : w.size ≤ s.size ∧ c ∉ w.data.toList := by
  have hm : w.data.toList ∈ psp c s.data.toList := by rw [← pcs_psp]; exact List.mem_map_of_mem h
  have := psp_sub _ _ hm
  exact ⟨by simpa [← ByteArray.size_data] using this, psp_mem _ _ hm⟩
/-- P36: the error, the cuts, the owners -/
def mapRd (s : ByteArray) : Int × List ByteArray × List Int :=
  match rdm false (pcs s 58) with
  | none => (9, [], [])
  | some (C, O) => if mapErr C O = 0 then (0, C, O) else (mapErr C O, [], [])
theorem mapRd_rt {C : List ByteArray} {O : List Int} (h : MapOk C O) : mapRd (bA (mapT C O)) = (0, C, O) := by
  have hl := h.len
  have hk : ∀ c ∈ C, keyB c = true := cut_key h.cut
  have ho : ∀ o ∈ O, 0 ≤ o ∧ o < 4 := mem_range_of h.own
  have e : (pcs (bA (mapT C O)) 58).map (·.data.toList) = mapQ C O := by
    rw [pcs_psp, bA_toL]
    cases O with
    | nil => simp at hl
    | cons o O =>
      rw [← jn_mapQ C o O (by simpa using hl)]
      obtain ⟨x, r, q⟩ := mapQ_ne (C := C) (o := o) (O := O)
      have := mapQ_mem C (o :: O) hk
      rw [q] at this ⊢
      exact psp_jn r x this
  have := rdm_mapQ C O _ hl (fun o q => by have := ho o q; omega) e
  simp only [mapRd, this, mapErr_ok h, if_true]
end Go.Proofs.YtnepdfpooobmcaaGreatDoor
