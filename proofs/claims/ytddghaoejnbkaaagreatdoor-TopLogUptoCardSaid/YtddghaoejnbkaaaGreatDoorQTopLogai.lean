/- Contracts and lemmas for the proof of TopLog; each theorem states its own conditions. -/
import Derived.Test.YtddghaoejnbkaaaGreatDoorQTopLogah
import Derived.Test.YtddghaoejnbkaaaGreatDoorQTopLogae
import Derived.Lib.AtoiErrMem
import Derived.Sort.Grow
set_option linter.unusedVariables false
set_option linter.unusedSimpArgs false
/- Contracts and lemmas for the proofs of this seat; each theorem states its own conditions. -/
namespace Go.Proofs.YtddghaoejnbkaaaGreatDoor
theorem cutsOk_of {C : List ByteArray} (hp : C.Pairwise fun a b => blt a b = true) (hk : ∀ x ∈ C, keyB x = true) : allTo (cutOk C) C.length := by
  intro i hi
  have h1 := hk C[i] (List.getElem_mem hi)
  cases i with
  | zero => simp [cutOk, kAt_eq hi, h1]
  | succ i =>
    have h2 := List.pairwise_iff_getElem.1 hp i (i + 1) (by omega) hi (by omega)
    simp [cutOk, kAt_eq hi, kAt_eq (show i < C.length by omega), h1, h2]
theorem nm_key : ∀ j, (h : j < nmL.length) → keyB nmL[j] = true := by decide +kernel
theorem nm_lt : ∀ i, (hi : i < nmL.length) → ∀ j, (hj : j < nmL.length) → i < j → blt nmL[i] nmL[j] = true := by decide +kernel
theorem mkC_mem (l : List Int) : ∀ k, k ≤ 6 → ∀ x ∈ mkC l k, ∃ j, ∃ h : j < nmL.length, j < k ∧ x = nmL[j]
  | 0, _, x, hx => by simp [mkC] at hx
  | k + 1, hk, x, hx => by
    have ih := mkC_mem l k (by omega)
    have hl : k < nmL.length := by simp [nmL]; omega
    simp only [mkC] at hx
    split at hx
    · rw [List.mem_append] at hx
      rcases hx with hx | hx
      · obtain ⟨j, h, h1, h2⟩ := ih x hx; exact ⟨j, h, by omega, h2⟩
      · rw [List.mem_singleton, kAt_eq hl] at hx
        exact ⟨k, hl, by omega, hx⟩
    · obtain ⟨j, h, h1, h2⟩ := ih x hx; exact ⟨j, h, by omega, h2⟩
theorem mkC_sorted (l : List Int) : ∀ k, k ≤ 6 → (mkC l k).Pairwise fun a b => blt a b = true
  | 0, _ => by simp [mkC]
  | k + 1, hk => by
    have ih := mkC_sorted l k (by omega)
    have hl : k < nmL.length := by simp [nmL]; omega
    simp only [mkC]
    split
    · rw [List.pairwise_append]
      refine ⟨ih, by simp, fun a ha b hb => ?_⟩
      rw [List.mem_singleton, kAt_eq hl] at hb
      obtain ⟨j, h, h1, h2⟩ := mkC_mem l k (by omega) a ha
      rw [h2, hb]; exact nm_lt j h k hl h1
    · exact ih
theorem mkO_range (l : List Int) : ∀ k, ∀ n ∈ mkO l k, 0 ≤ n ∧ n < 4
  | 0, n, hn => by simp [mkO] at hn; omega
  | k + 1, n, hn => by
    simp only [mkO] at hn
    split at hn
    · rw [List.mem_append] at hn
      rcases hn with hn | hn
      · exact mkO_range l k n hn
      · rw [List.mem_singleton] at hn
        rw [hn]; exact ⟨wi_lo (by omega), wi_hi (by omega)⟩
    · exact mkO_range l k n hn
theorem ownsOk_of {O : List Int} (h : ∀ n ∈ O, 0 ≤ n ∧ n < 4) : allTo (ownOk O) O.length := by
  intro i hi
  have := h O[i] (List.getElem_mem hi)
  exact ownOk_yes hi this.1 this.2
theorem mk_ok (l : List Int) : MapOk (mkC l 6) (mkO l 6) :=
  ⟨by have := mkC_len l 6; omega, mkO_len l 6, cutsOk_of (mkC_sorted l 6 (by omega)) (fun x hx => by
    obtain ⟨j, h, _, h2⟩ := mkC_mem l 6 (by omega) x hx; rw [h2]; exact nm_key j h), ownsOk_of (mkO_range l 6)⟩
theorem mk_small (l : List Int) : ∀ x ∈ mkC l 6, x.size ≤ 9223372036854775807 := fun x hx => by
  obtain ⟨j, h, _, h2⟩ := mkC_mem l 6 (by omega) x hx
  have : ∀ j, (h : j < nmL.length) → nmL[j].size ≤ 2 := by decide +kernel
  have := this j h
  rw [h2]; omega
theorem mem_range_of {O : List Int} (h : allTo (ownOk O) O.length) : ∀ n ∈ O, 0 ≤ n ∧ n < 4 := by
  intro n hn
  obtain ⟨i, hi, rfl⟩ := List.mem_iff_getElem.1 hn
  have := h i hi
  simp [ownOk, hi] at this
  omega
/-- the place of a key -/
def plc (C : List ByteArray) (k : ByteArray) : Nat := idx (leAt C k) C.length
theorem plc_cut {C : List ByteArray} (hs : srt C) (k : ByteArray) : cutAt (leAt C k) C.length (plc C k) := by
  have hd := dropsB_le hs k
  have : ∃ i, cutAt (leAt C k) C.length i := by
    have key : ∀ m, m ≤ C.length → (∃ i, cutAt (leAt C k) C.length i) ∨ ∀ j, j < m → leAt C k j = true := by
      intro m
      induction m with
      | zero => intro _; right; intro j hj; omega
      | succ m ih =>
        intro hm
        rcases ih (by omega) with h | h
        · exact .inl h
        · cases hb : leAt C k m with
          | true => right; intro j hj; rcases Nat.lt_succ_iff_lt_or_eq.1 hj with h' | h'
                    · exact h j h'
                    · subst h'; exact hb
          | false =>
            left
            refine ⟨m, by omega, h, fun j hj hjn => ?_⟩
            cases hb' : leAt C k j with
            | false => rfl
            | true =>
              rcases Nat.eq_or_lt_of_le hj with h' | h'
              · subst h'; rw [hb] at hb'; cases hb'
              · have := hd m j h' hjn hb'; rw [hb] at this; cases this
    rcases key C.length (Nat.le_refl _) with h | h
    · exact h
    · exact ⟨C.length, Nat.le_refl _, h, fun j hj hjn => by omega⟩
  obtain ⟨i, hi⟩ := this
  have := idx_spec _ _ _ hi
  unfold plc; rw [this]; exact hi
theorem plc_le {C : List ByteArray} (hs : srt C) (k : ByteArray) : plc C k ≤ C.length := (plc_cut hs k).1
theorem whose_plc (C : List ByteArray) (O : List Int) (k : ByteArray) : whose C O k = O.getD (plc C k) 0 := rfl
theorem OwnMap.unpack {w : World} {B : Nat} {v : Value} {cuts : List ByteArray} {owners : List Int} (h : OwnMap w B v cuts owners) :
    ∃ a k a' k', v = .agg #[.slice a cuts.length k, .slice a' owners.length k'] ∧ IsMap w (.agg #[.slice a cuts.length k, .slice a' owners.length k']) cuts owners := by
  have h' := h.is
  obtain ⟨a, k, a', k', rfl, _⟩ := h'.unpack
  exact ⟨a, k, a', k', rfl, h'⟩
end Go.Proofs.YtddghaoejnbkaaaGreatDoor

/- Contracts and lemmas for the proofs of this seat; each theorem states its own conditions. -/
namespace Go.Proofs.YtddghaoejnbkaaaGreatDoor
/-! Plain, in plain lists -/
def lastO (O : List Int) : Int := O.getD (O.length - 1) 0
def pl (C : List ByteArray) (O : List Int) : Nat → List ByteArray × List Int
  | 0 => ([], [O.getD 0 0])
  | k + 1 => if O.getD (k + 1) 0 = lastO (pl C O k).2 then pl C O k else ((pl C O k).1 ++ [kAt C k], (pl C O k).2 ++ [O.getD (k + 1) 0])
theorem cut_key {C : List ByteArray} (h : allTo (cutOk C) C.length) : ∀ x ∈ C, keyB x = true := by
  intro x hx
  obtain ⟨i, hi, rfl⟩ := List.mem_iff_getElem.1 hx
  have := h i hi
  simp [cutOk, kAt_eq hi] at this
  exact this.1
end Go.Proofs.YtddghaoejnbkaaaGreatDoor

/- Contracts and lemmas for the proofs of this seat; each theorem states its own conditions. -/
namespace Go.Proofs.YtddghaoejnbkaaaGreatDoor
open Go.Lib
/-! maps as text, in plain lists -/
def bA (l : List UInt8) : ByteArray := ⟨l.toArray⟩
theorem bA_data (k : ByteArray) : bA k.data.toList = k := by simp [bA]
theorem bA_toL (l : List UInt8) : (bA l).data.toList = l := by simp [bA]
theorem key_let {k : ByteArray} (h : keyB k = true) : ∀ c ∈ k.data.toList, letB c = true := by
  simp only [keyB, Bool.and_eq_true, List.all_eq_true] at h
  rw [← toList_data]; exact h.2
theorem let_ne {c d : UInt8} (h : letB c = true) (hd : letB d = false) : c ≠ d := fun e => by rw [e, hd] at h; cases h
theorem num_ne {c d : UInt8} (h : numB c = true) (hd : numB d = false) : c ≠ d := fun e => by rw [e, hd] at h; cases h
theorem key_not {k : ByteArray} (h : keyB k = true) (d : UInt8) (hd : letB d = false) : d ∉ k.data.toList := fun q => let_ne (key_let h d q) hd rfl
theorem itoa_not (n : Int) (d : UInt8) (hd : numB d = false) : d ∉ itoa n := fun q => num_ne (itoa_numB n d q) hd rfl
theorem jn_cons (c : UInt8) (x y : List UInt8) (r : List (List UInt8)) : jn c (x :: y :: r) = x ++ c :: jn c (y :: r) := by
  simp [jn]
/-- one cut and the owner behind it -/
def cutT (p : ByteArray × Int) : List UInt8 := 58 :: p.1.data.toList ++ 58 :: itoa p.2
/-- P35 -/
def mapT (C : List ByteArray) : List Int → List UInt8
  | [] => []
  | o :: O => itoa o ++ (C.zip O).flatMap cutT
/-- the text of the first k cuts -/
def mapTo (C : List ByteArray) (O : List Int) (k : Nat) : List UInt8 := itoa (O.getD 0 0) ++ ((C.zip O.tail).take k).flatMap cutT
theorem mapTo_zero (C : List ByteArray) (O : List Int) : mapTo C O 0 = itoa (O.getD 0 0) := by simp [mapTo]
theorem mapTo_succ {C : List ByteArray} {O : List Int} {k : Nat} (hO : O.length = C.length + 1) (hk : k < C.length) :
    mapTo C O (k + 1) = mapTo C O k ++ (58 :: (C[k]).data.toList ++ 58 :: itoa (O[k + 1]'(by omega))) := by
  have hz : k < (C.zip O.tail).length := by simp; omega
  have e : (C.zip O.tail)[k] = (C[k], O[k + 1]'(by omega)) := by simp
  unfold mapTo
  rw [List.take_succ_eq_append_getElem hz, List.flatMap_append, e]
  simp [cutT]
theorem mapTo_all {C : List ByteArray} {O : List Int} (hO : O.length = C.length + 1) : mapTo C O C.length = mapT C O := by
  cases O with
  | nil => simp at hO
  | cons o O =>
    unfold mapTo mapT
    rw [List.take_of_length_le (by simp; omega)]
    rfl
/-- the pieces of a map -/
def mapQ : List ByteArray → List Int → List (List UInt8)
  | _, [] => []
  | [], o :: _ => [itoa o]
  | c :: C, o :: O => itoa o :: c.data.toList :: mapQ C O
theorem mapQ_ne {C : List ByteArray} {o : Int} {O : List Int} : ∃ x r, mapQ C (o :: O) = x :: r := by
  cases C <;> exact ⟨_, _, rfl⟩
theorem jn_mapQ : ∀ (C : List ByteArray) (o : Int) (O : List Int), O.length = C.length → jn 58 (mapQ C (o :: O)) = mapT C (o :: O)
  | [], o, O, h => by
    obtain rfl : O = [] := List.length_eq_zero_iff.1 h
    simp [mapQ, mapT, jn]
  | c :: C, o, [], h => by simp at h
  | c :: C, o, p :: O, h => by
    have ih := jn_mapQ C p O (by simpa using h)
    obtain ⟨x, r, e⟩ := mapQ_ne (C := C) (o := p) (O := O)
    rw [mapQ, e, jn_cons, jn_cons, ← e, ih]
    simp [mapT, cutT]
theorem mapQ_mem : ∀ (C : List ByteArray) (O : List Int), (∀ c ∈ C, keyB c = true) → ∀ y ∈ mapQ C O, (58 : UInt8) ∉ y
  | [], [], _, y, h => by simp [mapQ] at h
  | _ :: _, [], _, y, h => by simp [mapQ] at h
  | [], o :: O, _, y, h => by
    simp only [mapQ, List.mem_singleton] at h
    subst h; exact itoa_not o 58 rfl
  | c :: C, o :: O, hc, y, h => by
    simp only [mapQ, List.mem_cons] at h
    rcases h with rfl | rfl | h
    · exact itoa_not o 58 rfl
    · exact key_not (hc c (by simp)) 58 rfl
    · exact mapQ_mem C O (fun k hk => hc k (by simp [hk])) y h
/-- reading pieces: 'false' where a number is next -/
def rdm : Bool → List ByteArray → Option (List ByteArray × List Int)
  | _, [] => some ([], [])
  | true, w :: r => (rdm false r).map fun p => (w :: p.1, p.2)
  | false, w :: r => match numL w.data.toList with | none => none | some n => (rdm true r).map fun p => (p.1, n :: p.2)
theorem rdm_mapQ : ∀ (C : List ByteArray) (O : List Int) (L : List ByteArray), O.length = C.length + 1 → (∀ o ∈ O, -1000000000 ≤ o ∧ o ≤ 1000000000) → L.map (·.data.toList) = mapQ C O → rdm false L = some (C, O)
  | [], [], L, h, _, _ => by simp at h
  | [], o :: o' :: O, L, h, _, _ => by simp at h
  | [], [o], L, _, ho, e => by
    cases L with
    | nil => simp [mapQ] at e
    | cons w L =>
      simp only [mapQ, List.map_cons, List.cons.injEq, List.map_eq_nil_iff] at e
      obtain ⟨e1, rfl⟩ := e
      have := ho o (by simp)
      simp [rdm, e1, numL_itoa this.1 this.2]
  | c :: C, [], L, h, _, _ => by simp at h
  | c :: C, o :: O, L, h, ho, e => by
    match L, e with
    | [], e => simp [mapQ] at e
    | [w], e => simp [mapQ] at e
    | w :: u :: L, e =>
      simp only [mapQ, List.map_cons, List.cons.injEq] at e
      obtain ⟨e1, e2, e3⟩ := e
      have := ho o (by simp)
      have ih := rdm_mapQ C O L (by simpa using h) (fun x hx => ho x (by simp [hx])) e3
      have hu : u = c := by rw [← bA_data u, e2, bA_data]
      simp [rdm, e1, numL_itoa this.1 this.2, ih, hu]
theorem rdm_back : ∀ (n : Nat) (L : List ByteArray), L.length ≤ n → ∀ (C : List ByteArray) (O : List Int), rdm false L = some (C, O) → O.length = C.length + 1 → L.map (·.data.toList) = mapQ C O
  | n, [], hn, C, O, h, hl => by
    simp only [rdm, Option.some.injEq, Prod.mk.injEq] at h
    obtain ⟨rfl, rfl⟩ := h
    simp at hl
  | n, [w], hn, C, O, h, hl => by
    simp only [rdm] at h
    cases hw : numL w.data.toList with
    | none => simp [hw] at h
    | some v =>
      simp [hw] at h
      obtain ⟨rfl, rfl⟩ := h
      simp [mapQ, (numL_some hw).1]
  | n + 1, w :: u :: r, hn, C, O, h, hl => by
    simp only [rdm] at h
    cases hw : numL w.data.toList with
    | none => simp [hw] at h
    | some v =>
      cases hr : rdm false r with
      | none => simp [hw, hr] at h
      | some p =>
        simp [hw, hr] at h
        obtain ⟨rfl, rfl⟩ := h
        have ih := rdm_back n r (by simp at hn; omega) p.1 p.2 hr (by simpa using hl)
        simp [mapQ, (numL_some hw).1, ih]
  | 0, w :: u :: r, hn, C, O, h, hl => by simp at hn
/-- the pieces of a string between the bytes c -/
def pcs (s : ByteArray) (c : UInt8) : List ByteArray := splitB ⟨#[c]⟩ 0 (countB s ⟨#[c]⟩) s
theorem pcs_psp (s : ByteArray) (c : UInt8) : (pcs s c).map (·.data.toList) = psp c s.data.toList := splitB_psp s c
theorem pcs_len (s : ByteArray) (c : UInt8) : (pcs s c).length = countB s ⟨#[c]⟩ + 1 := by
  have := splitB_all ⟨#[c]⟩ (Nat.le_refl 1) 0 (countB s ⟨#[c]⟩) s rfl
  exact this
theorem pcs_mem {s : ByteArray} {c : UInt8} {w : ByteArray} (h : w ∈ pcs s c) : w.size ≤ s.size ∧ c ∉ w.data.toList := by
  have hm : w.data.toList ∈ psp c s.data.toList := by rw [← pcs_psp]; exact List.mem_map_of_mem h
  have := psp_sub _ _ hm
  exact ⟨by simpa [← ByteArray.size_data] using this, psp_mem _ _ hm⟩
/-- P36: the error, the cuts, the owners -/
def mapRd (s : ByteArray) : Int × List ByteArray × List Int :=
  match rdm false (pcs s 58) with
  | none => (9, [], [])
  | some (C, O) => if mapErr C O = 0 then (0, C, O) else (mapErr C O, [], [])
theorem mapRd_rt {C : List ByteArray} {O : List Int} (h : MapOk C O) : mapRd (bA (mapT C O)) = (0, C, O) := by
  have hl := h.len
  have hk : ∀ c ∈ C, keyB c = true := cut_key h.cut
  have ho : ∀ o ∈ O, 0 ≤ o ∧ o < 4 := mem_range_of h.own
  have e : (pcs (bA (mapT C O)) 58).map (·.data.toList) = mapQ C O := by
    rw [pcs_psp, bA_toL]
    cases O with
    | nil => simp at hl
    | cons o O =>
      rw [← jn_mapQ C o O (by simpa using hl)]
      obtain ⟨x, r, q⟩ := mapQ_ne (C := C) (o := o) (O := O)
      have := mapQ_mem C (o :: O) hk
      rw [q] at this ⊢
      exact psp_jn r x this
  have := rdm_mapQ C O _ hl (fun o q => by have := ho o q; omega) e
  simp only [mapRd, this, mapErr_ok h, if_true]
theorem mapRd_back {s : ByteArray} {C : List ByteArray} {O : List Int} (h : mapRd s = (0, C, O)) : mapErr C O = 0 ∧ bA (mapT C O) = s := by
  simp only [mapRd] at h
  split at h
  · simp at h
  · rename_i C' O' hr
    split at h
    · rename_i he
      simp only [Prod.mk.injEq, true_and] at h
      obtain ⟨rfl, rfl⟩ := h
      refine ⟨he, ?_⟩
      have hl := (ok_of_mapErr he).len
      have e := rdm_back _ _ (Nat.le_refl _) _ _ hr hl
      rw [pcs_psp] at e
      have j := jn_psp 58 s.data.toList
      rw [e] at j
      cases O' with
      | nil => simp at hl
      | cons o O =>
        rw [jn_mapQ C' o O (by simpa using hl)] at j
        rw [j, bA_data]
    · rename_i he
      simp only [Prod.mk.injEq] at h
      exact absurd h.1 he
end Go.Proofs.YtddghaoejnbkaaaGreatDoor

/- Contracts and lemmas for the proofs of this seat; each theorem states its own conditions. -/
namespace Go.Proofs.YtddghaoejnbkaaaGreatDoor
open Go.RowKit
/-! strconv.Itoa, strconv.Atoi, text.num, strings.Split -/
theorem grownX {w w' : World} (E : Ext w w') (row : Option Nat) : w.grownBy w' row := ⟨E.os, E.tape, E.output, E.size, fun k hk _ => E.block k hk⟩
theorem grownS (w : World) (p : Addr) (u : Value) : w.grownBy (w.setCell p u) (some p.block) :=
  ⟨rfl, rfl, rfl, by simp, fun k _ hne => Below.heap_setCell _ _ _ _ (fun e => hne (by rw [e]))⟩
/-- what the laid variables of the library hold -/
structure LaidT (w : World) : Prop where
  tab : Lib.TabIs Tryz.prog w "internal/strconv.uint64pow10" .u64 Lib.pow10Tab
  syn : ∃ te pe, w.cell? ⟨2, 0, none⟩ = some (.iface te pe)
  rng : ∃ te pe, w.cell? ⟨3, 0, none⟩ = some (.iface te pe)
  mx : ∃ m, w.cell? ⟨0, 0, none⟩ = some (.int .i64 m)
theorem var_ext {P : Program} {w w' : World} (E : Ext w w') {n : String} {cs : Array Value} (h : w.var? P n = some cs) : w'.var? P n = some cs := by
  unfold World.var? at h ⊢
  cases hg : P.globalNamed n with
  | none => simp [hg] at h
  | some g =>
    simp only [hg, Option.bind_some] at h ⊢
    cases hh : w.heap[g]? with
    | none => simp [hh] at h
    | some o => rw [E.heap hh]; rw [hh] at h; exact h
theorem LaidT.ext {w w' : World} (h : LaidT w) (E : Ext w w') : LaidT w' := by
  refine ⟨var_ext E h.tab, ?_, ?_, ?_⟩
  · obtain ⟨t, p, q⟩ := h.syn; exact ⟨t, p, E.cell q⟩
  · obtain ⟨t, p, q⟩ := h.rng; exact ⟨t, p, E.cell q⟩
  · obtain ⟨m, q⟩ := h.mx; exact ⟨m, E.cell q⟩
theorem ext_grow (w : World) (n : Nat) (os : Array Obj) : Ext w (Go.Sort.grow (w.drewN n) os) := by
  refine ⟨rfl, rfl, rfl, by simp [Go.Sort.grow, World.drewN], fun k hk => ?_⟩
  simp only [Go.Sort.grow, World.drewN]
  rw [Array.getElem?_append_left hk]
theorem itoa_any (n : Int) (w : World) (L : LaidT w) (h0 : -9223372036854775808 ≤ n) (h1 : n ≤ 9223372036854775807) :
    Calls Tryz.prog 94 #[.int .i64 n] w fun e w' => e = .returned (.string (bA (Lib.itoa n))) ∧ Ext w w' := by
  refine (Any.strconv_Itoa laysM171 n h0 h1 w L.tab).mono ?_
  rintro e w' ⟨rfl, k, os, rfl⟩
  exact ⟨rfl, ext_grow w k os⟩
theorem atoi_ok (s : ByteArray) (v : Int) (w : World) (hs : s.size ≤ 281474976710656) (h : Lib.atoiAll s.data.toList = .ok v) :
    Calls Tryz.prog 163 #[.string s] w fun e w' => e = .returned (.tuple #[.int .i64 v, .nilIface]) ∧ Ext w w' := by
  refine (Any.strconv_Atoi_ok laysC172 s (by omega) v h w).mono ?_
  rintro e w' ⟨rfl, rfl | ⟨t, rfl⟩⟩
  · exact ⟨rfl, Ext.refl _⟩
  · exact ⟨rfl, Lib.bytesWorld_below w _ t⟩
theorem atoi_no (s : ByteArray) (w : World) (L : LaidT w) (hs : s.size ≤ 281474976710656) (h : ∀ v, Lib.atoiAll s.data.toList ≠ .ok v) :
    Calls Tryz.prog 163 #[.string s] w fun e w' => ∃ n t p, e = .returned (.tuple #[.int .i64 n, .iface t p]) ∧ Ext w w' := by
  rcases hh : Lib.atoiAll s.data.toList with v | _ | _
  · exact absurd hh (h v)
  · obtain ⟨te, pe, hc⟩ := L.syn
    refine (Any.strconv_Atoi_syntax laysC172 s hs hh _ w hc (.inr ⟨te, pe, rfl⟩)).mono ?_
    rintro e w' ⟨N, rfl, _, _, E⟩
    exact ⟨_, _, _, rfl, E⟩
  · obtain ⟨te, pe, hc⟩ := L.rng
    refine (Any.strconv_Atoi_range laysC172 s hs hh _ w hc (.inr ⟨te, pe, rfl⟩)).mono ?_
    rintro e w' ⟨N, rfl, _, _, E⟩
    exact ⟨_, _, _, rfl, E⟩
theorem split_any (s : ByteArray) (c : UInt8) (w : World) (L : LaidT w) (hs : s.size < 4294967281) :
    Calls Tryz.prog 123 #[.string s, .string ⟨#[c]⟩] w fun e w' => e = .returned (.slice (some ⟨w.heap.size, 0, none⟩) (pcs s c).length (pcs s c).length) ∧ Seg w' (.slice (some ⟨w.heap.size, 0, none⟩) (pcs s c).length (pcs s c).length) 1 (pcs s c).length (cS (pcs s c)) ∧ Ext w w' := by
  obtain ⟨m, hm⟩ := L.mx
  refine (Any.strings_Split lays146 (by kernel_rfl) s ⟨#[c]⟩ m w hs hm (Nat.le_refl 1)).mono ?_
  rintro e w' ⟨rfl, rfl⟩
  have hl := pcs_len s c
  rw [← hl]
  refine ⟨rfl, ?_, (Ext.refl w).alloc _⟩
  have hle := Lib.countB_le ⟨#[c]⟩ (Nat.le_refl 1) s.size s (Nat.le_refl _)
  exact seg_blk (heap_alloc_new w _) (by simp [cS]) (Nat.le_refl _) (by unfold maxLen; omega)
set_option maxRecDepth 10000 in
theorem num_yes (s : ByteArray) (v : Int) (w : World) (L : LaidT w) (hs : s.size ≤ 281474976710656) (h : numL s.data.toList = some v) :
    Calls Tryz.prog 124 #[.string s] w fun e w' => e = .returned (.tuple #[.int .i64 v, .bool true]) ∧ Ext w w' := by
  obtain ⟨h1, h2, h3⟩ := numL_some h
  have AT := hid (atoi_ok s v w hs h3)
  have hb := Lib.atoiAll_bounds h3
  have IT := hid (fun w' (q : Ext w w') => itoa_any v w' (L.ext q) hb.1 hb.2)
  have hsl : s.data.toList.length = s.size := by simp [← ByteArray.size_data]
  have hsz : (s.size : Int) ≤ 11 := by omega
  have e1 : bA (Lib.itoa v) = s := by rw [h1, bA_data]
  rw [e1] at IT
  have q : (s.toList == s.toList) = true := by simp
  clear h1 h2 h3 hb h e1 hsl
  go_enter Tryz.func124, Tryz.ntmps124
  go_wp2_with fail
  refine (AT.out).mono ?_
  rintro e w1 ⟨rfl, E1⟩
  have IT1 := hid (IT.out w1 E1)
  clear AT IT
  go_wp2_with fail
  refine (IT1.out).mono ?_
  rintro e w2 ⟨rfl, E2⟩
  go_wp2
  go_ret2
  exact ⟨rfl, E1.trans E2⟩
set_option maxRecDepth 10000 in
theorem num_no (s : ByteArray) (w : World) (L : LaidT w) (hs : s.size ≤ 281474976710656) (h : numL s.data.toList = none) :
    Calls Tryz.prog 124 #[.string s] w fun e w' => ∃ n, e = .returned (.tuple #[.int .i64 n, .bool false]) ∧ Ext w w' := by
  by_cases hv : ∃ v, Lib.atoiAll s.data.toList = .ok v
  · obtain ⟨v, hv⟩ := hv
    have AT := hid (atoi_ok s v w hs hv)
    have hb := Lib.atoiAll_bounds hv
    have IT := hid (fun w' (q : Ext w w') => itoa_any v w' (L.ext q) hb.1 hb.2)
    have hsz : s.data.toList.length = s.size := by simp [← ByteArray.size_data]
    unfold numL at h
    rw [hv] at h
    simp only at h
    by_cases h11 : (s.size : Int) ≤ 11
    · have hne : ¬ (bA (Lib.itoa v)).toList = s.toList := by
        intro e
        have e1 := toList_inj e
        rw [if_pos ⟨by omega, by rw [← e1, bA_toL]⟩] at h
        cases h
      have q : ((bA (Lib.itoa v)).toList == s.toList) = false := by simp [hne]
      clear h hv hb hsz hne
      go_enter Tryz.func124, Tryz.ntmps124
      go_wp2_with fail
      refine (AT.out).mono ?_
      rintro e w1 ⟨rfl, E1⟩
      have IT1 := hid (IT.out w1 E1)
      clear AT IT
      go_wp2_with fail
      refine (IT1.out).mono ?_
      rintro e w2 ⟨rfl, E2⟩
      go_wp2
      go_ret2
      first | exact ⟨_, rfl, E1.trans E2⟩ | exact ⟨⟨_, rfl⟩, E1.trans E2⟩
    · clear h hv hb hsz IT
      go_enter Tryz.func124, Tryz.ntmps124
      go_wp2_with fail
      refine (AT.out).mono ?_
      rintro e w1 ⟨rfl, E1⟩
      clear AT
      go_wp2
      go_ret2
      first | exact ⟨_, rfl, E1⟩ | exact ⟨⟨_, rfl⟩, E1⟩
  · have AT := hid (atoi_no s w L hs (fun v hh => hv ⟨v, hh⟩))
    clear h hv
    go_enter Tryz.func124, Tryz.ntmps124
    go_wp2_with fail
    refine (AT.out).mono ?_
    rintro e w1 ⟨n, t, p, rfl, E1⟩
    clear AT
    go_wp2
    go_ret2
    first | exact ⟨_, rfl, E1⟩ | exact ⟨⟨_, rfl⟩, E1⟩
end Go.Proofs.YtddghaoejnbkaaaGreatDoor

/- Contracts and lemmas for the proofs of this seat; each theorem states its own conditions. -/
namespace Go.Proofs.YtddghaoejnbkaaaGreatDoor
open Go.RowKit
/-! text.Map, text.ReadMap -/
def mapS (C : List ByteArray) (O : List Int) : ByteArray := if mapErr C O = 0 then bA (mapT C O) else ⟨#[]⟩
theorem bA_eq {a b : ByteArray} (h : a.data.toList = b.data.toList) : a = b := by rw [← bA_data a, h, bA_data]
theorem bA_append (a b : List UInt8) : bA (a ++ b) = bA a ++ bA b := by
  refine bA_eq ?_
  rw [bA_toL, ByteArray.data_append, Array.toList_append, bA_toL, bA_toL]
theorem rSt {a b : ByteArray} (h : a = b) : Value.string a = Value.string b := by rw [h]
theorem rIn {a b : Int} (h : a = b) : Value.int .i64 a = Value.int .i64 b := by rw [h]
theorem own0 {O : List Int} (h : allTo (ownOk O) O.length) {i : Nat} (hi : i < O.length) : 0 ≤ O[i] ∧ O[i] < 4 := mem_range_of h _ (List.getElem_mem hi)
theorem bA_size (l : List UInt8) : (bA l).size = l.length := by simp [bA, ← ByteArray.size_data]
theorem key_size {k : ByteArray} (h : keyB k = true) : k.size ≤ 6 := by
  simp only [keyB, Bool.and_eq_true, decide_eq_true_eq] at h
  exact h.1.2
theorem toL_len (s : ByteArray) : s.data.toList.length = s.size := by simp [← ByteArray.size_data]
theorem itoa_len21 {n : Int} (h0 : -9223372036854775808 ≤ n) (h1 : n ≤ 9223372036854775807) : (Lib.itoa n).length ≤ 21 := Lib.itoa_length_le n h0 h1
theorem mapTo_len {C : List ByteArray} {O : List Int} (h : MapOk C O) : ∀ k, k ≤ C.length → (mapTo C O k).length ≤ 21 + 29 * k
  | 0, _ => by
    have hl := h.len
    have := own0 h.own (show 0 < O.length by omega)
    rw [mapTo_zero, show O.getD 0 0 = O[0]'(by omega) by simp [show 0 < O.length by omega]]
    have := itoa_len21 (n := O[0]'(by omega)) (by omega) (by omega)
    omega
  | k + 1, hk => by
    have hl := h.len
    have ih := mapTo_len h k (by omega)
    have := own0 h.own (show k + 1 < O.length by omega)
    have h1 := itoa_len21 (n := O[k + 1]'(by omega)) (by omega) (by omega)
    have h2 := key_size (cut_key h.cut C[k] (List.getElem_mem (by omega)))
    rw [mapTo_succ hl (by omega)]
    simp only [List.length_append, List.length_cons, toL_len]
    omega
set_option maxRecDepth 10000 in
set_option maxHeartbeats 1000000 in
theorem tmap_any (v : Value) (C : List ByteArray) (O : List Int) (w : World) (L : LaidT w) (hv : IsMap w v C O) (hk : ∀ k ∈ C, k.size ≤ 9223372036854775807) :
    Calls Tryz.prog 57 #[v] w fun e w' => e = .returned (.tuple #[.string (mapS C O), .int .i64 (mapErr C O)]) ∧ Ext w w' := by
  obtain ⟨c, o, rfl, h1, h2⟩ := hv
  have MC := hid (fun w' (q : Ext w w') => mcheck_any (.agg #[c, o]) C O w' ⟨c, o, rfl, h1.ext q, h2.ext q⟩ hk)
  have IT := hid (fun n w' (q : Ext w w') h0 h1 => itoa_any n w' (L.ext q) h0 h1)
  have E0 := (Ext.refl w).alloc (.cells #[c, o] 34)
  have b0 := blk2 (heap_alloc_new w (.cells #[c, o] 34))
  have MC0 := hid (MC.out _ E0)
  by_cases he : mapErr C O = 0
  · have ok := ok_of_mapErr he
    have HS := hid (show mapS C O = bA (mapT C O) by unfold mapS; rw [if_pos he])
    have HOK := hid ok
    have hl := ok.len
    have hf := ok.few
    have HL := hid hl
    rw [he] at MC0
    have HE := hid he
    obtain ⟨ao, ko, rfl⟩ := seg_form h2
    obtain ⟨b1, o1, rfl, _, g1, g2, hcO⟩ := seg_cells h2 (by omega)
    obtain ⟨o0, x0, IT0⟩ : ∃ o0, w.cell? ⟨b1, o1, none⟩ = some (.int .i64 o0) ∧ Hid (∀ w', Ext w w' → Calls Tryz.prog 94 #[.int .i64 o0] w' fun e w2 => e = .returned (.string (bA (mapTo C O 0))) ∧ Ext w' w2) := by
      have ho := own0 ok.own (show 0 < O.length by omega)
      refine ⟨O[0]'(by omega), hcO 0 _ (cI_at0 O 0 (by omega)), hid fun w' q => ?_⟩
      have := IT.out (O[0]'(by omega)) w' q (by omega) (by omega)
      rw [mapTo_zero, show O.getD 0 0 = O[0]'(by omega) by simp [show 0 < O.length by omega]]
      exact this
    obtain ⟨ac, kc, rfl⟩ := seg_form h1
    obtain ⟨N, hN⟩ : ∃ N, O.length = N := ⟨_, rfl⟩
    rw [hN] at b0 E0 MC0 g1
    have hN0 : 0 < N := by omega
    have x0 := E0.cell x0
    have HC := hid h1
    have HCO := hid hcO
    have HN := hid hN
    clear he ok hl L h1 h2 hcO hN MC
    go_enter Tryz.func57, Tryz.ntmps57
    rw [HN.out]
    go_wp2_with fail
    refine (MC0.out).mono ?_
    rintro e w1 ⟨rfl, E1⟩
    have EW := E0.trans E1
    have d0 := E1.cell b0.1
    have d1 := E1.cell b0.2.1
    have x1 := E1.cell x0
    have IT1 := hid (IT0.out w1 EW)
    have HW := hid EW
    have HD := hid (And.intro d0 d1)
    clear MC0 E0 E1 EW b0 x0 IT0
    go_wp2_with fail
    refine (IT1.out).mono ?_
    clear IT1
    rintro e w2 ⟨rfl, E2⟩
    have HW2 := hid (HW.out.trans E2)
    have d0 := E2.cell d0
    have HD := hid (And.intro d0 (E2.cell d1))
    clear d1 x1 E2 HW
    go_wp2_with fail
    go_loopw [5, 21] (fun sv iv wr => ∃ k : Nat, k ≤ C.length ∧ sv = .string (bA (mapTo C O k)) ∧ iv = .int .i64 k ∧ Hid (Ext w2 wr)) (fun _ iv _ => C.length - (intOf iv).toNat)
    case atStart => exact ⟨0, Nat.zero_le _, rfl, rfl, hid (Ext.refl _)⟩
    case round =>
      obtain ⟨wo, rfl⟩ : ∃ wo : World, wo = wr := ⟨_, rfl⟩
      obtain ⟨k, hk1, rfl, rfl, hE⟩ := hrel
      have dd := hE.out.cell HD.out.2
      by_cases hkl : k < C.length
      · obtain ⟨bc, oc, rfl, _, p1, p2, hcC⟩ := seg_cells HC.out (by omega)
        have c1 := (HW2.out.trans hE.out).cell (hcC k _ (cS_at0 C k hkl))
        have hO : k + 1 < O.length := by have := HL.out; omega
        have c2 := (HW2.out.trans hE.out).cell (HCO.out (k + 1) _ (cI_at0 O (k + 1) hO))
        have ho := own0 HOK.out.own hO
        have hst := mapTo_succ HL.out hkl
        have IT2 := fun w' (q : Ext wo w') => IT.out (O[k + 1]) w' ((HW2.out.trans hE.out).trans q) (by omega) (by omega)
        have htk := itoa_len21 (n := O[k + 1]) (by omega) (by omega)
        have hck := key_size (cut_key HOK.out.cut C[k] (List.getElem_mem hkl))
        have hsk := mapTo_len HOK.out k hk1
        have hfew := HOK.out.few
        generalize O[k + 1] = ok at c2 hst IT2 htk
        generalize C[k] = ck at c1 hst hck
        have hst2 : bA (mapTo C O (k + 1)) = bA (mapTo C O k) ++ (⟨#[58]⟩ ++ ck ++ ⟨#[58]⟩ ++ bA (Lib.itoa ok)) := by
          refine bA_eq ?_
          rw [hst]
          simp [bA_toL, ByteArray.data_append]
        rw [← bA_size] at htk hsk
        generalize bA (mapTo C O k) = sk at hsk hst2
        generalize bA (Lib.itoa ok) = tk at htk hst2 IT2
        have HST := hid hst2
        have IT2 := hid IT2
        have z1 : ¬ 9223372036854775807 < 1 + ck.size := by omega
        have z2 : ¬ 9223372036854775807 < 1 + ck.size + 1 := by omega
        have z3 : ¬ 9223372036854775807 < 1 + ck.size + 1 + tk.size := by omega
        have z4 : ¬ 9223372036854775807 < sk.size + (1 + ck.size + 1 + tk.size) := by omega
        have hN1 : k + 1 < N := by rw [← HN.out]; exact hO
        clear hcC ho hst hO hst2
        go_wp2_with fail
        refine (IT2.out wo (Ext.refl _)).mono ?_
        clear IT2
        rintro e w7 ⟨rfl, E7⟩
        have HE7 := hid (hE.out.trans E7)
        clear E7 c1 c2 dd
        go_wp2_with fail
        go_roundw
        case rel => exact ⟨k + 1, by omega, rSt HST.out.symm, by go_num, HE7⟩
        case measure => simp [intOf] <;> omega
      · obtain rfl : k = C.length := by omega
        have q : mapTo C O C.length = mapT C O := mapTo_all HL.out
        rw [q, ← HS.out]
        clear q
        go_wp2
        go_ret2
        exact ⟨by rw [HE.out]; rfl, HW2.out.trans hE.out⟩
  · have hS : mapS C O = ⟨#[]⟩ := by unfold mapS; rw [if_neg he]
    rw [hS]
    have HE := hid he
    have q : (mapErr C O != 0) = true := by simp [he]
    clear he
    go_enter Tryz.func57, Tryz.ntmps57
    go_wp2_with fail
    refine (MC0.out).mono ?_
    rintro e w1 ⟨rfl, E1⟩
    go_wp2
    go_ret2
    exact ⟨rfl, E0.trans E1⟩
end Go.Proofs.YtddghaoejnbkaaaGreatDoor
