/- Contracts and lemmas for the proof of TopLog; each theorem states its own conditions. -/
import Derived.Test.YtddghaoejnbkaaaGreatDoorQTopLogau
import Derived.Test.YtddghaoejnbkaaaGreatDoorQTopLogbd
import Derived.Test.YtddghaoejnbkaaaGreatDoorQTopLogar
set_option linter.unusedVariables false
set_option linter.unusedSimpArgs false
/- Contracts and lemmas for the proofs of this seat; each theorem states its own conditions. -/
namespace Go.Proofs.YtddghaoejnbkaaaGreatDoor
open Go.RowKit
/-! text.Entry -/
/-- what stands in a line before its sum -/
def bodyT (x : Ent) : List UInt8 := if x.im = true then 109 :: 97 :: 112 :: 32 :: mapT x.cuts x.own else dT x.ops
/-- a line of a body -/
def lineT (b : List UInt8) : List UInt8 := b ++ 32 :: (Lib.itoa (sbL b) ++ [10])
def entT (x : Ent) : List UInt8 := lineT (bodyT x)
def entS (x : Ent) : ByteArray := if entE x = 0 then bA (entT x) else ⟨#[]⟩
theorem sbL_lt (l : List UInt8) : sbL l < 65521 := sbTo_lt l _
theorem mapT_len {C : List ByteArray} {O : List Int} (h : MapOk C O) : (mapT C O).length ≤ 400 := by
  have := mapTo_len h C.length (Nat.le_refl _)
  have := h.few
  rw [← mapTo_all h.len]
  omega
theorem mapS_size (C : List ByteArray) (O : List Int) : (mapS C O).size ≤ 400 := by
  unfold mapS
  split
  · rename_i h; rw [bA_size]; exact mapT_len (ok_of_mapErr h)
  · exact Nat.zero_le _
theorem dS_size (d : Ops) (hn : ∀ o ∈ d, -9223372036854775808 ≤ o.n ∧ o.n ≤ 9223372036854775807) : (dS d).size ≤ 400 := by
  unfold dS
  split
  · rename_i h; rw [bA_size]; exact dT_len (deed_ok h) hn
  · exact Nat.zero_le _
theorem line_bA (s : ByteArray) : s ++ ⟨#[32]⟩ ++ bA (Lib.itoa (sbL s.data.toList)) ++ ⟨#[10]⟩ = bA (lineT s.data.toList) := by
  refine bA_eq ?_
  simp [bA_toL, lineT, ByteArray.data_append]
theorem entS_no {x : Ent} (h : entE x ≠ 0) : entS x = ⟨#[]⟩ := if_neg h
theorem entS_map {x : Ent} (hi : x.im = true) (h : entE x = 0) : entS x = (⟨#[109, 97, 112, 32]⟩ ++ mapS x.cuts x.own) ++ ⟨#[32]⟩ ++ bA (Lib.itoa (sbL (⟨#[109, 97, 112, 32]⟩ ++ mapS x.cuts x.own : ByteArray).data.toList)) ++ ⟨#[10]⟩ := by
  have he : mapErr x.cuts x.own = 0 := by rw [entE, if_pos hi] at h; exact h
  rw [line_bA, entS, if_pos h, entT, bodyT, if_pos hi, mapS, if_pos he]
  simp [ByteArray.data_append, bA_toL]
theorem entS_deed {x : Ent} (hi : ¬ x.im = true) (h : entE x = 0) : entS x = dS x.ops ++ ⟨#[32]⟩ ++ bA (Lib.itoa (sbL (dS x.ops).data.toList)) ++ ⟨#[10]⟩ := by
  have he : deedE x.ops = 0 := by rw [entE, if_neg hi] at h; exact h
  rw [line_bA, entS, if_pos h, entT, bodyT, if_neg hi, dS, if_pos he, bA_toL]
set_option maxRecDepth 100000 in
set_option maxHeartbeats 2000000 in
theorem tentry_any (e : EV) (x : Ent) (w : World) (L : LaidT w) (h : EntSeg w e x) (sz : EntSz x) (hn : ∀ o ∈ x.ops, -9223372036854775808 ≤ o.n ∧ o.n ≤ 9223372036854775807) :
    Calls Tryz.prog 12 #[evV e] w fun r w' => r = .returned (.tuple #[.string (entS x), .int .i64 (entE x)]) ∧ Ext w w' := by
  obtain ⟨v1, b, v2, v3⟩ := e
  obtain ⟨h1, hb, h2, h3⟩ := h
  dsimp only at h1 hb h2 h3
  have b0 := heap_alloc_new w (.cells #[v1, .bool b, v2, v3] 42)
  have E0 := (Ext.refl w).alloc (.cells #[v1, .bool b, v2, v3] 42)
  have k0 := hid (fun w' (q : Ext _ w') => blk4 (q.heap b0))
  have HE0 := hid E0
  have C1 := hid (fun w' (q : Ext w w') => tmap_any (.agg #[v2, v3]) x.cuts x.own w' (L.ext q) ⟨v2, v3, rfl, h2.ext q, h3.ext q⟩ sz.cuts)
  have C2 := hid (tdeed_any v1 x.ops _ (L.ext E0) (h1.ext E0) sz.ops hn)
  have IT := hid (fun (n : Nat) (hn : n < 65521) w' (q : Ext w w') => itoa_any n w' (L.ext q) (by omega) (by omega))
  show Calls _ _ #[.agg #[v1, .bool b, v2, v3]] _ _
  have hz2 := dS_size x.ops hn
  have hz1 := mapS_size x.cuts x.own
  have c0 := blk4 b0
  cases b with
  | true =>
    have hE : entE x = mapErr x.cuts x.own := by rw [entE, if_pos hb.symm]
    have HS := hid (entS_map hb.symm)
    have HN := hid (@entS_no x)
    rw [hE] at HS HN ⊢
    generalize mapErr x.cuts x.own = me at C1 HS HN
    generalize mapS x.cuts x.own = M at C1 HS hz1
    generalize dS x.ops = D at C2 hz2
    generalize deedE x.ops = de at C2
    have z1 : ¬ 9223372036854775807 < 4 + M.size := by omega
    clear h1 h2 h3 hb hE sz L hn b0 E0
    by_cases hm : me = 0
    · obtain rfl := hm
      have HR := hid (HS.out rfl)
      have hMs : (⟨#[109, 97, 112, 32]⟩ ++ M : ByteArray).size = 4 + M.size := by rw [ByteArray.size_append]; rfl
      have HMS := hid hMs
      have TS := hid (fun w' => tsum_any (⟨#[109, 97, 112, 32]⟩ ++ M) w' (by omega))
      have hsl := sbL_lt (⟨#[109, 97, 112, 32]⟩ ++ M : ByteArray).data.toList
      generalize sbL (⟨#[109, 97, 112, 32]⟩ ++ M : ByteArray).data.toList = sv at HR TS hsl
      have ht := itoa_len21 (n := sv) (by omega) (by omega)
      rw [← bA_size] at ht
      have IT1 := hid (fun w' q => IT.out sv hsl w' q)
      generalize bA (Lib.itoa sv) = T at HR IT1 ht
      have z2 : ¬ 9223372036854775807 < 4 + M.size + 1 := by omega
      have z3 : ¬ 9223372036854775807 < 4 + M.size + 1 + T.size := by omega
      have z4 : ¬ 9223372036854775807 < 4 + M.size + 1 + T.size + 1 := by omega
      clear hMs IT HS HN
      go_enter Tryz.func12, Tryz.ntmps12
      go_wp2_with fail
      refine (C2.out).mono ?_
      clear C2
      rintro r w1 ⟨rfl, E1⟩
      have HE1 := hid (HE0.out.trans E1)
      have c1 := k0.out w1 E1
      have C11 := hid (C1.out w1 HE1.out)
      clear E1 C1 c0 k0
      go_wp2_with fail
      refine (C11.out).mono ?_
      clear C11
      rintro r w2 ⟨rfl, E2⟩
      have HE2 := hid (HE1.out.trans E2)
      have IT2 := hid (IT1.out w2 HE2.out)
      clear E2 IT1 c1
      go_wp2_with fail
      refine (TS.out w2).mono ?_
      clear TS
      rintro r w3 ⟨rfl, rfl⟩
      go_wp2_with fail
      refine (IT2.out).mono ?_
      clear IT2
      rintro r w4 ⟨rfl, E4⟩
      have HE4 := hid (HE2.out.trans E4)
      go_wp2
      go_ret2
      exact ⟨by rw [HR.out]; rfl, HE4.out⟩
    · have HR := hid (HN.out hm)
      have q : (me != 0) = true := by simp [hm]
      clear IT HS HN hm
      go_enter Tryz.func12, Tryz.ntmps12
      go_wp2_with fail
      refine (C2.out).mono ?_
      clear C2
      rintro r w1 ⟨rfl, E1⟩
      have HE1 := hid (HE0.out.trans E1)
      have c1 := k0.out w1 E1
      have C11 := hid (C1.out w1 HE1.out)
      clear E1 C1 c0 k0
      go_wp2_with fail
      refine (C11.out).mono ?_
      clear C11
      rintro r w2 ⟨rfl, E2⟩
      have HE2 := hid (HE1.out.trans E2)
      clear E2 c1
      go_wp2
      go_ret2
      exact ⟨by rw [HR.out]; rfl, HE2.out⟩
  | false =>
    have hE : entE x = deedE x.ops := by rw [entE, if_neg (by rw [← hb]; decide)]
    have HS := hid (entS_deed (x := x) (by rw [← hb]; decide))
    have HN := hid (@entS_no x)
    rw [hE] at HS HN ⊢
    generalize dS x.ops = D at C2 hz2 HS
    generalize deedE x.ops = de at C2 HS HN
    clear h1 h2 h3 hb hE sz L hn b0 E0 C1
    by_cases hm : de = 0
    · obtain rfl := hm
      have HR := hid (HS.out rfl)
      have TS := hid (fun w' => tsum_any D w' (by omega))
      have hsl := sbL_lt D.data.toList
      generalize sbL D.data.toList = sv at HR TS hsl
      have ht := itoa_len21 (n := sv) (by omega) (by omega)
      rw [← bA_size] at ht
      have IT1 := hid (fun w' q => IT.out sv hsl w' q)
      generalize bA (Lib.itoa sv) = T at HR IT1 ht
      have z2 : ¬ 9223372036854775807 < D.size + 1 := by omega
      have z3 : ¬ 9223372036854775807 < D.size + 1 + T.size := by omega
      have z4 : ¬ 9223372036854775807 < D.size + 1 + T.size + 1 := by omega
      clear IT HS HN
      go_enter Tryz.func12, Tryz.ntmps12
      go_wp2_with fail
      refine (C2.out).mono ?_
      clear C2
      rintro r w1 ⟨rfl, E1⟩
      have HE1 := hid (HE0.out.trans E1)
      have c1 := k0.out w1 E1
      have IT2 := hid (IT1.out w1 HE1.out)
      clear E1 c0 k0 IT1
      go_wp2_with fail
      refine (TS.out w1).mono ?_
      clear TS
      rintro r w3 ⟨rfl, rfl⟩
      go_wp2_with fail
      refine (IT2.out).mono ?_
      clear IT2
      rintro r w4 ⟨rfl, E4⟩
      have HE4 := hid (HE1.out.trans E4)
      go_wp2
      go_ret2
      exact ⟨by rw [HR.out]; rfl, HE4.out⟩
    · have HR := hid (HN.out hm)
      have q : (de != 0) = true := by simp [hm]
      clear IT HS HN hm
      go_enter Tryz.func12, Tryz.ntmps12
      go_wp2_with fail
      refine (C2.out).mono ?_
      clear C2
      rintro r w1 ⟨rfl, E1⟩
      have HE1 := hid (HE0.out.trans E1)
      have c1 := k0.out w1 E1
      clear E1 c0 k0
      go_wp2
      go_ret2
      exact ⟨by rw [HR.out]; rfl, HE1.out⟩
end Go.Proofs.YtddghaoejnbkaaaGreatDoor

/- Contracts and lemmas for the proofs of this seat; each theorem states its own conditions. -/
namespace Go.Proofs.YtddghaoejnbkaaaGreatDoor
open Go.RowKit
/-! text.ReadEntry, plain -/
/-- cut at the first c -/
def cutF (c : UInt8) : List UInt8 → Option (List UInt8 × List UInt8)
  | [] => none
  | b :: l => if b = c then some ([], l) else (cutF c l).map fun p => (b :: p.1, p.2)
/-- cut at the last c -/
def cutZ (c : UInt8) (l : List UInt8) : Option (List UInt8 × List UInt8) := (cutF c l.reverse).map fun p => (p.2.reverse, p.1.reverse)
theorem cutF_none {c : UInt8} : ∀ {l : List UInt8}, cutF c l = none → c ∉ l
  | [], _ => by simp
  | b :: l, h => by
    rw [cutF] at h
    split at h
    · cases h
    · rename_i hb
      have := cutF_none (l := l) (by simpa using h)
      simp only [List.mem_cons, not_or]
      exact ⟨fun e => hb e.symm, this⟩
theorem cutF_some {c : UInt8} : ∀ {l a r : List UInt8}, cutF c l = some (a, r) → l = a ++ c :: r ∧ c ∉ a
  | [], a, r, h => by cases h
  | b :: l, a, r, h => by
    rw [cutF] at h
    split at h
    · rename_i hb
      injection h with h; injection h with h1 h2
      subst h1; subst h2; subst hb
      exact ⟨rfl, by simp⟩
    · rename_i hb
      cases hc : cutF c l with
      | none => rw [hc] at h; cases h
      | some p =>
        rw [hc] at h
        injection h with h; injection h with h1 h2
        obtain ⟨e1, e2⟩ := cutF_some (l := l) (a := p.1) (r := p.2) hc
        subst h1; subst h2
        refine ⟨by rw [e1]; simp, ?_⟩
        simp only [List.mem_cons, not_or]
        exact ⟨fun e => hb e.symm, e2⟩
theorem cutF_at {c : UInt8} : ∀ {a : List UInt8} (r : List UInt8), c ∉ a → cutF c (a ++ c :: r) = some (a, r)
  | [], r, _ => by simp [cutF]
  | b :: a, r, h => by
    simp only [List.mem_cons, not_or] at h
    rw [List.cons_append, cutF, if_neg (fun e => h.1 e.symm), cutF_at r h.2]
    rfl
theorem cutF_not {c : UInt8} {l : List UInt8} (h : c ∉ l) : cutF c l = none := by
  cases hc : cutF c l with
  | none => rfl
  | some p => obtain ⟨e, _⟩ := cutF_some (a := p.1) (r := p.2) hc; exact absurd (by rw [e]; simp) h
theorem cutZ_none {c : UInt8} {l : List UInt8} (h : cutZ c l = none) : c ∉ l := by
  have := cutF_none (c := c) (l := l.reverse) (by simpa [cutZ] using h)
  simpa using this
theorem cutZ_some {c : UInt8} {l a r : List UInt8} (h : cutZ c l = some (a, r)) : l = a ++ c :: r ∧ c ∉ r := by
  unfold cutZ at h
  cases hc : cutF c l.reverse with
  | none => rw [hc] at h; cases h
  | some p =>
    rw [hc] at h
    injection h with h; injection h with h1 h2
    obtain ⟨e1, e2⟩ := cutF_some (a := p.1) (r := p.2) hc
    subst h1; subst h2
    refine ⟨?_, by simpa using e2⟩
    rw [← List.reverse_reverse l, e1]
    simp
theorem cutZ_at {c : UInt8} (a : List UInt8) {r : List UInt8} (h : c ∉ r) : cutZ c (a ++ c :: r) = some (a, r) := by
  have := cutF_at (c := c) (a := r.reverse) a.reverse (by simpa using h)
  rw [cutZ, show (a ++ c :: r).reverse = r.reverse ++ c :: a.reverse by simp, this]
  simp
def mapW : List UInt8 := [109, 97, 112, 32]
def entN : Ent := ⟨[], false, [], []⟩
/-- an entry's body read: the error, the entry -/
def bodyRd (b : List UInt8) : Int × Ent :=
  if mapW.isPrefixOf b = true then ((mapRd (bA (b.drop 4))).1, ⟨[], true, (mapRd (bA (b.drop 4))).2.1, (mapRd (bA (b.drop 4))).2.2⟩) else ((deedRd (bA b)).1, ⟨(deedRd (bA b)).2, false, [], []⟩)
/-- P39 of a line: the error, the entry, how long -/
def lnRd1 (line : List UInt8) : Int × Ent × Nat :=
  match cutZ 32 line with
  | none => (9, entN, 0)
  | some (b, n) =>
    match numL n with
    | none => (9, entN, 0)
    | some v => if v ≠ sbL b then (8, entN, 0) else if (bodyRd b).1 = 0 then (0, (bodyRd b).2, line.length + 1) else ((bodyRd b).1, entN, 0)
/-- P39 -/
def lnRd (l : List UInt8) : Int × Ent × Nat :=
  match cutF 10 l with
  | none => (7, entN, 0)
  | some (line, _) => lnRd1 line
theorem ixb_no : ∀ {l : List UInt8} {c : UInt8}, c ∉ l → Lib.indexByte l c = -1
  | [], c, _ => rfl
  | b :: l, c, h => by
    simp only [List.mem_cons, not_or] at h
    have ih := ixb_no (l := l) h.2
    have hb : (b == c) = false := by simpa using fun e => h.1 (Eq.symm e)
    simp [Lib.indexByte, ih, hb]
theorem ixb_at : ∀ {a r : List UInt8} {c : UInt8}, c ∉ a → Lib.indexByte (a ++ c :: r) c = (a.length : Int)
  | [], r, c, _ => by simp [Lib.indexByte]
  | b :: a, r, c, h => by
    simp only [List.mem_cons, not_or] at h
    have ih := ixb_at (a := a) (r := r) h.2
    have hb : (b == c) = false := by simpa using fun e => h.1 (Eq.symm e)
    simp only [List.cons_append, Lib.indexByte, hb, ih, List.length_cons]
    have : (((a.length : Int)) == -1) = false := by simp
    simp [this]
theorem dat_get (s : ByteArray) {j : Nat} (hj : j < s.size) : s.data[j]! = s.data.toList.getD j 0 := by
  have h1 : j < s.data.size := hj
  rw [getElem!_pos s.data j h1, List.getD_eq_getElem?_getD, Array.getElem?_toList, Array.getElem?_eq_getElem h1]
  rfl
theorem lxb_no {s : ByteArray} (h : (32 : UInt8) ∉ s.data.toList) : Lib.lastIndexByte s 32 = -1 := by
  rcases Lib.lastIdx_spec s 32 s.size with ⟨e, _⟩ | ⟨i, hi, _, e, _⟩
  · exact e
  · exfalso
    have h1 : i < s.data.toList.length := by rw [toL_len]; exact hi
    rw [dat_get s hi] at e
    refine h ?_
    have e2 : s.data.toList.getD i 0 = 32 := UInt8.toNat_inj.1 (by have : ((32 : UInt8).toNat : Int) = 32 := rfl; omega)
    rw [← e2, List.getD_eq_getElem?_getD, List.getElem?_eq_getElem h1]
    exact List.getElem_mem h1
theorem lxb_at {s : ByteArray} {b n : List UInt8} (e : s.data.toList = b ++ 32 :: n) (h : (32 : UInt8) ∉ n) : Lib.lastIndexByte s 32 = (b.length : Int) := by
  have hsz : s.size = b.length + (n.length + 1) := by rw [← toL_len, e]; simp
  have hat : ((s.data[b.length]!).toNat : Int) = 32 := by rw [dat_get s (by omega), e]; simp
  rcases Lib.lastIdx_spec s 32 s.size with ⟨_, q⟩ | ⟨i, hi, e1, e2, q⟩
  · exact absurd hat (q _ (by omega))
  · rw [Lib.lastIndexByte, e1]
    rcases Nat.lt_trichotomy i b.length with g | g | g
    · exact absurd hat (q _ g (by omega))
    · rw [g]
    · exfalso
      refine h ?_
      rw [dat_get s hi] at e2
      have e3 : s.data.toList.getD i 0 = 32 := UInt8.toNat_inj.1 (by have : ((32 : UInt8).toNat : Int) = 32 := rfl; omega)
      rw [e, List.getD_eq_getElem?_getD, List.getElem?_append_right (by omega), show i - b.length = (i - b.length - 1) + 1 by omega, List.getElem?_cons_succ, List.getElem?_eq_getElem (by omega)] at e3
      simp only [Option.getD_some] at e3
      rw [← e3]
      exact List.getElem_mem _
end Go.Proofs.YtddghaoejnbkaaaGreatDoor

/- Contracts and lemmas for the proofs of this seat; each theorem states its own conditions. -/
namespace Go.Proofs.YtddghaoejnbkaaaGreatDoor
/-! entries as text: plain laws -/
/-- bytes that a body may hold, but for the space behind "map" -/
def bodB (c : UInt8) : Bool := letB c || numB c || [58, 59, 61, 43, 60, 63, 42].contains c
theorem bod_let {c : UInt8} (h : letB c = true) : bodB c = true := by simp [bodB, h]
theorem bod_num {c : UInt8} (h : numB c = true) : bodB c = true := by simp [bodB, h]
theorem bod_key {k : ByteArray} (h : keyB k = true) : ∀ c ∈ k.data.toList, bodB c = true := fun c hc => bod_let (key_let h c hc)
theorem bod_itoa (n : Int) : ∀ c ∈ Lib.itoa n, bodB c = true := fun c hc => bod_num (itoa_numB n c hc)
theorem bod_not {l : List UInt8} (h : ∀ c ∈ l, bodB c = true) (d : UInt8) (hd : bodB d = false) : d ∉ l := fun q => by rw [h d q] at hd; cases hd
theorem bod_map {C : List ByteArray} {O : List Int} (h : MapOk C O) : ∀ c ∈ mapT C O, bodB c = true := by
  have hk : ∀ c ∈ C, keyB c = true := cut_key h.cut
  cases O with
  | nil => intro c hc; simp [mapT] at hc
  | cons o O =>
    intro c hc
    rw [mapT] at hc
    rcases List.mem_append.1 hc with hc | hc
    · exact bod_itoa _ c hc
    · obtain ⟨p, hp, hc⟩ := List.mem_flatMap.1 hc
      have hp1 := (List.of_mem_zip (a := p.1) (b := p.2) hp).1
      simp only [cutT, List.cons_append, List.mem_cons, List.mem_append] at hc
      rcases hc with rfl | hc | rfl | hc
      · rfl
      · exact bod_key (hk _ hp1) c hc
      · rfl
      · exact bod_itoa _ c hc
theorem bod_op {o : GOp} (h : OpOk o) : ∀ c ∈ opT o, bodB c = true := by
  have hk := bod_key h.key
  have hn := bod_itoa o.n
  have hf : o.kind = 3 ∨ o.kind = 5 → ∀ c ∈ o.from_.data.toList, bodB c = true := fun e => bod_key (h.from_ e).1
  have hkd := h.kinds
  obtain ⟨k, key, fr, n⟩ := o
  simp only at hk hn hf hkd
  intro c hc
  rcases hkd with rfl | rfl | rfl | rfl | rfl <;> simp [opT, opTl] at hc
  · rcases hc with hc | rfl | hc
    · exact hk c (by simpa using hc)
    · rfl
    · exact hn c hc
  · rcases hc with hc | rfl | hc
    · exact hk c (by simpa using hc)
    · rfl
    · exact hn c hc
  · rcases hc with hc | rfl | hc
    · exact hk c (by simpa using hc)
    · rfl
    · exact hf (.inl rfl) c (by simpa using hc)
  · rcases hc with hc | rfl | hc
    · exact hk c (by simpa using hc)
    · rfl
    · exact hn c hc
  · rcases hc with hc | rfl | hc | rfl | hc
    · exact hk c (by simpa using hc)
    · rfl
    · exact hf (.inr rfl) c (by simpa using hc)
    · rfl
    · exact hn c hc
/-- its sign -/
theorem op_sign {o : GOp} (h : OpOk o) : ∃ c ∈ opT o, c ∈ ([61, 43, 60, 63] : List UInt8) := by
  have hkd := h.kinds
  obtain ⟨k, key, fr, n⟩ := o
  simp only at hkd
  rcases hkd with rfl | rfl | rfl | rfl | rfl
  · exact ⟨61, by simp [opT, opTl], by simp⟩
  · exact ⟨43, by simp [opT, opTl], by simp⟩
  · exact ⟨60, by simp [opT, opTl], by simp⟩
  · exact ⟨63, by simp [opT, opTl], by simp⟩
  · exact ⟨60, by simp [opT, opTl], by simp⟩
theorem jn_mem {c d : UInt8} : ∀ {xs : List (List UInt8)}, d ∈ jn c xs → d = c ∨ ∃ x ∈ xs, d ∈ x
  | [], h => by simp [jn] at h
  | x :: r, h => by
    simp only [jn, List.mem_append, List.mem_flatMap] at h
    rcases h with h | ⟨y, hy, h⟩
    · exact .inr ⟨x, by simp, h⟩
    · rcases List.mem_cons.1 h with rfl | h
      · exact .inl rfl
      · exact .inr ⟨y, by simp [hy], h⟩
theorem bod_deed {d : Ops} (h : DeedOk d) : ∀ c ∈ dT d, bodB c = true := by
  intro c hc
  rcases jn_mem hc with rfl | ⟨x, hx, hc⟩
  · rfl
  · obtain ⟨o, ho, rfl⟩ := List.mem_map.1 hx
    exact bod_op (h.ops o ho) c hc
theorem deed_sign {d : Ops} (h : DeedOk d) : ∃ c ∈ dT d, c ∈ ([61, 43, 60, 63] : List UInt8) := by
  have h1 := h.lo
  cases d with
  | nil => simp at h1
  | cons o r =>
    obtain ⟨c, hc, hs⟩ := op_sign (h.ops o (by simp))
    exact ⟨c, by simp [dT, jn, hc], hs⟩
/-- what a body is -/
structure BodP (b : List UInt8) : Prop where
  nl : (10 : UInt8) ∉ b
  sp : ((32 : UInt8) ∉ b ∧ b ≠ [109, 97, 112]) ∨ ∃ m, b = mapW ++ m ∧ (32 : UInt8) ∉ m
theorem bodP_deed {d : Ops} (h : DeedOk d) : BodP (dT d) := by
  refine ⟨bod_not (bod_deed h) 10 rfl, .inl ⟨bod_not (bod_deed h) 32 rfl, fun e => ?_⟩⟩
  obtain ⟨c, hc, hs⟩ := deed_sign h
  rw [e] at hc
  simp only [List.mem_cons, List.not_mem_nil, or_false] at hc hs
  rcases hc with rfl | rfl | rfl <;> rcases hs with hs | hs | hs | hs <;> exact absurd hs (by decide)
theorem bodP_map {C : List ByteArray} {O : List Int} (h : MapOk C O) : BodP (mapW ++ mapT C O) := by
  refine ⟨?_, .inr ⟨_, rfl, bod_not (bod_map h) 32 rfl⟩⟩
  intro q
  rcases List.mem_append.1 q with q | q
  · exact absurd q (by decide)
  · exact bod_not (bod_map h) 10 rfl q
theorem bodyT_map {x : Ent} (h : x.im = true) : bodyT x = mapW ++ mapT x.cuts x.own := if_pos h
theorem bodyT_deed {x : Ent} (h : ¬ x.im = true) : bodyT x = dT x.ops := if_neg h
theorem bodP_ent {x : Ent} (h : entE x = 0) : BodP (bodyT x) := by
  by_cases hi : x.im = true
  · rw [bodyT_map hi]
    rw [entE, if_pos hi] at h
    exact bodP_map (ok_of_mapErr h)
  · rw [bodyT_deed hi]
    rw [entE, if_neg hi] at h
    exact bodP_deed (deed_ok h)
/-- what is read of a body is a body's -/
theorem bodyRd_bodP {b : List UInt8} (h : (bodyRd b).1 = 0) : BodP b := by
  unfold bodyRd at h
  split at h
  · rename_i hp
    have hb : b = mapW ++ b.drop 4 := by
      obtain ⟨t, ht⟩ := List.isPrefixOf_iff_prefix.1 hp
      rw [← ht]; rfl
    obtain ⟨C, O, hr⟩ : ∃ C O, mapRd (bA (b.drop 4)) = (0, C, O) := ⟨_, _, by rw [← h]⟩
    obtain ⟨h1, h2⟩ := mapRd_back hr
    have h3 : mapT C O = b.drop 4 := by have := congrArg (fun a => a.data.toList) h2; simpa [bA_toL] using this
    rw [hb, ← h3]
    exact bodP_map (ok_of_mapErr h1)
  · obtain ⟨d, hr⟩ : ∃ d, deedRd (bA b) = (0, d) := ⟨_, by rw [← h]⟩
    obtain ⟨h1, h2⟩ := deedRd_back hr
    have h3 : dT d = b := by have := congrArg (fun a => a.data.toList) h2; simpa [bA_toL] using this
    rw [← h3]
    exact bodP_deed h1
/-- the entry as it is read -/
def bareE (x : Ent) : Ent := if x.im = true then ⟨[], true, x.cuts, x.own⟩ else ⟨x.ops.map bareO, false, [], []⟩
theorem bodyRd_rt {x : Ent} (h : entE x = 0) : bodyRd (bodyT x) = (0, bareE x) := by
  by_cases hi : x.im = true
  · rw [bodyT_map hi]
    rw [entE, if_pos hi] at h
    have hp : mapW.isPrefixOf (mapW ++ mapT x.cuts x.own) = true := List.isPrefixOf_iff_prefix.2 ⟨_, rfl⟩
    rw [bodyRd, if_pos hp, show (mapW ++ mapT x.cuts x.own).drop 4 = mapT x.cuts x.own from rfl, mapRd_rt (ok_of_mapErr h), bareE, if_pos hi]
  · have hb := bodP_ent h
    rw [bodyT_deed hi] at hb ⊢
    rw [entE, if_neg hi] at h
    have hs := bod_not (bod_deed (deed_ok h)) 32 rfl
    have hp : ¬ mapW.isPrefixOf (dT x.ops) = true := fun hp => by
      obtain ⟨t, ht⟩ := List.isPrefixOf_iff_prefix.1 hp
      exact hs (by rw [← ht]; simp [mapW])
    rw [bodyRd, if_neg hp, deedRd_rt (deed_ok h), bareE, if_neg hi]
theorem itoaN_not (n : Nat) (d : UInt8) (hd : numB d = false) : d ∉ Lib.itoa n := itoa_not n d hd
/-- P38, P39: read as it was written -/
theorem lnRd_line {b : List UInt8} (hb : BodP b) (more : List UInt8) (hr : (bodyRd b).1 = 0) : lnRd (lineT b ++ more) = (0, (bodyRd b).2, (lineT b).length) := by
  have hn := itoaN_not (sbL b)
  have e1 : lineT b ++ more = (b ++ 32 :: Lib.itoa (sbL b)) ++ 10 :: more := by simp [lineT]
  have h1 : (10 : UInt8) ∉ b ++ 32 :: Lib.itoa (sbL b) := by
    simp only [List.mem_append, List.mem_cons, not_or]
    exact ⟨hb.nl, by decide, hn 10 rfl⟩
  have hz := cutZ_at b (hn 32 rfl)
  have hv := numL_itoa (n := (sbL b : Int)) (by omega) (by have := sbL_lt b; omega)
  rw [lnRd, e1, cutF_at more h1]
  simp only [lnRd1, hz, hv]
  rw [if_neg (by simp), if_pos hr]
  simp [lineT]
  omega
theorem lnRd_rt {x : Ent} (h : entE x = 0) (more : List UInt8) : lnRd (entT x ++ more) = (0, bareE x, (entT x).length) := by
  have hr := bodyRd_rt h
  have := lnRd_line (bodP_ent h) more (by rw [hr])
  rw [hr] at this
  exact this
/-- where a line is read: it is one -/
theorem lnRd_ok {l : List UInt8} (h : (lnRd l).1 = 0) : ∃ b more, l = lineT b ++ more ∧ BodP b ∧ (bodyRd b).1 = 0 ∧ (32 : UInt8) ∉ Lib.itoa (sbL b) := by
  unfold lnRd at h
  cases hF : cutF 10 l with
  | none => rw [hF] at h; cases h
  | some p =>
    obtain ⟨line, more⟩ := p
    rw [hF] at h
    obtain ⟨e1, h1⟩ := cutF_some hF
    simp only [lnRd1] at h
    cases hZ : cutZ 32 line with
    | none => rw [hZ] at h; cases h
    | some q =>
      obtain ⟨b, n⟩ := q
      obtain ⟨e2, h2⟩ := cutZ_some hZ
      simp only [hZ] at h
      cases hN : numL n with
      | none => rw [hN] at h; cases h
      | some v =>
        simp only [hN] at h
        split at h
        · cases h
        · rename_i hv
          have hv : v = (sbL b : Int) := by simpa using hv
          split at h
          · rename_i hb
            have hn := (numL_some hN).1
            rw [hv] at hn
            refine ⟨b, more, ?_, bodyRd_bodP hb, hb, itoaN_not _ 32 rfl⟩
            rw [e1, e2, ← hn]
            simp [lineT]
          · rename_i hb
            exact absurd h hb
end Go.Proofs.YtddghaoejnbkaaaGreatDoor
