/- Contracts and lemmas for the proof of TextLog; each theorem states its own conditions. -/
import Derived.Test.YtnepdfpooobmcaaDoorQTextLogbm
set_option linter.unusedVariables false
set_option linter.unusedSimpArgs false
/- Contracts and lemmas for the proofs of this seat; each theorem states its own conditions. -/
namespace Go.Proofs.YtnepdfpooobmcaaDoor
/-! entries as text: plain laws -/
/-- bytes that a body may hold, but for the space behind "map" -/
def bodB (c : UInt8) : Bool := letB c || numB c || [58, 59, 61, 43, 60, 63, 42].contains c
theorem bod_let {c : UInt8} (h : letB c = true) : bodB c = true := by simp [bodB, h]
theorem bod_num {c : UInt8} (h : numB c = true) : bodB c = true := by simp [bodB, h]
theorem bod_key {k : ByteArray} (h : keyB k = true) : ∀ c ∈ k.data.toList, bodB c = true := fun c hc => bod_let (key_let h c hc)
theorem bod_itoa (n : Int) : ∀ c ∈ Lib.itoa n, bodB c = true := fun c hc => bod_num (itoa_numB n c hc)
theorem bod_not {l : List UInt8} (h : ∀ c ∈ l, bodB c = true) (d : UInt8) (hd : bodB d = false) : d ∉ l := fun q => by rw [h d q] at hd; cases hd
theorem bod_map {C : List ByteArray} {O : List Int} (h : MapOk C O) : ∀ c ∈ mapT C O, bodB c = true := by
  have hk : ∀ c ∈ C, keyB c = true := cut_key h.cut
  cases O with
  | nil => intro c hc; simp [mapT] at hc
  | cons o O =>
    intro c hc
    rw [mapT] at hc
    rcases List.mem_append.1 hc with hc | hc
    · exact bod_itoa _ c hc
    · obtain ⟨p, hp, hc⟩ := List.mem_flatMap.1 hc
      have hp1 := (List.of_mem_zip (a := p.1) (b := p.2) hp).1
      simp only [cutT, List.cons_append, List.mem_cons, List.mem_append] at hc
      rcases hc with rfl | hc | rfl | hc
      · rfl
      · exact bod_key (hk _ hp1) c hc
      · rfl
      · exact bod_itoa _ c hc
theorem bod_op {o : GOp} (h : OpOk o) : ∀ c ∈ opT o, bodB c = true := by
  have hk := bod_key h.key
  have hn := bod_itoa o.n
  have hf : o.kind = 3 ∨ o.kind = 5 → ∀ c ∈ o.from_.data.toList, bodB c = true := fun e => bod_key (h.from_ e).1
  have hkd := h.kinds
  obtain ⟨k, key, fr, n⟩ := o
  simp only at hk hn hf hkd
  intro c hc
  rcases hkd with rfl | rfl | rfl | rfl | rfl <;> simp [opT, opTl] at hc
  · rcases hc with hc | rfl | hc
    · exact hk c (by simpa using hc)
    · rfl
    · exact hn c hc
  · rcases hc with hc | rfl | hc
    · exact hk c (by simpa using hc)
    · rfl
    · exact hn c hc
  · rcases hc with hc | rfl | hc
    · exact hk c (by simpa using hc)
    · rfl
    · exact hf (.inl rfl) c (by simpa using hc)
  · rcases hc with hc | rfl | hc
    · exact hk c (by simpa using hc)
    · rfl
    · exact hn c hc
  · rcases hc with hc | rfl | hc | rfl | hc
    · exact hk c (by simpa using hc)
    · rfl
    · exact hf (.inr rfl) c (by simpa using hc)
    · rfl
    · exact hn c hc
/-- its sign -/
theorem op_sign {o : GOp} (h : OpOk o) : ∃ c ∈ opT o, c ∈ ([61, 43, 60, 63] : List UInt8) := by
  have hkd := h.kinds
  obtain ⟨k, key, fr, n⟩ := o
  simp only at hkd
  rcases hkd with rfl | rfl | rfl | rfl | rfl
  · exact ⟨61, by simp [opT, opTl], by simp⟩
  · exact ⟨43, by simp [opT, opTl], by simp⟩
  · exact ⟨60, by simp [opT, opTl], by simp⟩
  · exact ⟨63, by simp [opT, opTl], by simp⟩
  · exact ⟨60, by simp [opT, opTl], by simp⟩
theorem jn_mem {c d : UInt8} : ∀ {xs : List (List UInt8)}, d ∈ jn c xs → d = c ∨ ∃ x ∈ xs, d ∈ x
  | [], h => by simp [jn] at h
  | x :: r, h => by
    simp only [jn, List.mem_append, List.mem_flatMap] at h
    rcases h with h | ⟨y, hy, h⟩
    · exact .inr ⟨x, by simp, h⟩
    · rcases List.mem_cons.1 h with rfl | h
      · exact .inl rfl
      · exact .inr ⟨y, by simp [hy], h⟩
theorem bod_deed {d : Ops} (h : DeedOk d) : ∀ c ∈ dT d, bodB c = true := by
  intro c hc
  rcases jn_mem hc with rfl | ⟨x, hx, hc⟩
  · rfl
  · obtain ⟨o, ho, rfl⟩ := List.mem_map.1 hx
    exact bod_op (h.ops o ho) c hc
theorem deed_sign {d : Ops} (h : DeedOk d) : ∃ c ∈ dT d, c ∈ ([61, 43, 60, 63] : List UInt8) := by
  have h1 := h.lo
  cases d with
  | nil => simp at h1
  | cons o r =>
    obtain ⟨c, hc, hs⟩ := op_sign (h.ops o (by simp))
    exact ⟨c, by simp [dT, jn, hc], hs⟩
/-- what a body is -/
structure BodP (b : List UInt8) : Prop where
  nl : (10 : UInt8) ∉ b
  sp : ((32 : UInt8) ∉ b ∧ b ≠ [109, 97, 112]) ∨ ∃ m, b = mapW ++ m ∧ (32 : UInt8) ∉ m
theorem bodP_deed {d : Ops} (h : DeedOk d) : BodP (dT d) := by
  refine ⟨bod_not (bod_deed h) 10 rfl, .inl ⟨bod_not (bod_deed h) 32 rfl, fun e => ?_⟩⟩
  obtain ⟨c, hc, hs⟩ := deed_sign h
  rw [e] at hc
  simp only [List.mem_cons, List.not_mem_nil, or_false] at hc hs
  rcases hc with rfl | rfl | rfl <;> rcases hs with hs | hs | hs | hs <;> exact absurd hs (by decide)
theorem bodP_map {C : List ByteArray} {O : List Int} (h : MapOk C O) : BodP (mapW ++ mapT C O) := by
  refine ⟨?_, .inr ⟨_, rfl, bod_not (bod_map h) 32 rfl⟩⟩
  intro q
  rcases List.mem_append.1 q with q | q
  · exact absurd q (by decide)
  · exact bod_not (bod_map h) 10 rfl q
theorem bodyT_map {x : Ent} (h : x.im = true) : bodyT x = mapW ++ mapT x.cuts x.own := if_pos h
theorem bodyT_deed {x : Ent} (h : ¬ x.im = true) : bodyT x = dT x.ops := if_neg h
theorem bodP_ent {x : Ent} (h : entE x = 0) : BodP (bodyT x) := by
  by_cases hi : x.im = true
  · rw [bodyT_map hi]
    rw [entE, if_pos hi] at h
    exact bodP_map (ok_of_mapErr h)
  · rw [bodyT_deed hi]
    rw [entE, if_neg hi] at h
    exact bodP_deed (deed_ok h)
/-- what is read of a body is a body's -/
theorem bodyRd_bodP {b : List UInt8} (h : (bodyRd b).1 = 0) : BodP b := by
  unfold bodyRd at h
  split at h
  · rename_i hp
    have hb : b = mapW ++ b.drop 4 := by
      obtain ⟨t, ht⟩ := List.isPrefixOf_iff_prefix.1 hp
      rw [← ht]; rfl
    obtain ⟨C, O, hr⟩ : ∃ C O, mapRd (bA (b.drop 4)) = (0, C, O) := ⟨_, _, by rw [← h]⟩
    obtain ⟨h1, h2⟩ := mapRd_back hr
    have h3 : mapT C O = b.drop 4 := by have := congrArg (fun a => a.data.toList) h2; simpa [bA_toL] using this
    rw [hb, ← h3]
    exact bodP_map (ok_of_mapErr h1)
  · obtain ⟨d, hr⟩ : ∃ d, deedRd (bA b) = (0, d) := ⟨_, by rw [← h]⟩
    obtain ⟨h1, h2⟩ := deedRd_back hr
    have h3 : dT d = b := by have := congrArg (fun a => a.data.toList) h2; simpa [bA_toL] using this
    rw [← h3]
    exact bodP_deed h1
/-- the entry as it is read -/
def bareE (x : Ent) : Ent := if x.im = true then ⟨[], true, x.cuts, x.own⟩ else ⟨x.ops.map bareO, false, [], []⟩
theorem bodyRd_rt {x : Ent} (h : entE x = 0) : bodyRd (bodyT x) = (0, bareE x) := by
  by_cases hi : x.im = true
  · rw [bodyT_map hi]
    rw [entE, if_pos hi] at h
    have hp : mapW.isPrefixOf (mapW ++ mapT x.cuts x.own) = true := List.isPrefixOf_iff_prefix.2 ⟨_, rfl⟩
    rw [bodyRd, if_pos hp, show (mapW ++ mapT x.cuts x.own).drop 4 = mapT x.cuts x.own from rfl, mapRd_rt (ok_of_mapErr h), bareE, if_pos hi]
  · have hb := bodP_ent h
    rw [bodyT_deed hi] at hb ⊢
    rw [entE, if_neg hi] at h
    have hs := bod_not (bod_deed (deed_ok h)) 32 rfl
    have hp : ¬ mapW.isPrefixOf (dT x.ops) = true := fun hp => by
      obtain ⟨t, ht⟩ := List.isPrefixOf_iff_prefix.1 hp
      exact hs (by rw [← ht]; simp [mapW])
    rw [bodyRd, if_neg hp, deedRd_rt (deed_ok h), bareE, if_neg hi]
theorem itoaN_not (n : Nat) (d : UInt8) (hd : numB d = false) : d ∉ Lib.itoa n := itoa_not n d hd
/-- P38, P39: read as it was written -/
theorem lnRd_line {b : List UInt8} (hb : BodP b) (more : List UInt8) (hr : (bodyRd b).1 = 0) : lnRd (lineT b ++ more) = (0, (bodyRd b).2, (lineT b).length) := by
  have hn := itoaN_not (sbL b)
  have e1 : lineT b ++ more = (b ++ 32 :: Lib.itoa (sbL b)) ++ 10 :: more := by simp [lineT]
  have h1 : (10 : UInt8) ∉ b ++ 32 :: Lib.itoa (sbL b) := by
    simp only [List.mem_append, List.mem_cons, not_or]
    exact ⟨hb.nl, by decide, hn 10 rfl⟩
  have hz := cutZ_at b (hn 32 rfl)
  have hv := numL_itoa (n := (sbL b : Int)) (by omega) (by have := sbL_lt b; omega)
  rw [lnRd, e1, cutF_at more h1]
  simp only [lnRd1, hz, hv]
  rw [if_neg (by simp), if_pos hr]
  simp [lineT]
  omega
theorem lnRd_rt {x : Ent} (h : entE x = 0) (more : List UInt8) : lnRd (entT x ++ more) = (0, bareE x, (entT x).length) := by
  have hr := bodyRd_rt h
  have := lnRd_line (bodP_ent h) more (by rw [hr])
  rw [hr] at this
  exact this
/-- where a line is read: it is one -/
theorem lnRd_ok {l : List UInt8} (h : (lnRd l).1 = 0) : ∃ b more, l = lineT b ++ more ∧ BodP b ∧ (bodyRd b).1 = 0 ∧ (32 : UInt8) ∉ Lib.itoa (sbL b) := by
  unfold lnRd at h
  cases hF : cutF 10 l with
  | none => rw [hF] at h; cases h
  | some p =>
    obtain ⟨line, more⟩ := p
    rw [hF] at h
    obtain ⟨e1, h1⟩ := cutF_some hF
    simp only [lnRd1] at h
    cases hZ : cutZ 32 line with
    | none => rw [hZ] at h; cases h
    | some q =>
      obtain ⟨b, n⟩ := q
      obtain ⟨e2, h2⟩ := cutZ_some hZ
      simp only [hZ] at h
      cases hN : numL n with
      | none => rw [hN] at h; cases h
      | some v =>
        simp only [hN] at h
        split at h
        · cases h
        · rename_i hv
          have hv : v = (sbL b : Int) := by simpa using hv
          split at h
          · rename_i hb
            have hn := (numL_some hN).1
            rw [hv] at hn
            refine ⟨b, more, ?_, bodyRd_bodP hb, hb, itoaN_not _ 32 rfl⟩
            rw [e1, e2, ← hn]
            simp [lineT]
          · rename_i hb
            exact absurd h hb
end Go.Proofs.YtnepdfpooobmcaaDoor
