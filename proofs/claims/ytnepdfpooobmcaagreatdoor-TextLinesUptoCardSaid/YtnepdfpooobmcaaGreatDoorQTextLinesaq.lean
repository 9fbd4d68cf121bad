/- Contracts and lemmas for the proof of TextLines; each theorem states its own conditions. -/
import Derived.Test.YtnepdfpooobmcaaGreatDoorQTextLinesan
import Derived.Test.YtnepdfpooobmcaaGreatDoorQTextLinesap
import Derived.Lib.IndexAny
import Derived.Lib.IndexBytes
import Derived.Lib.CutLaws
import Derived.Test.YtnepdfpooobmcaaGreatDoorQTextLinesak
import Derived.Deep.QuietTactic
import Derived.BigQuiet
set_option linter.unusedVariables false
set_option linter.unusedSimpArgs false
/- Contracts and lemmas for the proofs of this seat; each theorem states its own conditions. -/
namespace Go.Proofs.YtnepdfpooobmcaaGreatDoor
open Go.Lib
/-! deeds as text, in plain lists -/
def opTl (o : GOp) : List UInt8 :=
  if o.kind = 1 then 61 :: itoa o.n else if o.kind = 2 then 43 :: itoa o.n else if o.kind = 3 then 60 :: o.from_.data.toList
  else if o.kind = 4 then 63 :: itoa o.n else 60 :: o.from_.data.toList ++ 42 :: itoa o.n
def opT (o : GOp) : List UInt8 := o.key.data.toList ++ opTl o
def dT (d : Ops) : List UInt8 := jn 59 (d.map opT)
theorem OpOk.kinds {o : GOp} (h : OpOk o) : o.kind = 1 ∨ o.kind = 2 ∨ o.kind = 3 ∨ o.kind = 4 ∨ o.kind = 5 := by
  have := h.lo; have := h.hi; omega
/-! reading one -/
def rdAt (s : ByteArray) (k : Nat) : Option GOp :=
  if s.data.toList.getD k 0 = 61 then (numL (s.extract (k + 1) s.size).data.toList).map fun n => ⟨1, s.extract 0 k, ⟨#[]⟩, n⟩
  else if s.data.toList.getD k 0 = 43 then (numL (s.extract (k + 1) s.size).data.toList).map fun n => ⟨2, s.extract 0 k, ⟨#[]⟩, n⟩
  else if s.data.toList.getD k 0 = 63 then (numL (s.extract (k + 1) s.size).data.toList).map fun n => ⟨4, s.extract 0 k, ⟨#[]⟩, n⟩
  else if (cut (s.extract (k + 1) s.size).data.toList [42]).2.2 = true then
    (numL (cut (s.extract (k + 1) s.size).data.toList [42]).2.1).map fun n => ⟨5, s.extract 0 k, bA (cut (s.extract (k + 1) s.size).data.toList [42]).1, n⟩
  else some ⟨3, s.extract 0 k, s.extract (k + 1) s.size, 0⟩
def rdOp (s : ByteArray) : Option GOp :=
  if indexAny s.data.toList [61, 43, 60, 63] < 0 then none else rdAt s (indexAny s.data.toList [61, 43, 60, 63]).toNat
theorem ext_from (s : ByteArray) (a : Nat) : (s.extract a s.size).data.toList = s.data.toList.drop a := by
  rw [extract_data]; exact List.take_of_length_le (by simp [← ByteArray.size_data])
theorem ext_to (s : ByteArray) (a : Nat) : (s.extract 0 a).data.toList = s.data.toList.take a := by
  rw [extract_data]; simp
theorem bA_inj {a b : ByteArray} (h : a.data.toList = b.data.toList) : a = b := by rw [← bA_data a, h, bA_data]
theorem cut_at {x : List UInt8} {r : List UInt8} (hx : (42 : UInt8) ∉ x) : cut (x ++ 42 :: r) [42] = (x, r, true) := by
  have e : index (x ++ 42 :: r) [42] = (x.length : Int) := by
    rw [index_one]
    induction x with
    | nil => simp [indexByte]
    | cons b x ih =>
      have hb : (b == 42) = false := by simp; intro e; exact hx (by simp [e])
      have := ih (fun q => hx (by simp [q]))
      simp only [List.cons_append, indexByte, hb, this]
      have : ((x.length : Int) == -1) = false := by simp only [beq_eq_false_iff_ne]; omega
      simp [this]
  unfold cut
  rw [e, if_pos (by omega)]
  simp
theorem cut_no {x : List UInt8} (hx : (42 : UInt8) ∉ x) : cut x [42] = (x, [], false) := by
  have e : index x [42] = -1 := by
    rw [index_one]
    induction x with
    | nil => rfl
    | cons b x ih =>
      have hb : (b == 42) = false := by simp; intro e; exact hx (by simp [e])
      have := ih (fun q => hx (by simp [q]))
      simp [indexByte, hb, this]
  unfold cut
  rw [e, if_neg (by omega)]
theorem cut_back {x a b : List UInt8} (h : cut x [42] = (a, b, true)) : a ++ 42 :: b = x := by
  by_cases hx : (42 : UInt8) ∈ x
  · obtain ⟨p, q, e, hp⟩ : ∃ p q, x = p ++ 42 :: q ∧ (42 : UInt8) ∉ p := by
      clear h
      induction x with
      | nil => simp at hx
      | cons c x ih =>
        by_cases hc : c = 42
        · subst hc; exact ⟨[], x, rfl, by simp⟩
        · obtain ⟨p, q, e, hp⟩ := ih (by rcases List.mem_cons.1 hx with h | h; exact absurd h.symm hc; exact h)
          exact ⟨c :: p, q, by simp [e], by simp [hp]; exact fun h => hc h.symm⟩
    rw [e, cut_at hp] at h
    simp at h
    rw [e, h.1, h.2]
  · rw [cut_no hx] at h
    simp at h
theorem any_some {l : List UInt8} (h : ¬ indexAny l [61, 43, 60, 63] < 0) : ∃ (k : Nat) (c : UInt8), indexAny l [61, 43, 60, 63] = (k : Int) ∧ l[k]? = some c ∧ (c = 61 ∨ c = 43 ∨ c = 60 ∨ c = 63) := by
  induction l with
  | nil => simp [indexAny] at h
  | cons b l ih =>
    by_cases hb : [61, 43, 60, 63].contains b = true
    · refine ⟨0, b, indexAny_hit (NoAny.zero _ _) rfl hb, rfl, ?_⟩
      simp at hb
      exact hb
    · have hb' : [61, 43, 60, 63].contains b = false := by simpa using hb
      have e : indexAny (b :: l) [61, 43, 60, 63] = if indexAny l [61, 43, 60, 63] == -1 then -1 else indexAny l [61, 43, 60, 63] + 1 := by
        simp only [indexAny, hb']
        rfl
      have hge := indexAny_ge [61, 43, 60, 63] l
      rw [e] at h ⊢
      by_cases hz : indexAny l [61, 43, 60, 63] = -1
      · rw [hz] at h; simp at h
      · obtain ⟨k, c, h1, h2, h3⟩ := ih (by omega)
        refine ⟨k + 1, c, ?_, h2, h3⟩
        have h9 : ((k : Int) == -1) = false := by simp only [beq_eq_false_iff_ne]; omega
        rw [h1, h9]; simp only [Bool.false_eq_true, if_false]; omega
theorem rdOp_back {s : ByteArray} {o : GOp} (h : rdOp s = some o) : opT o = s.data.toList := by
  unfold rdOp at h
  split at h
  · cases h
  · rename_i hi
    obtain ⟨k, c, h1, h2, h3⟩ := any_some hi
    rw [h1, Int.toNat_natCast] at h
    have hg : s.data.toList.getD k 0 = c := by rw [List.getD_eq_getElem?_getD, h2]; rfl
    have hk : k < s.data.toList.length := by
      rcases Nat.lt_or_ge k s.data.toList.length with q | q
      · exact q
      · rw [List.getElem?_eq_none q] at h2; cases h2
    have hs : s.data.toList.take k ++ c :: s.data.toList.drop (k + 1) = s.data.toList := by
      have : s.data.toList[k] = c := by rw [List.getElem?_eq_getElem hk] at h2; exact Option.some.inj h2
      rw [← this, List.getElem_cons_drop hk, List.take_append_drop]
    unfold rdAt at h
    rw [hg] at h
    rw [ext_from] at h
    have fin : ∀ {kd : Int} {n : Int} {v : UInt8}, c = v → (numL (s.data.toList.drop (k + 1))).map (fun n => (⟨kd, s.extract 0 k, ⟨#[]⟩, n⟩ : GOp)) = some o → (∀ n, opTl ⟨kd, s.extract 0 k, ⟨#[]⟩, n⟩ = v :: itoa n) → opT o = s.data.toList := by
      intro kd n v hv hm ht
      cases hn : numL (s.data.toList.drop (k + 1)) with
      | none => simp [hn] at hm
      | some m =>
        simp [hn] at hm
        subst hm
        rw [opT, ht, (numL_some hn).1, ← hv]
        simp only [ext_to]
        exact hs
    split at h
    · rename_i hc
      exact fin (n := 0) hc h (fun n => by simp [opTl])
    · split at h
      · rename_i hc
        exact fin (n := 0) hc h (fun n => by simp [opTl])
      · split at h
        · rename_i hc
          exact fin (n := 0) hc h (fun n => by simp [opTl])
        · rename_i c1 c2 c3
          have hc : c = 60 := by rcases h3 with h | h | h | h <;> first | exact absurd h c1 | exact absurd h c2 | exact absurd h c3 | exact h
          subst hc
          split at h
          · rename_i hcut
            obtain ⟨a, b, hab⟩ : ∃ a b, cut (s.data.toList.drop (k + 1)) [42] = (a, b, true) := ⟨_, _, by rw [← hcut]⟩
            rw [hab] at h
            cases hn : numL b with
            | none => simp [hn] at h
            | some m =>
              simp [hn] at h
              subst h
              have := cut_back hab
              rw [opT]
              simp only [opTl, ext_to, bA_toL, (numL_some hn).1]
              simp
              rw [this]
              exact hs
          · simp at h
            subst h
            rw [opT]
            simp only [opTl, ext_to, ext_from]
            exact hs
/-! reading a deed -/
def rdOps : List ByteArray → Option Ops
  | [] => some []
  | w :: r => match rdOp w with | none => none | some o => (rdOps r).map (o :: ·)
/-- P34: the error, the operations -/
def deedRd (s : ByteArray) : Int × Ops :=
  match rdOps (pcs s 59) with
  | none => (9, [])
  | some d => if deedE d = 0 then (0, d) else (deedE d, [])
theorem rdOps_back : ∀ (L : List ByteArray) (d : Ops), rdOps L = some d → d.map opT = L.map (·.data.toList)
  | [], d, h => by simp [rdOps] at h; simp [← h]
  | w :: L, d, h => by
    simp only [rdOps] at h
    cases ho : rdOp w with
    | none => simp [ho] at h
    | some o =>
      cases hr : rdOps L with
      | none => simp [ho, hr] at h
      | some d' =>
        simp [ho, hr] at h
        subst h
        simp [rdOp_back ho, rdOps_back L d' hr]
theorem deedRd_back {s : ByteArray} {d : Ops} (h : deedRd s = (0, d)) : DeedOk d ∧ bA (dT d) = s := by
  simp only [deedRd] at h
  split at h
  · simp at h
  · rename_i d' hr
    split at h
    · rename_i he
      simp only [Prod.mk.injEq, true_and] at h
      subst h
      refine ⟨deed_ok he, ?_⟩
      rw [dT, rdOps_back _ _ hr, pcs_psp, jn_psp, bA_data]
    · rename_i he
      simp only [Prod.mk.injEq] at h
      exact absurd h.1 he
end Go.Proofs.YtnepdfpooobmcaaGreatDoor

/- Contracts and lemmas for the proofs of this seat; each theorem states its own conditions. -/
namespace Go.Proofs.YtnepdfpooobmcaaGreatDoor
open Go.RowKit
theorem value_any (n : Int) (w : World) : Calls Tryz.prog 171 #[.int .i64 n] w fun e w' => e = .returned (.bool (valB n)) ∧ w = w' := by
  by_cases h1 : -1000000000 ≤ n
  · by_cases h2 : n ≤ 1000000000
    · have HV := hid (show valB n = true by simp [valB, h1, h2])
      go_enter Tryz.func171, Tryz.ntmps171
      go_wp2
      go_ret
      exact ⟨rB HV.out.symm, rfl⟩
    · have HV := hid (show valB n = false by simp [valB, h2])
      have h2' : 1000000000 < n := by omega
      go_enter Tryz.func171, Tryz.ntmps171
      go_wp2
      go_ret
      exact ⟨rB HV.out.symm, rfl⟩
  · have HV := hid (show valB n = false by simp [valB, h1])
    have h1' : n < -1000000000 := by omega
    go_enter Tryz.func171, Tryz.ntmps171
    go_wp2
    go_ret
    exact ⟨rB HV.out.symm, rfl⟩
theorem zeroTo_succ {f : Nat → Int} {k : Nat} (h : ∀ j, j < k → f j = 0) (hk : f k = 0) : ∀ j, j < k + 1 → f j = 0 := by
  intro j hj
  rcases Nat.lt_succ_iff_lt_or_eq.1 hj with h' | h'
  · exact h j h'
  · subst h'; exact hk
def zeroTo (f : Nat → Int) (k : Nat) : Prop := ∀ j, j < k → f j = 0
end Go.Proofs.YtnepdfpooobmcaaGreatDoor
