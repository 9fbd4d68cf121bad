/- Contracts and lemmas for the proof of TopLog; each theorem states its own conditions. -/
import Derived.Test.YtddghaoejnbkaaaGreatDoorQTopLogai
import Derived.Test.YtddghaoejnbkaaaGreatDoorQTopLogaj
import Derived.Lib.IndexAny
import Derived.Lib.IndexBytes
import Derived.Lib.CutLaws
import Derived.Test.YtddghaoejnbkaaaGreatDoorQTopLogaf
import Derived.Deep.QuietTactic
import Derived.BigQuiet
set_option linter.unusedVariables false
set_option linter.unusedSimpArgs false
/- Contracts and lemmas for the proofs of this seat; each theorem states its own conditions. -/
namespace Go.Proofs.YtddghaoejnbkaaaGreatDoor
open Go.Lib
/-! deeds as text, in plain lists -/
/-- what its kind does not name is left out -/
def bareO (o : GOp) : GOp := if o.kind = 3 then ⟨o.kind, o.key, o.from_, 0⟩ else if o.kind = 5 then o else ⟨o.kind, o.key, ⟨#[]⟩, o.n⟩
def opTl (o : GOp) : List UInt8 :=
  if o.kind = 1 then 61 :: itoa o.n else if o.kind = 2 then 43 :: itoa o.n else if o.kind = 3 then 60 :: o.from_.data.toList
  else if o.kind = 4 then 63 :: itoa o.n else 60 :: o.from_.data.toList ++ 42 :: itoa o.n
def opT (o : GOp) : List UInt8 := o.key.data.toList ++ opTl o
def dT (d : Ops) : List UInt8 := jn 59 (d.map opT)
theorem OpOk.kinds {o : GOp} (h : OpOk o) : o.kind = 1 ∨ o.kind = 2 ∨ o.kind = 3 ∨ o.kind = 4 ∨ o.kind = 5 := by
  have := h.lo; have := h.hi; omega
theorem bare_ok {o : GOp} (h : OpOk o) : OpOk (bareO o) := by
  have hk := h.kinds
  obtain ⟨k, key, fr, n⟩ := o
  have h1 := h.key; have h2 := h.from_; have h3 := h.val; have h4 := h.pos
  simp only at hk h1 h2 h3 h4
  rcases hk with rfl | rfl | rfl | rfl | rfl <;> simp only [bareO] <;> refine ⟨?_, ?_, ?_, ?_, ?_, ?_⟩ <;> simp_all
theorem bare_ops {d : Ops} (h : DeedOk d) : DeedOk (d.map bareO) := by
  refine ⟨by simp [h.lo], by simp [h.hi], fun o ho => ?_⟩
  obtain ⟨p, hp, rfl⟩ := List.mem_map.1 ho
  exact bare_ok (h.ops p hp)
/-! reading one -/
def rdAt (s : ByteArray) (k : Nat) : Option GOp :=
  if s.data.toList.getD k 0 = 61 then (numL (s.extract (k + 1) s.size).data.toList).map fun n => ⟨1, s.extract 0 k, ⟨#[]⟩, n⟩
  else if s.data.toList.getD k 0 = 43 then (numL (s.extract (k + 1) s.size).data.toList).map fun n => ⟨2, s.extract 0 k, ⟨#[]⟩, n⟩
  else if s.data.toList.getD k 0 = 63 then (numL (s.extract (k + 1) s.size).data.toList).map fun n => ⟨4, s.extract 0 k, ⟨#[]⟩, n⟩
  else if (cut (s.extract (k + 1) s.size).data.toList [42]).2.2 = true then
    (numL (cut (s.extract (k + 1) s.size).data.toList [42]).2.1).map fun n => ⟨5, s.extract 0 k, bA (cut (s.extract (k + 1) s.size).data.toList [42]).1, n⟩
  else some ⟨3, s.extract 0 k, s.extract (k + 1) s.size, 0⟩
def rdOp (s : ByteArray) : Option GOp :=
  if indexAny s.data.toList [61, 43, 60, 63] < 0 then none else rdAt s (indexAny s.data.toList [61, 43, 60, 63]).toNat
theorem ext_from (s : ByteArray) (a : Nat) : (s.extract a s.size).data.toList = s.data.toList.drop a := by
  rw [extract_data]; exact List.take_of_length_le (by simp [← ByteArray.size_data])
theorem ext_to (s : ByteArray) (a : Nat) : (s.extract 0 a).data.toList = s.data.toList.take a := by
  rw [extract_data]; simp
theorem bA_inj {a b : ByteArray} (h : a.data.toList = b.data.toList) : a = b := by rw [← bA_data a, h, bA_data]
theorem any_at {x : List UInt8} {c : UInt8} {r : List UInt8} (hx : ∀ b ∈ x, letB b = true) (hc : [61, 43, 60, 63].contains c = true) : indexAny (x ++ c :: r) [61, 43, 60, 63] = (x.length : Int) := by
  refine indexAny_hit (x := c) ?_ (by simp) hc
  intro j b hj hb
  rw [List.getElem?_append_left hj] at hb
  have := hx b (List.mem_of_getElem? hb)
  simp only [List.contains_eq_any_beq, List.any_cons, List.any_nil, Bool.or_false, Bool.or_eq_false_iff, beq_eq_false_iff_ne]
  exact ⟨let_ne this rfl, let_ne this rfl, let_ne this rfl, let_ne this rfl⟩
theorem cut_at {x : List UInt8} {r : List UInt8} (hx : (42 : UInt8) ∉ x) : cut (x ++ 42 :: r) [42] = (x, r, true) := by
  have e : index (x ++ 42 :: r) [42] = (x.length : Int) := by
    rw [index_one]
    induction x with
    | nil => simp [indexByte]
    | cons b x ih =>
      have hb : (b == 42) = false := by simp; intro e; exact hx (by simp [e])
      have := ih (fun q => hx (by simp [q]))
      simp only [List.cons_append, indexByte, hb, this]
      have : ((x.length : Int) == -1) = false := by simp only [beq_eq_false_iff_ne]; omega
      simp [this]
  unfold cut
  rw [e, if_pos (by omega)]
  simp
theorem cut_no {x : List UInt8} (hx : (42 : UInt8) ∉ x) : cut x [42] = (x, [], false) := by
  have e : index x [42] = -1 := by
    rw [index_one]
    induction x with
    | nil => rfl
    | cons b x ih =>
      have hb : (b == 42) = false := by simp; intro e; exact hx (by simp [e])
      have := ih (fun q => hx (by simp [q]))
      simp [indexByte, hb, this]
  unfold cut
  rw [e, if_neg (by omega)]
theorem cut_back {x a b : List UInt8} (h : cut x [42] = (a, b, true)) : a ++ 42 :: b = x := by
  by_cases hx : (42 : UInt8) ∈ x
  · obtain ⟨p, q, e, hp⟩ : ∃ p q, x = p ++ 42 :: q ∧ (42 : UInt8) ∉ p := by
      clear h
      induction x with
      | nil => simp at hx
      | cons c x ih =>
        by_cases hc : c = 42
        · subst hc; exact ⟨[], x, rfl, by simp⟩
        · obtain ⟨p, q, e, hp⟩ := ih (by rcases List.mem_cons.1 hx with h | h; exact absurd h.symm hc; exact h)
          exact ⟨c :: p, q, by simp [e], by simp [hp]; exact fun h => hc h.symm⟩
    rw [e, cut_at hp] at h
    simp at h
    rw [e, h.1, h.2]
  · rw [cut_no hx] at h
    simp at h
theorem rdOp_at {s key : ByteArray} {c : UInt8} {r : List UInt8} (hk : ∀ b ∈ key.data.toList, letB b = true) (hc : [61, 43, 60, 63].contains c = true) (e : s.data.toList = key.data.toList ++ c :: r) :
    rdOp s = rdAt s key.size ∧ s.data.toList.getD key.size 0 = c ∧ s.extract 0 key.size = key ∧ (s.extract (key.size + 1) s.size).data.toList = r := by
  have hi := any_at (r := r) hk hc
  have hl : key.data.toList.length = key.size := by simp [← ByteArray.size_data]
  rw [← e, hl] at hi
  refine ⟨?_, ?_, ?_, ?_⟩
  · unfold rdOp
    rw [hi, if_neg (by omega), Int.toNat_natCast]
  · rw [e, List.getD_eq_getElem?_getD, ← hl]; simp
  · refine bA_inj ?_
    rw [ext_to, e, ← hl]; simp
  · rw [ext_from, e, ← hl]
    have : key.data.toList ++ c :: r = (key.data.toList ++ [c]) ++ r := by simp
    rw [this, show key.data.toList.length + 1 = (key.data.toList ++ [c]).length by simp, List.drop_left]
theorem rdOp_rt {o : GOp} (h : OpOk o) : rdOp (bA (opT o)) = some (bareO o) := by
  have hk := key_let h.key
  have hkd := h.kinds
  obtain ⟨k, key, fr, n⟩ := o
  have hv := h.val
  have hf := h.from_
  simp only at hkd hk hv hf
  rcases hkd with rfl | rfl | rfl | rfl | rfl
  · obtain ⟨e1, e2, e3, e4⟩ := rdOp_at (s := bA (opT ⟨1, key, fr, n⟩)) (c := 61) (r := itoa n) hk rfl (by simp [bA_toL, opT, opTl])
    rw [e1, rdAt, e2, e3, e4]
    have := hv (by omega)
    simp [numL_itoa this.1 this.2, bareO]
  · obtain ⟨e1, e2, e3, e4⟩ := rdOp_at (s := bA (opT ⟨2, key, fr, n⟩)) (c := 43) (r := itoa n) hk rfl (by simp [bA_toL, opT, opTl])
    rw [e1, rdAt, e2, e3, e4]
    have := hv (by omega)
    simp [numL_itoa this.1 this.2, bareO]
  · have hf := hf (Or.inl rfl)
    obtain ⟨e1, e2, e3, e4⟩ := rdOp_at (s := bA (opT ⟨3, key, fr, n⟩)) (c := 60) (r := fr.data.toList) hk rfl (by simp [bA_toL, opT, opTl])
    rw [e1, rdAt, e2, e3]
    have e5 := bA_inj (a := (bA (opT ⟨3, key, fr, n⟩)).extract (key.size + 1) (bA (opT ⟨3, key, fr, n⟩)).size) (b := fr) e4
    rw [e5, cut_no (key_not hf.1 42 rfl)]
    simp [bareO]
  · obtain ⟨e1, e2, e3, e4⟩ := rdOp_at (s := bA (opT ⟨4, key, fr, n⟩)) (c := 63) (r := itoa n) hk rfl (by simp [bA_toL, opT, opTl])
    rw [e1, rdAt, e2, e3, e4]
    have := hv (by omega)
    simp [numL_itoa this.1 this.2, bareO]
  · have hf := hf (Or.inr rfl)
    obtain ⟨e1, e2, e3, e4⟩ := rdOp_at (s := bA (opT ⟨5, key, fr, n⟩)) (c := 60) (r := fr.data.toList ++ 42 :: itoa n) hk rfl (by simp [bA_toL, opT, opTl])
    rw [e1, rdAt, e2, e3, e4, cut_at (key_not hf.1 42 rfl)]
    have := hv (by omega)
    simp [numL_itoa this.1 this.2, bareO, bA_data]
theorem any_some {l : List UInt8} (h : ¬ indexAny l [61, 43, 60, 63] < 0) : ∃ (k : Nat) (c : UInt8), indexAny l [61, 43, 60, 63] = (k : Int) ∧ l[k]? = some c ∧ (c = 61 ∨ c = 43 ∨ c = 60 ∨ c = 63) := by
  induction l with
  | nil => simp [indexAny] at h
  | cons b l ih =>
    by_cases hb : [61, 43, 60, 63].contains b = true
    · refine ⟨0, b, indexAny_hit (NoAny.zero _ _) rfl hb, rfl, ?_⟩
      simp at hb
      exact hb
    · have hb' : [61, 43, 60, 63].contains b = false := by simpa using hb
      have e : indexAny (b :: l) [61, 43, 60, 63] = if indexAny l [61, 43, 60, 63] == -1 then -1 else indexAny l [61, 43, 60, 63] + 1 := by
        simp only [indexAny, hb']
        rfl
      have hge := indexAny_ge [61, 43, 60, 63] l
      rw [e] at h ⊢
      by_cases hz : indexAny l [61, 43, 60, 63] = -1
      · rw [hz] at h; simp at h
      · obtain ⟨k, c, h1, h2, h3⟩ := ih (by omega)
        refine ⟨k + 1, c, ?_, h2, h3⟩
        have h9 : ((k : Int) == -1) = false := by simp only [beq_eq_false_iff_ne]; omega
        rw [h1, h9]; simp only [Bool.false_eq_true, if_false]; omega
theorem rdOp_back {s : ByteArray} {o : GOp} (h : rdOp s = some o) : opT o = s.data.toList := by
  unfold rdOp at h
  split at h
  · cases h
  · rename_i hi
    obtain ⟨k, c, h1, h2, h3⟩ := any_some hi
    rw [h1, Int.toNat_natCast] at h
    have hg : s.data.toList.getD k 0 = c := by rw [List.getD_eq_getElem?_getD, h2]; rfl
    have hk : k < s.data.toList.length := by
      rcases Nat.lt_or_ge k s.data.toList.length with q | q
      · exact q
      · rw [List.getElem?_eq_none q] at h2; cases h2
    have hs : s.data.toList.take k ++ c :: s.data.toList.drop (k + 1) = s.data.toList := by
      have : s.data.toList[k] = c := by rw [List.getElem?_eq_getElem hk] at h2; exact Option.some.inj h2
      rw [← this, List.getElem_cons_drop hk, List.take_append_drop]
    unfold rdAt at h
    rw [hg] at h
    rw [ext_from] at h
    have fin : ∀ {kd : Int} {n : Int} {v : UInt8}, c = v → (numL (s.data.toList.drop (k + 1))).map (fun n => (⟨kd, s.extract 0 k, ⟨#[]⟩, n⟩ : GOp)) = some o → (∀ n, opTl ⟨kd, s.extract 0 k, ⟨#[]⟩, n⟩ = v :: itoa n) → opT o = s.data.toList := by
      intro kd n v hv hm ht
      cases hn : numL (s.data.toList.drop (k + 1)) with
      | none => simp [hn] at hm
      | some m =>
        simp [hn] at hm
        subst hm
        rw [opT, ht, (numL_some hn).1, ← hv]
        simp only [ext_to]
        exact hs
    split at h
    · rename_i hc
      exact fin (n := 0) hc h (fun n => by simp [opTl])
    · split at h
      · rename_i hc
        exact fin (n := 0) hc h (fun n => by simp [opTl])
      · split at h
        · rename_i hc
          exact fin (n := 0) hc h (fun n => by simp [opTl])
        · rename_i c1 c2 c3
          have hc : c = 60 := by rcases h3 with h | h | h | h <;> first | exact absurd h c1 | exact absurd h c2 | exact absurd h c3 | exact h
          subst hc
          split at h
          · rename_i hcut
            obtain ⟨a, b, hab⟩ : ∃ a b, cut (s.data.toList.drop (k + 1)) [42] = (a, b, true) := ⟨_, _, by rw [← hcut]⟩
            rw [hab] at h
            cases hn : numL b with
            | none => simp [hn] at h
            | some m =>
              simp [hn] at h
              subst h
              have := cut_back hab
              rw [opT]
              simp only [opTl, ext_to, bA_toL, (numL_some hn).1]
              simp
              rw [this]
              exact hs
          · simp at h
            subst h
            rw [opT]
            simp only [opTl, ext_to, ext_from]
            exact hs
/-! reading a deed -/
def rdOps : List ByteArray → Option Ops
  | [] => some []
  | w :: r => match rdOp w with | none => none | some o => (rdOps r).map (o :: ·)
/-- P34: the error, the operations -/
def deedRd (s : ByteArray) : Int × Ops :=
  match rdOps (pcs s 59) with
  | none => (9, [])
  | some d => if deedE d = 0 then (0, d) else (deedE d, [])
theorem opT_not {o : GOp} (h : OpOk o) : (59 : UInt8) ∉ opT o := by
  have hk := key_not h.key 59 rfl
  have hi := itoa_not o.n 59 rfl
  have hkd := h.kinds
  have hf : o.kind = 3 ∨ o.kind = 5 → (59 : UInt8) ∉ o.from_.data.toList := fun q => key_not (h.from_ q).1 59 rfl
  unfold opT opTl
  intro q
  rcases List.mem_append.1 q with q | q
  · exact hk q
  · rcases hkd with e | e | e | e | e <;> simp only [e] at q hf <;> simp at q hf
    · exact hi q
    · exact hi q
    · exact hf q
    · exact hi q
    · rcases q with q | q
      · exact hf q
      · exact hi q
theorem rdOps_rt : ∀ (d : Ops) (L : List ByteArray), (∀ o ∈ d, OpOk o) → L.map (·.data.toList) = d.map opT → rdOps L = some (d.map bareO)
  | [], L, _, e => by
    obtain rfl : L = [] := by simpa using e
    rfl
  | o :: d, [], _, e => by simp at e
  | o :: d, w :: L, h, e => by
    simp only [List.map_cons, List.cons.injEq] at e
    have hw : w = bA (opT o) := by rw [← e.1, bA_data]
    have ih := rdOps_rt d L (fun x hx => h x (by simp [hx])) e.2
    simp [rdOps, hw, rdOp_rt (h o (by simp)), ih]
theorem rdOps_back : ∀ (L : List ByteArray) (d : Ops), rdOps L = some d → d.map opT = L.map (·.data.toList)
  | [], d, h => by simp [rdOps] at h; simp [← h]
  | w :: L, d, h => by
    simp only [rdOps] at h
    cases ho : rdOp w with
    | none => simp [ho] at h
    | some o =>
      cases hr : rdOps L with
      | none => simp [ho, hr] at h
      | some d' =>
        simp [ho, hr] at h
        subst h
        simp [rdOp_back ho, rdOps_back L d' hr]
theorem deedE_ok' {d : Ops} (h : DeedOk d) : deedE d = 0 := deedE_ok h
theorem deedRd_rt {d : Ops} (h : DeedOk d) : deedRd (bA (dT d)) = (0, d.map bareO) := by
  have hb := bare_ops h
  have e : (pcs (bA (dT d)) 59).map (·.data.toList) = d.map opT := by
    rw [pcs_psp, bA_toL, dT]
    cases d with
    | nil => exact absurd h.lo (by simp)
    | cons o d =>
      exact psp_jn _ _ (fun y hy => by
        have hy : y ∈ (o :: d).map opT := by simpa using hy
        obtain ⟨p, hp, rfl⟩ := List.mem_map.1 hy
        exact opT_not (h.ops p hp))
  have := rdOps_rt d _ h.ops e
  simp only [deedRd, this, deedE_ok' hb, if_true]
theorem deedRd_back {s : ByteArray} {d : Ops} (h : deedRd s = (0, d)) : DeedOk d ∧ bA (dT d) = s := by
  simp only [deedRd] at h
  split at h
  · simp at h
  · rename_i d' hr
    split at h
    · rename_i he
      simp only [Prod.mk.injEq, true_and] at h
      subst h
      refine ⟨deed_ok he, ?_⟩
      rw [dT, rdOps_back _ _ hr, pcs_psp, jn_psp, bA_data]
    · rename_i he
      simp only [Prod.mk.injEq] at h
      exact absurd h.1 he
end Go.Proofs.YtddghaoejnbkaaaGreatDoor

/- Contracts and lemmas for the proofs of this seat; each theorem states its own conditions. -/
namespace Go.Proofs.YtddghaoejnbkaaaGreatDoor
open Go.RowKit
theorem value_any (n : Int) (w : World) : Calls Tryz.prog 141 #[.int .i64 n] w fun e w' => e = .returned (.bool (valB n)) ∧ w = w' := by
  by_cases h1 : -1000000000 ≤ n
  · by_cases h2 : n ≤ 1000000000
    · have HV := hid (show valB n = true by simp [valB, h1, h2])
      go_enter Tryz.func141, Tryz.ntmps141
      go_wp2
      go_ret
      exact ⟨rB HV.out.symm, rfl⟩
    · have HV := hid (show valB n = false by simp [valB, h2])
      have h2' : 1000000000 < n := by omega
      go_enter Tryz.func141, Tryz.ntmps141
      go_wp2
      go_ret
      exact ⟨rB HV.out.symm, rfl⟩
  · have HV := hid (show valB n = false by simp [valB, h1])
    have h1' : n < -1000000000 := by omega
    go_enter Tryz.func141, Tryz.ntmps141
    go_wp2
    go_ret
    exact ⟨rB HV.out.symm, rfl⟩
theorem seg_pair {w : World} {b off : Nat} {l : Prs} (hc : ∀ j u, (cP l)[j]? = some u → w.cell? ⟨b, off + j, none⟩ = some u) {k : Nat} (hk : k < l.length) :
    w.cell? ⟨b, off + k * 2, none⟩ = some (.string l[k].1) ∧ w.cell? ⟨b, off + k * 2 + 1, none⟩ = some (.int .i64 l[k].2) :=
  ⟨hc _ _ (cP_at0 l k hk), by rw [Nat.add_assoc]; exact hc _ _ (cP_at1 l k hk)⟩
theorem pairErr_key {l : Prs} {k : Nat} (hk : k < l.length) (h : keyB l[k].1 = false) : pairErr l k = 3 := by rw [pairErr_at hk, if_pos h]
theorem pairErr_val {l : Prs} {k : Nat} (hk : k < l.length) (h : keyB l[k].1 = true) (h2 : valB l[k].2 = false ∨ l[k].2 = 0) : pairErr l k = 1 := by rw [pairErr_at hk, if_neg (by simp [h]), if_pos h2]
theorem pairErr_ord {l : Prs} {k : Nat} (hk : k < l.length) (h : keyB l[k].1 = true) (h2 : valB l[k].2 = true) (h3 : l[k].2 ≠ 0) (h4 : 0 < k) (h5 : blt (l[k - 1]'(by omega)).1 l[k].1 = false) : pairErr l k = 3 := by
  rw [pairErr_at hk, if_neg (by simp [h]), if_neg (by simp [h2, h3]), if_pos ⟨h4, h5⟩]
theorem pairErr_no {l : Prs} {k : Nat} (hk : k < l.length) (h : keyB l[k].1 = true) (h2 : valB l[k].2 = true) (h3 : l[k].2 ≠ 0) (h5 : 0 < k → blt (l[k - 1]'(by omega)).1 l[k].1 = true) : pairErr l k = 0 := by
  rw [pairErr_at hk, if_neg (by simp [h]), if_neg (by simp [h2, h3]), if_neg]
  rintro ⟨h6, h7⟩; rw [h5 h6] at h7; cases h7
theorem zeroTo_succ {f : Nat → Int} {k : Nat} (h : ∀ j, j < k → f j = 0) (hk : f k = 0) : ∀ j, j < k + 1 → f j = 0 := by
  intro j hj
  rcases Nat.lt_succ_iff_lt_or_eq.1 hj with h' | h'
  · exact h j h'
  · subst h'; exact hk
def zeroTo (f : Nat → Int) (k : Nat) : Prop := ∀ j, j < k → f j = 0
set_option maxRecDepth 10000 in
set_option maxHeartbeats 1000000 in
theorem scheck_any (v : Value) (l : Prs) (w : World) (hv : Seg w v 2 l.length (cP l)) (hk : ∀ p ∈ l, p.1.size ≤ 9223372036854775807) :
    Calls Tryz.prog 125 #[v] w fun e w' => e = .returned (.int .i64 (storeErr l)) ∧ Ext w w' := by
  obtain ⟨h0, a, cap, rfl, h1, h2, h3⟩ := hv
  unfold maxLen at h2
  go_enter Tryz.func125, Tryz.ntmps125
  go_wp2
  go_loopw [2, 3, 4, 7] (fun r _ _ i wr => ∃ k : Nat, k ≤ l.length ∧ i = .int .i64 k ∧ r = .int .i64 0 ∧ zeroTo (pairErr l) k ∧ Ext w wr) (fun _ _ _ i _ => l.length - (intOf i).toNat)
  case atStart => exact ⟨0, Nat.zero_le _, rfl, rfl, fun j h => absurd h (by omega), Ext.refl _⟩
  case round =>
    obtain ⟨k, hkl, rfl, rfl, hall, E⟩ := hrel
    by_cases hlt : k < l.length
    · obtain ⟨b, off, rfl, hc⟩ := h3 (by omega)
      have c := seg_pair hc hlt
      have c0 := E.cell c.1
      have c1 := E.cell c.2
      have hsz := hk l[k] (List.getElem_mem hlt)
      have bx := heap_alloc_new wr (.cells #[.string l[k].1, .int .i64 l[k].2] 62)
      have xx := blk2 bx
      have EA := (Ext.refl wr).alloc (.cells #[.string l[k].1, .int .i64 l[k].2] 62)
      cases hkey : keyB l[k].1 with
      | false =>
        have HF := hid (firstE_at hall (show pairErr l k ≠ 0 by rw [pairErr_key hlt hkey]; omega) hlt)
        have HG := hid (pairErr_key hlt hkey)
        clear hall hc h3
        go_wp2_with fail
        refine (key_any _ _ hsz).mono ?_
        rintro e w' ⟨rfl, rfl⟩
        go_wp2
        go_ret
        exact ⟨rI (by unfold storeErr; rw [HF.out, HG.out]), E.trans EA⟩
      | true =>
        cases hvb : valB l[k].2 with
        | false =>
          have HF := hid (firstE_at hall (show pairErr l k ≠ 0 by rw [pairErr_val hlt hkey (.inl hvb)]; omega) hlt)
          have HG := hid (pairErr_val hlt hkey (.inl hvb))
          clear hall hc h3
          go_wp2_with fail
          refine (key_any _ _ hsz).mono ?_
          rintro e w' ⟨rfl, rfl⟩
          go_wp2_with fail
          refine (value_any _ _).mono ?_
          rintro e w' ⟨rfl, rfl⟩
          go_wp2
          go_ret
          exact ⟨rI (by unfold storeErr; rw [HF.out, HG.out]), E.trans EA⟩
        | true =>
          by_cases hz : l[k].2 = 0
          · have hz' : (l[k].2 == 0) = true := by simp [hz]
            have HF := hid (firstE_at hall (show pairErr l k ≠ 0 by rw [pairErr_val hlt hkey (.inr hz)]; omega) hlt)
            have HG := hid (pairErr_val hlt hkey (.inr hz))
            clear hall hc h3 hz
            go_wp2_with fail
            refine (key_any _ _ hsz).mono ?_
            rintro e w' ⟨rfl, rfl⟩
            go_wp2_with fail
            refine (value_any _ _).mono ?_
            rintro e w' ⟨rfl, rfl⟩
            go_wp2
            go_ret
            exact ⟨rI (by unfold storeErr; rw [HF.out, HG.out]), E.trans EA⟩
          · have hz' : (l[k].2 == 0) = false := by simp [hz]
            have HZ := hid hz
            clear hz
            cases k with
            | zero =>
              have hs := zeroTo_succ hall (pairErr_no hlt hkey hvb HZ.out (fun h => absurd h (by omega)))
              have HS := hid hs
              simp only [Nat.zero_mul, Nat.add_zero] at c0 c1
              clear hall hs hc h3
              go_wp2_with fail
              refine (key_any _ _ hsz).mono ?_
              rintro e w' ⟨rfl, rfl⟩
              go_wp2_with fail
              refine (value_any _ _).mono ?_
              rintro e w' ⟨rfl, rfl⟩
              go_wp2_with fail
              go_quiet (fail)
              go_wp2
              go_roundw
              case rel => exact ⟨1, by omega, by go_num, rfl, HS.out, (E.trans EA).drewN _⟩
              case measure => simp [intOf]; omega
            | succ k =>
              have d0 := EA.cell (E.cell (seg_pair hc (show k < l.length by omega)).1)
              cases hb : blt (l[k]'(by omega)).1 l[k + 1].1 with
              | false =>
                have hb' : Op.bytesLess (l[k]'(by omega)).1.toList l[k + 1].1.toList = false := hb
                have HG := hid (pairErr_ord hlt hkey hvb HZ.out (by omega) hb)
                have HF := hid (firstE_at hall (show pairErr l (k + 1) ≠ 0 by rw [HG.out]; omega) hlt)
                clear hall hc h3
                go_wp2_with fail
                refine (key_any _ _ hsz).mono ?_
                rintro e w' ⟨rfl, rfl⟩
                go_wp2_with fail
                refine (value_any _ _).mono ?_
                rintro e w' ⟨rfl, rfl⟩
                go_wp2_with fail
                go_quiet (fail)
                go_wp2
                go_ret
                exact ⟨rI (by unfold storeErr; rw [HF.out, HG.out]), by (repeat (first | (with_reducible assumption) | (with_reducible exact Ext.refl _) | (with_reducible refine Ext.drew ?_) | (with_reducible refine Ext.drewN ?_ _) | (with_reducible refine Ext.alloc ?_ _) | (with_reducible refine Ext.trans ?_ (by with_reducible assumption))))⟩
              | true =>
                have hb' : Op.bytesLess (l[k]'(by omega)).1.toList l[k + 1].1.toList = true := hb
                have HS := hid (zeroTo_succ hall (pairErr_no hlt hkey hvb HZ.out (fun _ => hb)))
                clear hall hc h3
                go_wp2_with fail
                refine (key_any _ _ hsz).mono ?_
                rintro e w' ⟨rfl, rfl⟩
                go_wp2_with fail
                refine (value_any _ _).mono ?_
                rintro e w' ⟨rfl, rfl⟩
                go_wp2_with fail
                go_quiet (fail)
                go_wp2
                go_roundw
                case rel => exact ⟨k + 1 + 1, by omega, by go_num, rfl, HS.out, (E.trans EA).drewN _⟩
                case measure => simp [intOf]; omega
    · go_wp2
      go_ret
      obtain rfl : k = l.length := by omega
      exact ⟨rI (firstE_zero hall).symm, E⟩
end Go.Proofs.YtddghaoejnbkaaaGreatDoor
