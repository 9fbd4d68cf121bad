/- Contracts and lemmas for the proof of TextLines; each theorem states its own conditions. -/
import Derived.Test.YtnepdfpooobmcaaGreatDoorQTextLinesao
import Derived.Test.YtnepdfpooobmcaaGreatDoorQTextLinesak
set_option linter.unusedVariables false
set_option linter.unusedSimpArgs false
/- Contracts and lemmas for the proofs of this seat; each theorem states its own conditions. -/
namespace Go.Proofs.YtnepdfpooobmcaaGreatDoor
open Go.RowKit
/-! text.Map, text.ReadMap -/
def mapS (C : List ByteArray) (O : List Int) : ByteArray := if mapErr C O = 0 then bA (mapT C O) else ⟨#[]⟩
theorem bA_eq {a b : ByteArray} (h : a.data.toList = b.data.toList) : a = b := by rw [← bA_data a, h, bA_data]
theorem bA_append (a b : List UInt8) : bA (a ++ b) = bA a ++ bA b := by
  refine bA_eq ?_
  rw [bA_toL, ByteArray.data_append, Array.toList_append, bA_toL, bA_toL]
theorem rSt {a b : ByteArray} (h : a = b) : Value.string a = Value.string b := by rw [h]
theorem rIn {a b : Int} (h : a = b) : Value.int .i64 a = Value.int .i64 b := by rw [h]
theorem own0 {O : List Int} (h : allTo (ownOk O) O.length) {i : Nat} (hi : i < O.length) : 0 ≤ O[i] ∧ O[i] < 4 := mem_range_of h _ (List.getElem_mem hi)
theorem bA_size (l : List UInt8) : (bA l).size = l.length := by simp [bA, ← ByteArray.size_data]
theorem key_size {k : ByteArray} (h : keyB k = true) : k.size ≤ 6 := by
  simp only [keyB, Bool.and_eq_true, decide_eq_true_eq] at h
  exact h.1.2
theorem toL_len (s : ByteArray) : s.data.toList.length = s.size := by simp [← ByteArray.size_data]
theorem itoa_len21 {n : Int} (h0 : -9223372036854775808 ≤ n) (h1 : n ≤ 9223372036854775807) : (Lib.itoa n).length ≤ 21 := Lib.itoa_length_le n h0 h1
theorem mapTo_len {C : List ByteArray} {O : List Int} (h : MapOk C O) : ∀ k, k ≤ C.length → (mapTo C O k).length ≤ 21 + 29 * k
  | 0, _ => by
    have hl := h.len
    have := own0 h.own (show 0 < O.length by omega)
    rw [mapTo_zero, show O.getD 0 0 = O[0]'(by omega) by simp [show 0 < O.length by omega]]
    have := itoa_len21 (n := O[0]'(by omega)) (by omega) (by omega)
    omega
  | k + 1, hk => by
    have hl := h.len
    have ih := mapTo_len h k (by omega)
    have := own0 h.own (show k + 1 < O.length by omega)
    have h1 := itoa_len21 (n := O[k + 1]'(by omega)) (by omega) (by omega)
    have h2 := key_size (cut_key h.cut C[k] (List.getElem_mem (by omega)))
    rw [mapTo_succ hl (by omega)]
    simp only [List.length_append, List.length_cons, toL_len]
    omega
set_option maxRecDepth 10000 in
set_option maxHeartbeats 1000000 in
theorem tmap_any (v : Value) (C : List ByteArray) (O : List Int) (w : World) (L : LaidT w) (hv : IsMap w v C O) (hk : ∀ k ∈ C, k.size ≤ 9223372036854775807) :
    Calls Tryz.prog 8 #[v] w fun e w' => e = .returned (.tuple #[.string (mapS C O), .int .i64 (mapErr C O)]) ∧ Ext w w' := by
  obtain ⟨c, o, rfl, h1, h2⟩ := hv
  have MC := hid (fun w' (q : Ext w w') => mcheck_any (.agg #[c, o]) C O w' ⟨c, o, rfl, h1.ext q, h2.ext q⟩ hk)
  have IT := hid (fun n w' (q : Ext w w') h0 h1 => itoa_any n w' (L.ext q) h0 h1)
  have E0 := (Ext.refl w).alloc (.cells #[c, o] 28)
  have b0 := blk2 (heap_alloc_new w (.cells #[c, o] 28))
  have MC0 := hid (MC.out _ E0)
  by_cases he : mapErr C O = 0
  · have ok := ok_of_mapErr he
    have HS := hid (show mapS C O = bA (mapT C O) by unfold mapS; rw [if_pos he])
    have HOK := hid ok
    have hl := ok.len
    have hf := ok.few
    have HL := hid hl
    rw [he] at MC0
    have HE := hid he
    obtain ⟨ao, ko, rfl⟩ := seg_form h2
    obtain ⟨b1, o1, rfl, _, g1, g2, hcO⟩ := seg_cells h2 (by omega)
    obtain ⟨o0, x0, IT0⟩ : ∃ o0, w.cell? ⟨b1, o1, none⟩ = some (.int .i64 o0) ∧ Hid (∀ w', Ext w w' → Calls Tryz.prog 97 #[.int .i64 o0] w' fun e w2 => e = .returned (.string (bA (mapTo C O 0))) ∧ Ext w' w2) := by
      have ho := own0 ok.own (show 0 < O.length by omega)
      refine ⟨O[0]'(by omega), hcO 0 _ (cI_at0 O 0 (by omega)), hid fun w' q => ?_⟩
      have := IT.out (O[0]'(by omega)) w' q (by omega) (by omega)
      rw [mapTo_zero, show O.getD 0 0 = O[0]'(by omega) by simp [show 0 < O.length by omega]]
      exact this
    obtain ⟨ac, kc, rfl⟩ := seg_form h1
    obtain ⟨N, hN⟩ : ∃ N, O.length = N := ⟨_, rfl⟩
    rw [hN] at b0 E0 MC0 g1
    have hN0 : 0 < N := by omega
    have x0 := E0.cell x0
    have HC := hid h1
    have HCO := hid hcO
    have HN := hid hN
    clear he ok hl L h1 h2 hcO hN MC
    go_enter Tryz.func8, Tryz.ntmps8
    rw [HN.out]
    go_wp2_with fail
    refine (MC0.out).mono ?_
    rintro e w1 ⟨rfl, E1⟩
    have EW := E0.trans E1
    have d0 := E1.cell b0.1
    have d1 := E1.cell b0.2.1
    have x1 := E1.cell x0
    have IT1 := hid (IT0.out w1 EW)
    have HW := hid EW
    have HD := hid (And.intro d0 d1)
    clear MC0 E0 E1 EW b0 x0 IT0
    go_wp2_with fail
    refine (IT1.out).mono ?_
    clear IT1
    rintro e w2 ⟨rfl, E2⟩
    have HW2 := hid (HW.out.trans E2)
    have d0 := E2.cell d0
    have HD := hid (And.intro d0 (E2.cell d1))
    clear d1 x1 E2 HW
    go_wp2_with fail
    go_loopw [5, 21] (fun sv iv wr => ∃ k : Nat, k ≤ C.length ∧ sv = .string (bA (mapTo C O k)) ∧ iv = .int .i64 k ∧ Hid (Ext w2 wr)) (fun _ iv _ => C.length - (intOf iv).toNat)
    case atStart => exact ⟨0, Nat.zero_le _, rfl, rfl, hid (Ext.refl _)⟩
    case round =>
      obtain ⟨wo, rfl⟩ : ∃ wo : World, wo = wr := ⟨_, rfl⟩
      obtain ⟨k, hk1, rfl, rfl, hE⟩ := hrel
      have dd := hE.out.cell HD.out.2
      by_cases hkl : k < C.length
      · obtain ⟨bc, oc, rfl, _, p1, p2, hcC⟩ := seg_cells HC.out (by omega)
        have c1 := (HW2.out.trans hE.out).cell (hcC k _ (cS_at0 C k hkl))
        have hO : k + 1 < O.length := by have := HL.out; omega
        have c2 := (HW2.out.trans hE.out).cell (HCO.out (k + 1) _ (cI_at0 O (k + 1) hO))
        have ho := own0 HOK.out.own hO
        have hst := mapTo_succ HL.out hkl
        have IT2 := fun w' (q : Ext wo w') => IT.out (O[k + 1]) w' ((HW2.out.trans hE.out).trans q) (by omega) (by omega)
        have htk := itoa_len21 (n := O[k + 1]) (by omega) (by omega)
        have hck := key_size (cut_key HOK.out.cut C[k] (List.getElem_mem hkl))
        have hsk := mapTo_len HOK.out k hk1
        have hfew := HOK.out.few
        generalize O[k + 1] = ok at c2 hst IT2 htk
        generalize C[k] = ck at c1 hst hck
        have hst2 : bA (mapTo C O (k + 1)) = bA (mapTo C O k) ++ (⟨#[58]⟩ ++ ck ++ ⟨#[58]⟩ ++ bA (Lib.itoa ok)) := by
          refine bA_eq ?_
          rw [hst]
          simp [bA_toL, ByteArray.data_append]
        rw [← bA_size] at htk hsk
        generalize bA (mapTo C O k) = sk at hsk hst2
        generalize bA (Lib.itoa ok) = tk at htk hst2 IT2
        have HST := hid hst2
        have IT2 := hid IT2
        have z1 : ¬ 9223372036854775807 < 1 + ck.size := by omega
        have z2 : ¬ 9223372036854775807 < 1 + ck.size + 1 := by omega
        have z3 : ¬ 9223372036854775807 < 1 + ck.size + 1 + tk.size := by omega
        have z4 : ¬ 9223372036854775807 < sk.size + (1 + ck.size + 1 + tk.size) := by omega
        have hN1 : k + 1 < N := by rw [← HN.out]; exact hO
        clear hcC ho hst hO hst2
        go_wp2_with fail
        refine (IT2.out wo (Ext.refl _)).mono ?_
        clear IT2
        rintro e w7 ⟨rfl, E7⟩
        have HE7 := hid (hE.out.trans E7)
        clear E7 c1 c2 dd
        go_wp2_with fail
        go_roundw
        case rel => exact ⟨k + 1, by omega, rSt HST.out.symm, by go_num, HE7⟩
        case measure => simp [intOf] <;> omega
      · obtain rfl : k = C.length := by omega
        have q : mapTo C O C.length = mapT C O := mapTo_all HL.out
        rw [q, ← HS.out]
        clear q
        go_wp2
        go_ret2
        exact ⟨by rw [HE.out]; rfl, HW2.out.trans hE.out⟩
  · have hS : mapS C O = ⟨#[]⟩ := by unfold mapS; rw [if_neg he]
    rw [hS]
    have HE := hid he
    have q : (mapErr C O != 0) = true := by simp [he]
    clear he
    go_enter Tryz.func8, Tryz.ntmps8
    go_wp2_with fail
    refine (MC0.out).mono ?_
    rintro e w1 ⟨rfl, E1⟩
    go_wp2
    go_ret2
    exact ⟨rfl, E0.trans E1⟩
end Go.Proofs.YtnepdfpooobmcaaGreatDoor

/- Contracts and lemmas for the proofs of this seat; each theorem states its own conditions. -/
namespace Go.Proofs.YtnepdfpooobmcaaGreatDoor
/-! stores, in plain lists -/
abbrev Prs := List (ByteArray × Int)
/-- with a value of a key (0: without it) -/
def withP : Prs → ByteArray → Int → Prs
  | [], k, n => if n = 0 then [] else [(k, n)]
  | p :: l, k, n => if blt p.1 k then p :: withP l k n else if p.1 = k then (if n = 0 then l else (k, n) :: l) else (if n = 0 then p :: l else (k, n) :: p :: l)
/-! P4 -/
def valB (n : Int) : Bool := decide (-1000000000 ≤ n) && decide (n ≤ 1000000000)
/-- the first that is no nought -/
def firstE (f : Nat → Int) : Nat → Int
  | 0 => 0
  | n + 1 => if firstE f n = 0 then f n else firstE f n
theorem firstE_zero {f : Nat → Int} : ∀ {n : Nat}, (∀ j, j < n → f j = 0) → firstE f n = 0
  | 0, _ => rfl
  | n + 1, h => by rw [firstE, firstE_zero (fun j hj => h j (by omega)), if_pos rfl]; exact h n (by omega)
theorem firstE_at {f : Nat → Int} {k : Nat} (h : ∀ j, j < k → f j = 0) (hk : f k ≠ 0) : ∀ {n : Nat}, k < n → firstE f n = f k
  | 0, hn => absurd hn (by omega)
  | n + 1, hn => by
    rcases Nat.lt_succ_iff_lt_or_eq.1 hn with h' | h'
    · have := firstE_at h hk h'
      rw [firstE, this, if_neg hk]
    · subst h'; rw [firstE, firstE_zero h, if_pos rfl]
theorem firstE_all {f : Nat → Int} : ∀ {n : Nat}, firstE f n = 0 → ∀ j, j < n → f j = 0
  | 0, _, j, hj => absurd hj (by omega)
  | n + 1, h, j, hj => by
    rw [firstE] at h
    split at h
    · rename_i h0
      rcases Nat.lt_succ_iff_lt_or_eq.1 hj with k | k
      · exact firstE_all h0 j k
      · subst k; exact h
    · contradiction
end Go.Proofs.YtnepdfpooobmcaaGreatDoor

/- Contracts and lemmas for the proofs of this seat; each theorem states its own conditions. -/
namespace Go.Proofs.YtnepdfpooobmcaaGreatDoor
/-! deeds, in plain lists -/
/-- P10 -/
def twoB (o : GOp) : Bool := decide (o.kind = 3) || decide (o.kind = 5)
def opE (o : GOp) : Int :=
  if o.kind < 1 ∨ 5 < o.kind then 3
  else if keyB o.key = false ∨ (twoB o = true ∧ (keyB o.from_ = false ∨ o.from_ = o.key)) then 3
  else if (o.kind ≠ 3 ∧ valB o.n = false) ∨ (o.kind = 5 ∧ o.n < 0) then 1 else 0
structure OpOk (o : GOp) : Prop where
  lo : 1 ≤ o.kind
  hi : o.kind ≤ 5
  key : keyB o.key = true
  from_ : o.kind = 3 ∨ o.kind = 5 → keyB o.from_ = true ∧ o.from_ ≠ o.key
  val : o.kind ≠ 3 → -1000000000 ≤ o.n ∧ o.n ≤ 1000000000
  pos : o.kind = 5 → 0 ≤ o.n
theorem valB_iff {n : Int} : valB n = true ↔ -1000000000 ≤ n ∧ n ≤ 1000000000 := by simp [valB]
theorem op_ok {o : GOp} (h : opE o = 0) : OpOk o := by
  unfold opE at h
  split at h
  · cases h
  · rename_i h1
    split at h
    · cases h
    · rename_i h2
      split at h
      · cases h
      · rename_i h3
        rw [not_or] at h1 h2 h3
        refine ⟨by omega, by omega, by simpa using h2.1, fun hk => ?_, fun hk => ?_, fun hk => ?_⟩
        · have ht : twoB o = true := by simpa [twoB] using hk
          have := h2.2
          simp only [ht, true_and, not_or] at this
          exact ⟨by simpa using this.1, this.2⟩
        · rw [← valB_iff]
          cases hv : valB o.n with
          | true => rfl
          | false => exact absurd ⟨hk, hv⟩ h3.1
        · have := h3.2
          simp only [hk, true_and] at this
          omega
abbrev Ops := List GOp
def deedE (d : Ops) : Int := if d.length = 0 ∨ 8 < d.length then 2 else firstE (fun i => opE (d.getD i ⟨0, ⟨#[]⟩, ⟨#[]⟩, 0⟩)) d.length
structure DeedOk (d : Ops) : Prop where
  lo : 1 ≤ d.length
  hi : d.length ≤ 8
  ops : ∀ o ∈ d, OpOk o
theorem deed_ok {d : Ops} (h : deedE d = 0) : DeedOk d := by
  unfold deedE at h
  split at h
  · cases h
  · rename_i h1
    refine ⟨by omega, by omega, fun o ho => ?_⟩
    obtain ⟨i, hi, rfl⟩ := List.mem_iff_getElem.1 ho
    have := firstE_all h i hi
    simp [hi] at this
    exact op_ok this
/-! what is read and written -/
theorem kinds {o : GOp} (h : OpOk o) : o.kind = 1 ∨ o.kind = 2 ∨ o.kind = 3 ∨ o.kind = 4 ∨ o.kind = 5 := by
  have := h.lo; have := h.hi; omega
end Go.Proofs.YtnepdfpooobmcaaGreatDoor
