/- Contracts and lemmas for the proof of PlanSays; each theorem states its own conditions. -/
import Derived.Test.YtomgeolmfpijoaaDoorQPlanSaysbo
import Derived.Test.YtomgeolmfpijoaaDoorQPlanSaysbu
import Derived.Test.YtomgeolmfpijoaaDoorQPlanSaysbm
set_option linter.unusedVariables false
set_option linter.unusedSimpArgs false
/- Contracts and lemmas for the proofs of this seat; each theorem states its own conditions. -/
namespace Go.Proofs.YtomgeolmfpijoaaDoor
open Go.RowKit
/-! plan.Order at whatever is handed in -/
def ordE1 (n : Nat) (L : List Int) (i : Nat) : Int := if L.getD i 0 < 0 ∨ (n : Int) ≤ L.getD i 0 then 1 else if decide (L.getD i 0 ∈ L.take i) = true then 5 else 0
def ordE (n : Nat) (L : List Int) : Int := if L.length ≠ n then 3 else firstE (ordE1 n L) n
def natL (L : List Int) : List Nat := L.map Int.toNat
theorem natL_len (L : List Int) : (natL L).length = L.length := by simp [natL]
theorem natL_at (L : List Int) {j : Nat} (h : j < L.length) : (natL L)[j]'(by rw [natL_len]; exact h) = L[j].toNat := by simp [natL]
theorem ordE1_zero {n : Nat} {L : List Int} {j : Nat} (hj : j < L.length) (h : ordE1 n L j = 0) : 0 ≤ L[j] ∧ L[j] < (n : Int) ∧ L[j] ∉ L.take j := by
  unfold ordE1 at h
  rw [show L.getD j 0 = L[j] by simp [hj]] at h
  by_cases h1 : L[j] < 0 ∨ (n : Int) ≤ L[j]
  · rw [if_pos h1] at h; cases h
  · rw [if_neg h1] at h
    refine ⟨by omega, by omega, fun h2 => ?_⟩
    rw [if_pos (by simpa using h2)] at h; cases h
theorem natL_take {n : Nat} {L : List Int} {j : Nat} (hz : zeroTo (ordE1 n L) j) (hj : j ≤ L.length) {z : Int} (h0 : 0 ≤ z) : z.toNat ∈ (natL L).take j ↔ z ∈ L.take j := by
  constructor
  · intro h
    obtain ⟨i, hi, e⟩ := List.mem_iff_getElem.1 h
    rw [List.length_take, natL_len] at hi
    rw [List.getElem_take, natL_at L (by omega)] at e
    have := (ordE1_zero (n := n) (show i < L.length by omega) (hz i (by omega))).1
    have e2 : L[i] = z := by omega
    exact List.mem_iff_getElem.2 ⟨i, by rw [List.length_take]; omega, by rw [List.getElem_take]; exact e2⟩
  · intro h
    obtain ⟨i, hi, e⟩ := List.mem_iff_getElem.1 h
    rw [List.length_take] at hi
    rw [List.getElem_take] at e
    exact List.mem_iff_getElem.2 ⟨i, by rw [List.length_take, natL_len]; omega, by rw [List.getElem_take, natL_at L (by omega), e]⟩
theorem natL_ok {n : Nat} {L : List Int} (hl : L.length = n) (hz : zeroTo (ordE1 n L) n) : cN (natL L) = cI L ∧ (natL L).Nodup ∧ ∀ i ∈ natL L, i < n := by
  have at' : ∀ j (h : j < L.length), 0 ≤ L[j] ∧ L[j] < (n : Int) ∧ L[j] ∉ L.take j := fun j h => ordE1_zero h (hz j (by omega))
  refine ⟨?_, ?_, ?_⟩
  · apply List.ext_getElem
    · simp [cN, cI, natL]
    · intro j h1 h2
      have hj : j < L.length := by simpa [cI] using h2
      have := (at' j hj).1
      simp [cN, cI, natL]
      omega
  · refine List.pairwise_iff_getElem.2 fun i j hi hj hij e => ?_
    rw [natL_len] at hi hj
    rw [natL_at L hi, natL_at L hj] at e
    have a := at' i hi
    have b := at' j hj
    have e2 : L[i] = L[j] := by omega
    exact b.2.2 (List.mem_iff_getElem.2 ⟨i, by rw [List.length_take]; omega, by rw [List.getElem_take]; exact e2⟩)
  · intro i hi
    obtain ⟨j, hj, rfl⟩ := List.mem_iff_getElem.1 hi
    rw [natL_len] at hj
    rw [natL_at L hj]
    have := at' j hj
    omega
theorem atL_val (n : Nat) (ord : List Nat) : ∀ j, j ≤ ord.length → ∀ k, k < n → (k ∉ ord.take j → (atL n ord j).getD k 0 = -1) ∧ (k ∈ ord.take j → 0 ≤ (atL n ord j).getD k 0)
  | 0, _, k, hk => ⟨fun _ => by simp [atL, hk], fun h => by simp at h⟩
  | j + 1, hj, k, hk => by
    obtain ⟨h1, h2⟩ := atL_val n ord j (by omega) k hk
    have hjl : j < ord.length := by omega
    have e : ord.getD j 0 = ord[j] := by simp [hjl]
    rw [atL, e, List.take_succ_eq_append_getElem hjl]
    by_cases q : ord[j] = k
    · refine ⟨fun hno => absurd (List.mem_append_right _ (by simp [q])) hno, fun _ => ?_⟩
      rw [q, List.getD_eq_getElem?_getD, List.getElem?_set_self (by rw [atL_len]; exact hk)]
      simp
    · have hg : ((atL n ord j).set ord[j] (j : Int)).getD k 0 = (atL n ord j).getD k 0 := by
        rw [List.getD_eq_getElem?_getD, List.getElem?_set_ne q, ← List.getD_eq_getElem?_getD]
      rw [hg]
      refine ⟨fun hno => h1 fun hm => hno (List.mem_append_left _ hm), fun hm => ?_⟩
      rcases List.mem_append.1 hm with hm | hm
      · exact h2 hm
      · simp at hm; exact absurd hm.symm q
set_option maxRecDepth 100000 in
theorem order_len (vd vo : Value) (D : List Ops) (L : List Int) (w : World) (hvd : SegDs w vd D) (dok : ∀ d ∈ D, DeedOk d) (dsm : ∀ d ∈ D, ∀ o ∈ d, o.from_.size ≤ 9223372036854775807) (hdl : D.length ≤ 60)
    (hvo : Seg w vo 1 L.length (cI L)) (hlo : L.length ≠ D.length) :
    Calls Tryd.prog 54 #[vd, vo] w fun e w' => e = .returned (.tuple #[.bool false, .int .i64 3]) ∧ Ext w w' := by
  have LD := hid (laid_ok vd D w hvd dok dsm hdl)
  obtain ⟨aD, cD, rfl, _⟩ := hvd.form
  obtain ⟨ao, co, rfl⟩ := seg_form hvo
  have qn : ((L.length : Int) != (D.length : Int)) = true := by simp; omega
  clear hvd hvo
  go_enter Tryd.func54, Tryd.ntmps54
  go_wp2_with fail
  refine (LD.out).mono ?_
  rintro e w1 ⟨bt, bk, bd, F, G, rfl, _, E1⟩
  clear LD
  go_wp2
  go_ret2
  exact ⟨rfl, E1⟩
set_option maxRecDepth 100000 in
set_option maxHeartbeats 2000000 in
theorem order_scan (vd vo : Value) (D : List Ops) (L : List Int) (w : World) (hvd : SegDs w vd D) (dok : ∀ d ∈ D, DeedOk d) (dsm : ∀ d ∈ D, ∀ o ∈ d, o.from_.size ≤ 9223372036854775807) (hdl : D.length ≤ 60)
    (hvo : Seg w vo 1 L.length (cI L)) (hlo : L.length = D.length) (hne : ordE D.length L ≠ 0) :
    Calls Tryd.prog 54 #[vd, vo] w fun e w' => e = .returned (.tuple #[.bool false, .int .i64 (ordE D.length L)]) ∧ Ext w w' := by
  have HOE := hid (show ordE D.length L = firstE (ordE1 D.length L) D.length by unfold ordE; rw [if_neg (by omega)])
  have HNE := hid hne
  have LD := hid (laid_ok vd D w hvd dok dsm hdl)
  obtain ⟨aD, cD, rfl, _⟩ := hvd.form
  clear hvd hne
  obtain ⟨_, ao, co, rfl, ho1, ho2, ho3⟩ := hvo
  unfold maxLen at ho2
  have HO := hid ho3
  have HLO := hid hlo
  have qn : ((L.length : Int) != (D.length : Int)) = false := by simp; omega
  rw [hlo] at qn ⊢
  clear ho3 hlo
  go_enter Tryd.func54, Tryd.ntmps54
  go_wp2_with fail
  refine (LD.out).mono ?_
  rintro e w1 ⟨bt, bk, bd, F, G, rfl, _, E1⟩
  clear LD
  go_wp2_with (first | (at_make; refine wpList_make_int _ rfl _ _ rfl D.length rfl rfl (by omega) ?_; intro v' w2 ho hf hE; obtain ⟨cA, rfl⟩ := hf))
  obtain ⟨gA, hgA⟩ : ∃ gA, w1.heap.size = gA := ⟨_, rfl⟩
  rw [hgA] at ho
  simp only [hgA]
  have hgl : w.heap.size ≤ gA := by have := E1.size'; omega
  replace E1 := E1.trans hE
  clear hgA hE
  go_loopw [9, 34] (fun _ iv wr => ∃ i : Nat, i ≤ D.length ∧ iv = .int .i64 i ∧ wr.ownsRow gA 3 1 (.slice (some ⟨gA, 0, none⟩) D.length cA) D.length (cI (mL D.length i)) ∧ Ext w wr) (fun _ iv _ => D.length - (intOf iv).toNat)
  case atStart => exact ⟨0, Nat.zero_le _, rfl, by rw [mL_zero]; exact ho, E1⟩
  case round =>
    clear ho E1
    obtain ⟨i, hi, rfl, ho, E1⟩ := hrel
    by_cases hlt : i < D.length
    · have hil : i < (mL D.length i).length := by rw [mL_len hi]; exact hlt
      obtain ⟨c1, f1⟩ := own_int ho hil
      have hs := own_int_set ho hil (-1)
      rw [mL_set hlt] at hs
      go_wp2
      go_roundw
      case rel => exact ⟨i + 1, by omega, by go_num, hs, E1.setCell hgl _⟩
      case measure => simp [intOf] <;> omega
    · obtain rfl : i = D.length := by omega
      rw [mL_all] at ho
      go_wp2_with fail
      go_loopw [10, 11, 43] (fun _ _ iv wr => ∃ j : Nat, j ≤ D.length ∧ iv = .int .i64 j ∧ zeroTo (ordE1 D.length L) j ∧ wr.ownsRow gA 3 1 (.slice (some ⟨gA, 0, none⟩) D.length cA) D.length (cI (atL D.length (natL L) j)) ∧ Ext w wr) (fun _ _ iv _ => D.length - (intOf iv).toNat)
      case atStart => exact ⟨0, Nat.zero_le _, rfl, fun j h => absurd h (by omega), ho, E1⟩
      case round =>
        clear ho E1
        obtain ⟨j, hj, rfl, hall, ho, E1⟩ := hrel
        by_cases hlt : j < D.length
        · have hjL : j < L.length := by rw [HLO.out]; exact hlt
          obtain ⟨bo, oo, rfl, hco⟩ := HO.out (by omega)
          have co1 := E1.cell (hco j _ (cI_at0 L j hjL))
          have FE := hid (fun (h : ordE1 D.length L j ≠ 0) => firstE_at hall h hlt)
          have ZS := hid (fun (h : ordE1 D.length L j = 0) => zeroTo_succ hall h)
          have NT := hid (fun (h : 0 ≤ L[j]) => natL_take hall (Nat.le_of_lt hjL) h)
          have hdef : ordE1 D.length L j = if L[j] < 0 ∨ (D.length : Int) ≤ L[j] then 1 else if decide (L[j] ∈ L.take j) = true then 5 else 0 := by unfold ordE1; rw [show L.getD j 0 = L[j] by simp [hjL]]
          have HDEF := hid hdef
          clear hco hall hdef
          by_cases hr : 0 ≤ L[j] ∧ L[j] < (D.length : Int)
          · obtain ⟨k, hk⟩ : ∃ k : Nat, L[j] = (k : Int) := ⟨L[j].toNat, by omega⟩
            have hkn : k < D.length := by omega
            have hkl : k < (atL D.length (natL L) j).length := by rw [atL_len]; exact hkn
            obtain ⟨c1, f1⟩ := own_int ho hkl
            have hs := own_int_set ho hkl (j : Int)
            have hst : (atL D.length (natL L) j).set k (j : Int) = atL D.length (natL L) (j + 1) := by
              rw [atL, show (natL L).getD j 0 = k by rw [List.getD_eq_getElem?_getD, List.getElem?_eq_getElem (by rw [natL_len]; exact hjL), natL_at L hjL, hk]; simp]
            rw [hst] at hs
            have HS := hid hs
            have hv := atL_val D.length (natL L) j (by rw [natL_len]; omega) k hkn
            have hN := NT.out hr.1
            rw [hk] at co1 hN
            have hkt : ((k : Int)).toNat = k := by simp
            rw [hkt] at hN
            have HDEF2 := HDEF.out
            rw [hk, if_neg (by omega)] at HDEF2
            have HDEF2 := hid HDEF2
            have qa : ¬ ((k : Int) < 0) := by omega
            have qb : ¬ ((k : Int) ≥ (D.length : Int)) := by omega
            clear hs hst hk hr HDEF NT hkt hkl
            generalize (atL D.length (natL L) j).getD k 0 = c at c1 hv
            by_cases hm : (k : Int) ∈ L.take j
            · have hc := hv.2 (hN.2 hm)
              have hEq := hid (FE.out (by rw [HDEF2.out, if_pos (by simpa using hm)]; decide))
              have hEv := hid (show ordE1 D.length L j = 5 by rw [HDEF2.out, if_pos (by simpa using hm)])
              have qc : c ≥ 0 := hc
              clear hv hN hm FE ZS HS
              go_wp2
              go_ret2
              exact ⟨rT2 rfl (vI (by rw [HOE.out, hEq.out, hEv.out])), E1⟩
            · have hc := hv.1 (fun q => hm (hN.1 q))
              have hZ := hid (ZS.out (by rw [HDEF2.out, if_neg (by simpa using hm)]))
              have qc : ¬ (c ≥ 0) := by omega
              clear hv hN hm hc FE ZS
              go_wp2
              go_roundw
              case rel => exact ⟨j + 1, by omega, by go_num, hZ.out, HS.out, E1.setCell hgl _⟩
              case measure => simp [intOf] <;> omega
          · have hEq := hid (FE.out (by rw [HDEF.out, if_pos (by omega)]; decide))
            have hEv := hid (show ordE1 D.length L j = 1 by rw [HDEF.out, if_pos (by omega)])
            clear FE ZS NT HDEF
            generalize L[j] = z at co1 hr
            by_cases hz : z < 0
            · clear hr
              go_wp2
              go_ret2
              exact ⟨rT2 rfl (vI (by rw [HOE.out, hEq.out, hEv.out])), E1⟩
            · have qb : z ≥ (D.length : Int) := by omega
              clear hr
              go_wp2
              go_ret2
              exact ⟨rT2 rfl (vI (by rw [HOE.out, hEq.out, hEv.out])), E1⟩
        · obtain rfl : j = D.length := by omega
          exact absurd (HOE.out.trans (firstE_zero hall)) HNE.out
/-! all of it -/
def ordEE (D : List Ops) (L : List Int) : Int := if deedsE D ≠ 0 then deedsE D else ordE D.length L
def ordBB (D : List Ops) (L : List Int) : Bool := if ordEE D L = 0 then ordB D (atL D.length (natL L) D.length) D.length else false
theorem order_all (vd vo : Value) (D : List Ops) (L : List Int) (w : World) (hvd : SegDs w vd D) (hd : ∀ d ∈ D, opsSm d) (hvo : Seg w vo 1 L.length (cI L)) :
    Calls Tryd.prog 54 #[vd, vo] w fun e w' => e = .returned (.tuple #[.bool (ordBB D L), .int .i64 (ordEE D L)]) ∧ Ext w w' := by
  by_cases h : deedsE D = 0
  · obtain ⟨h60, hok⟩ := deeds_ok' h
    have dsm : ∀ d ∈ D, ∀ o ∈ d, o.from_.size ≤ 9223372036854775807 := fun d hd' o ho => (hd d hd' o ho).2
    have e1 : ordEE D L = ordE D.length L := by unfold ordEE; rw [if_neg (by simp [h])]
    by_cases hl : L.length = D.length
    · by_cases h2 : ordE D.length L = 0
      · have hz : zeroTo (ordE1 D.length L) D.length := by
          unfold ordE at h2
          rw [if_neg (by omega)] at h2
          exact fun i hi => firstE_all h2 i hi
        obtain ⟨n1, n2, n3⟩ := natL_ok hl hz
        refine (order_ok vd vo D (natL L) w hvd hok dsm h60 (by rw [natL_len, n1]; exact hvo) (by rw [natL_len, hl]) n2 n3).mono ?_
        rintro e w' ⟨rfl, E⟩
        exact ⟨rT2 (vB (by unfold ordBB; rw [if_pos (e1.trans h2)])) (vI (e1.trans h2).symm), E⟩
      · refine (order_scan vd vo D L w hvd hok dsm h60 hvo hl h2).mono ?_
        rintro e w' ⟨rfl, E⟩
        exact ⟨rT2 (vB (by unfold ordBB; rw [if_neg (by rw [e1]; exact h2)])) (vI e1.symm), E⟩
    · have h3 : ordE D.length L = 3 := by unfold ordE; rw [if_pos hl]
      refine (order_len vd vo D L w hvd hok dsm h60 hvo hl).mono ?_
      rintro e w' ⟨rfl, E⟩
      exact ⟨rT2 (vB (by unfold ordBB; rw [if_neg (by rw [e1, h3]; decide)])) (vI (by rw [e1, h3])), E⟩
  · have e1 : ordEE D L = deedsE D := by unfold ordEE; rw [if_pos h]
    refine (order_bad vd vo D w hvd hd h).mono ?_
    rintro e w' ⟨rfl, E⟩
    exact ⟨rT2 (vB (by unfold ordBB; rw [if_neg (by rw [e1]; exact h)])) (vI e1.symm), E⟩
end Go.Proofs.YtomgeolmfpijoaaDoor

/- Contracts and lemmas for the proofs of this seat; each theorem states its own conditions. -/
namespace Go.Proofs.YtomgeolmfpijoaaDoor
/-! the document's rounds and orders, in plain lists -/
/-- the round of i, once the last m of those ahead have been looked at -/
def rdn (A : List Ops) (R : List Nat) (i : Nat) : Nat → Nat
  | 0 => 0
  | m + 1 => if clashB (A.getD (i - 1 - m) []) (A.getD i []) = true then max (rdn A R i m) (R.getD (i - 1 - m) 0 + 1) else rdn A R i m
theorem rdn_spec (A : List Ops) (R : List Nat) (i : Nat) : ∀ m, m ≤ i → (rdn A R i m = 0 ∨ ∃ j < i, clashB (A.getD j []) (A.getD i []) = true ∧ rdn A R i m = R.getD j 0 + 1) ∧ ∀ j < i, i - m ≤ j → clashB (A.getD j []) (A.getD i []) = true → R.getD j 0 + 1 ≤ rdn A R i m
  | 0, _ => ⟨.inl rfl, fun j h1 h2 => by omega⟩
  | m + 1, hm => by
    obtain ⟨h1, h2⟩ := rdn_spec A R i m (by omega)
    simp only [rdn]
    split
    · rename_i hc
      constructor
      · rcases Nat.le_total (rdn A R i m) (R.getD (i - 1 - m) 0 + 1) with h | h
        · rw [Nat.max_eq_right h]
          exact .inr ⟨i - 1 - m, by omega, hc, rfl⟩
        · rw [Nat.max_eq_left h]; exact h1
      · intro j hj hlo hcj
        by_cases e : j = i - 1 - m
        · subst e; exact Nat.le_max_right _ _
        · exact Nat.le_trans (h2 j hj (by omega) hcj) (Nat.le_max_left _ _)
    · rename_i hc
      refine ⟨h1, fun j hj hlo hcj => ?_⟩
      by_cases e : j = i - 1 - m
      · subst e; exact absurd hcj hc
      · exact h2 j hj (by omega) hcj
theorem rdn_eq (A : List Ops) (R : List Nat) (i : Nat) : rdn A R i i = rnd1 A R i i := by
  obtain ⟨a1, a2⟩ := rdn_spec A R i i (Nat.le_refl _)
  obtain ⟨b1, b2⟩ := rnd1_spec A R i i
  apply Nat.le_antisymm
  · rcases a1 with h | ⟨j, hj, hc, h⟩
    · omega
    · rw [h]; exact b2 j hj hc
  · rcases b1 with h | ⟨j, hj, hc, h⟩
    · omega
    · rw [h]; exact a2 j hj (by omega) hc
/-- up to j, none goes ahead of one that it clashes with -/
def OrdTo (A : List Ops) (ord : List Nat) (j : Nat) : Prop := ∀ x (h : x < ord.length), x < j → ∀ i < ord[x], i ∉ ord.take x → clashB (A.getD i []) (A.getD ord[x] []) = false
theorem ordTo_adm {A : List Ops} {ord : List Nat} : OrdTo A ord ord.length ↔ AdmO A ord := by
  constructor
  · intro h p s q e t ht hp
    subst e
    have hl : p.length < (p ++ s :: q).length := by simp
    have := h p.length hl hl t (by simpa using ht) (by simpa using hp)
    simpa using this
  · intro h x hx _ i hi hni
    refine h (ord.take x) ord[x] (ord.drop (x + 1)) ?_ i hi hni
    rw [← List.drop_eq_getElem_cons hx, List.take_append_drop]
theorem nd_le : ∀ (n : Nat) (l : List Nat), l.Nodup → (∀ i ∈ l, i < n) → l.length ≤ n
  | 0, l, _, h => by
    cases l with
    | nil => simp
    | cons a l => have := h a (by simp); omega
  | n + 1, l, hn, h => by
    by_cases hm : n ∈ l
    · have := nd_le n (l.erase n) (hn.erase n) (fun i hi => by
        have := (hn.mem_erase_iff).1 hi
        have := h i this.2
        omega)
      rw [List.length_erase_of_mem hm] at this
      omega
    · have := nd_le n l hn (fun i hi => by
        have h1 := h i hi
        have : i ≠ n := fun e => hm (e ▸ hi)
        omega)
      omega
theorem nd_full : ∀ (n : Nat) (l : List Nat), l.Nodup → l.length = n → (∀ i ∈ l, i < n) → ∀ i < n, i ∈ l
  | 0, _, _, _, _, i, hi => by omega
  | n + 1, l, hn, hl, h, i, hi => by
    by_cases hm : n ∈ l
    · by_cases e : i = n
      · exact e ▸ hm
      · have := nd_full n (l.erase n) (hn.erase n) (by rw [List.length_erase_of_mem hm]; omega) (fun i hi => by
          have := (hn.mem_erase_iff).1 hi
          have := h i this.2
          omega) i (by omega)
        exact (hn.mem_erase_iff.1 this).2
    · have := nd_le n l hn (fun i hi => by
        have h1 := h i hi
        have : i ≠ n := fun e => hm (e ▸ hi)
        omega)
      omega
end Go.Proofs.YtomgeolmfpijoaaDoor
