/- Contracts and lemmas for the proof of PlanSays; each theorem states its own conditions. -/
import Derived.Shelf.Sort.Plain
import Derived.Shelf.Slices.Turned
import Derived.Ground.Names2Prog
import Derived.Shelf.Slices.CompactI
import Derived.Shelf.Slices.In.SortNone
import Derived.Shelf.Slices.Empties2
import Derived.Test.YtomgeolmfpijoaaDoorProg
import Derived.Test.YtomgeolmfpijoaaDoorQPlanSaysaa
import Derived.Test.YtomgeolmfpijoaaDoorQPlanSaysbv
import Derived.Test.YtomgeolmfpijoaaDoorQPlanSaysbx
import Derived.BigQuiet
set_option linter.unusedVariables false
set_option linter.unusedSimpArgs false
/- Contracts and lemmas for the proofs of this seat; each theorem states its own conditions. -/
namespace Go.Proofs.YtomgeolmfpijoaaDoor
open Go.Shelf
def lays107_ren : Go.Shelf.Ren := ⟨fun | 107 => 57 | 108 => 112 | n => n, fun | 28 => 22 | 3 => 3 | 4 => 4 | 0 => 0 | n => n, fun | n => n⟩
theorem lays107 : Go.Proofs.Lays.n107 Tryd.prog lays107_ren := {
  mixed := by kernel_rfl
  f107 := Tryd.func57.trans (congrArg some (by kernel_rfl))
  f108 := Tryd.func112.trans (congrArg some (by kernel_rfl))
  t0 := Tryd.underlying0
  a0 := Tryd.isAgg0
  z0 := Tryd.sizeOf0
  v0 := Tryd.zeroValue0
  t3 := Tryd.underlying3
  a3 := Tryd.isAgg3
  z3 := Tryd.sizeOf3
  v3 := Tryd.zeroValue3
  t4 := Tryd.underlying4
  a4 := Tryd.isAgg4
  z4 := Tryd.sizeOf4
  v4 := Tryd.zeroValue4
  t28 := Tryd.underlying22
  a28 := Tryd.isAgg22
  z28 := Tryd.sizeOf22
  v28 := Tryd.zeroValue22 }
end Go.Proofs.YtomgeolmfpijoaaDoor

/- Contracts and lemmas for the proofs of this seat; each theorem states its own conditions. -/
namespace Go.Proofs.YtomgeolmfpijoaaDoor
open Go.RowKit Go.Maps
/-! PlanSays: whatever is handed in -/
theorem rounds_all (vd : Value) (D : List Ops) (w : World) (hvd : SegDs w vd D) (hd : ∀ d ∈ D, opsSm d) :
    Calls Tryd.prog 53 #[vd] w fun e w' => ∃ v' R, e = .returned (.tuple #[v', .int .i64 (deedsE D)]) ∧ w'.ownsRow w.heap.size 3 1 v' R.length (cI R) ∧ (deedsE D = 0 → R = iN (rndTo D D.length)) ∧ (deedsE D ≠ 0 → R = []) ∧ Ext w w' := by
  by_cases h : deedsE D = 0
  · obtain ⟨h60, hok⟩ := deeds_ok' h
    refine (rounds_ok vd D w hvd hok (fun d hd' o ho => (hd d hd' o ho).2) h60).mono ?_
    rintro e w' ⟨v', rfl, h1, E⟩
    exact ⟨v', _, by rw [h], by rw [iN_len, rndTo_len]; exact h1, fun _ => rfl, fun q => absurd h q, E⟩
  · refine (rounds_bad vd D w hvd hd h).mono ?_
    rintro e w' ⟨rfl, E⟩
    exact ⟨_, [], rfl, World.ownsRow_nil _ _ _ _, fun q => absurd q h, fun _ => rfl, E⟩
theorem ord_lit : ordBB [] [] = true ∧ ordEE [] [] = 0 := by decide +kernel
theorem conI_take (b off i cap : Nat) (L : List Int) (x : Int) (w : World) (hc : ∀ j u, (cI L)[j]? = some u → w.cell? ⟨b, off + j, none⟩ = some u) (hi : i ≤ L.length) (h2 : L.length ≤ 2000000) :
    Calls Tryd.prog 57 #[.slice (some ⟨b, off, none⟩) i cap, .int .i64 x] w fun e w' => e = .returned (.bool (decide (x ∈ L.take i))) ∧ w' = w := by
  have := Any.slices_Contains_int lays107 b off i cap L x w hi (by omega) (fun j hj => by
    have := hc j _ (cI_at0 L j (by omega))
    rw [this]; simp [show j < L.length by omega])
  rw [List.contains_eq_mem] at this
  exact this
set_option maxRecDepth 100000 in
set_option maxHeartbeats 4000000 in
theorem psays_walk (vd vo : Value) (D : List Ops) (L : List Int) (w : World) (hvd : SegDs w vd D) (hd : ∀ d ∈ D, opsSm d) (hvo : Seg w vo 1 L.length (cI L)) (hLl : L.length ≤ 2000000) :
    Calls Tryd.prog 7 #[vd, vo] w fun e w' => e = .returned (.bool true) ∧ Ext w w' := by
  obtain ⟨aD, cD, rfl, hc1, hc2, _⟩ := hvd.form
  obtain ⟨ao, co, rfl⟩ := seg_form hvo
  have RN := hid (rounds_all _ D w hvd hd)
  have HDD := hid hvd
  have HVO := hid hvo
  have HD := hid hd
  unfold maxLen at hc2
  clear hvd hvo hd
  go_enter Tryd.func7, Tryd.ntmps7
  go_wp2_with fail
  refine (RN.out).mono ?_
  clear RN
  rintro e w1 ⟨v1, R, rfl, o1, hR0, hR1, E1⟩
  obtain ⟨a1, k1, rfl⟩ := own_form o1
  have S1 := hid (own_seg o1)
  have HR0 := hid hR0
  have HR1 := hid hR1
  have ON := hid (order_all _ _ D L w1 (HDD.out.ext E1) HD.out (HVO.out.ext E1))
  clear o1 hR0 hR1
  go_wp2_with fail
  refine (ON.out).mono ?_
  clear ON
  rintro e w2 ⟨rfl, E2⟩
  have S2 := hid (S1.out.ext E2)
  have OZ := order_all (.slice none 0 0) (.slice none 0 0) [] [] w2 (SegDs.nil _ _ _ (by simp [maxLen])) (by simp) (Seg.nil _ _)
  rw [ord_lit.1, ord_lit.2] at OZ
  have OZ := hid OZ
  replace E2 := E1.trans E2
  clear E1 S1
  go_wp2_with fail
  refine (OZ.out).mono ?_
  clear OZ
  rintro e w3 ⟨rfl, E3⟩
  have S3 := hid (S2.out.ext E3)
  replace E3 := E2.trans E3
  have RD := hid (rdeeds_any _ D w3 (HDD.out.ext E3) HD.out)
  clear E2 S2
  go_wp2_with fail
  refine (RD.out).mono ?_
  clear RD
  rintro e w4 ⟨rfl, E4⟩
  have S4 := hid (S3.out.ext E4)
  replace E4 := E3.trans E4
  clear E3 S3
  by_cases h : deedsE D = 0
  · have hR := HR0.out h
    subst hR
    obtain ⟨h60, hok⟩ := deeds_ok' h
    have e1 : ordEE D L = ordE D.length L := by unfold ordEE; rw [if_neg (by simp [h])]
    have HOB0 := hid (show ordE D.length L = 0 → ordBB D L = ordB D (atL D.length (natL L) D.length) D.length from fun q => by unfold ordBB; rw [if_pos (e1.trans q)])
    have HOBn := hid (show ordE D.length L ≠ 0 → ordBB D L = false from fun q => by unfold ordBB; rw [if_neg (by rw [e1]; exact q)])
    rw [e1, h]
    obtain ⟨OB, hOB⟩ : ∃ OB, ordBB D L = OB := ⟨_, rfl⟩
    rw [hOB] at HOB0 HOBn ⊢
    have RR := hid (rrounds_any _ D w4 (HDD.out.ext E4) hok h60)
    have HOK := hid hok
    clear h e1 hOB hok HR0 HR1
    go_wp2_with fail
    refine (RR.out).mono ?_
    clear RR
    rintro e w5 ⟨v5, rfl, o5, E5⟩
    obtain ⟨a5, k5, rfl⟩ := own_form o5
    have EQ := hid (by have q := equal_Int _ _ (iN (rndTo D D.length)) (iN (rndTo D D.length)) w5 (S4.out.ext E5) (by have q := own_seg o5; rw [iN_len, rndTo_len]; exact q); rw [decide_eq_true rfl, iN_len, rndTo_len] at q; exact q)
    have E4w := hid E4
    clear S4 o5 E4
    rw [show (iN (rndTo D D.length)).length = D.length by rw [iN_len, rndTo_len]]
    go_wp2_with fail
    refine (EQ.out).mono ?_
    clear EQ
    rintro e w6 ⟨rfl, n6, rfl⟩
    have E6 := E5.drewN n6
    obtain ⟨wA, hwA⟩ : ∃ wA, w5.drewN n6 = wA := ⟨_, rfl⟩
    rw [hwA] at E6 ⊢
    clear E5
    by_cases hl : L.length = D.length
    · obtain ⟨OE, hOE⟩ : ∃ OE, ordE D.length L = OE := ⟨_, rfl⟩
      have HOE := hid (show OE = firstE (ordE1 D.length L) D.length by rw [← hOE]; unfold ordE; rw [if_neg (by omega)])
      rw [hOE] at HOB0 HOBn ⊢
      have ql : ((L.length : Int) != (D.length : Int)) = false := by simp; omega
      have HL := hid hl
      clear hOE hwA hl
      go_wp2_with fail
      clear ql
      go_loopw [12, 13, 78] (fun _ _ iv wr => ∃ i : Nat, i ≤ L.length ∧ iv = .int .i64 i ∧ zeroTo (ordE1 D.length L) i ∧ Ext wA wr) (fun _ _ iv _ => L.length - (intOf iv).toNat)
      case atStart => exact ⟨0, Nat.zero_le _, rfl, fun j h => absurd h (by omega), Ext.refl _⟩
      case round =>
        obtain ⟨wo, rfl⟩ : ∃ wo : World, wo = wr := ⟨_, rfl⟩
        obtain ⟨i, hi, rfl, hall, Eo⟩ := hrel
        by_cases hil : i < L.length
        · have hiD : i < D.length := by have := HL.out; omega
          obtain ⟨bo, oo, rfl, _, m1, m2, hco⟩ := seg_cells HVO.out (by omega)
          unfold maxLen at m2
          have co1 := Eo.cell (E6.cell (E4w.out.cell (hco i _ (cI_at0 L i hil))))
          have CT := hid (conI_take bo oo i co L L[i] wo (fun j u hu => Eo.cell (E6.cell (E4w.out.cell (hco j u hu)))) (by omega) hLl)
          have FE := hid (fun (h : ordE1 D.length L i ≠ 0) => firstE_at hall h hiD)
          have ZS := hid (fun (h : ordE1 D.length L i = 0) => zeroTo_succ hall h)
          have HDEF := hid (show ordE1 D.length L i = if L[i] < 0 ∨ (D.length : Int) ≤ L[i] then 1 else if decide (L[i] ∈ L.take i) = true then 5 else 0 by unfold ordE1; rw [show L.getD i 0 = L[i] by simp [hil]])
          clear hco hall
          generalize L[i] = z at co1 CT HDEF
          by_cases hr : z < 0 ∨ (D.length : Int) ≤ z
          · have he1 : ordE1 D.length L i = 1 := by rw [HDEF.out, if_pos hr]
            have hOE1 : OE = 1 := by rw [HOE.out, FE.out (by rw [he1]; decide), he1]
            have hOB : OB = false := HOBn.out (by rw [hOE1]; decide)
            subst hOE1; subst hOB
            clear FE ZS HDEF CT HOB0 HOBn he1
            by_cases hz : z < 0
            · clear hr
              go_wp2
              go_ret
              exact ⟨rfl, (E4w.out.trans E6).trans Eo⟩
            · have qb : z ≥ (D.length : Int) := by omega
              clear hr
              go_wp2
              go_ret
              exact ⟨rfl, (E4w.out.trans E6).trans Eo⟩
          · have qa : ¬ (z < 0) := by omega
            have qb : ¬ (z ≥ (D.length : Int)) := by omega
            have qc : z < (D.length : Int) := by omega
            have HD2 := hid (show ordE1 D.length L i = if decide (z ∈ L.take i) = true then 5 else 0 by rw [HDEF.out, if_neg hr])
            clear hr HDEF
            generalize decide (z ∈ L.take i) = mz at CT HD2
            cases mz with
            | true =>
              have he1 : ordE1 D.length L i = 5 := by rw [HD2.out, if_pos rfl]
              have hOE1 : OE = 5 := by rw [HOE.out, FE.out (by rw [he1]; decide), he1]
              have hOB : OB = false := HOBn.out (by rw [hOE1]; decide)
              subst hOE1; subst hOB
              clear FE ZS HD2 HOB0 HOBn he1
              go_wp2_with fail
              refine (CT.out).mono ?_
              rintro e w9 ⟨rfl, rfl⟩
              go_wp2
              go_ret
              exact ⟨rfl, (E4w.out.trans E6).trans Eo⟩
            | false =>
              have HZ := hid (ZS.out (by rw [HD2.out]; rfl))
              clear FE ZS HD2
              go_wp2_with fail
              refine (CT.out).mono ?_
              rintro e w9 ⟨rfl, rfl⟩
              go_wp2
              go_roundw
              case rel => exact ⟨i + 1, by omega, by go_num, HZ.out, Eo⟩
              case measure => simp [intOf] <;> omega
        · obtain rfl : i = L.length := by omega
          have hz : zeroTo (ordE1 D.length L) D.length := fun j hj => hall j (by have := HL.out; omega)
          have hOE0 : OE = 0 := by rw [HOE.out]; exact firstE_zero hz
          subst hOE0
          obtain ⟨n1, n2, n3⟩ := natL_ok HL.out hz
          have hOB := HOB0.out rfl
          have EW := (E4w.out.trans E6).trans Eo
          have hmm : ∀ i, i ∈ natL L ↔ i < D.length := fun i => ⟨n3 i, nd_full _ _ n2 (by rw [natL_len]; exact HL.out) n3 i⟩
          have hadm := adm_ord n2 hmm
          rw [natL_len, HL.out] at hadm
          have RO := hid (rordered_any _ _ D (natL L) wo (HDD.out.ext EW) HOK.out h60 (by rw [natL_len, n1]; exact HVO.out.ext EW) n3 (by rw [natL_len, HL.out]; exact h60))
          have HB := hid (fun (b : Bool) (hb : b = true ↔ AdmO D (natL L)) => (by
            rw [hOB]; exact Bool.eq_iff_iff.2 (hb.trans hadm.symm) : b = OB))
          clear hall hz n1 n2 n3 hOB hmm hadm HOB0 HOBn
          go_wp2_with fail
          refine (RO.out).mono ?_
          clear RO
          rintro e w9 ⟨b, rfl, hb, E9⟩
          have hb2 := HB.out b hb
          subst hb2
          clear HB hb
          go_wp2
          go_ret
          exact ⟨rfl, EW.trans E9⟩
    · have hOE : ordE D.length L = 3 := by unfold ordE; rw [if_pos hl]
      have hOB : OB = false := HOBn.out (by rw [hOE]; decide)
      subst hOB
      rw [hOE]
      have ql : ((L.length : Int) != (D.length : Int)) = true := by simp; omega
      clear HOB0 HOBn hOE hwA hl
      go_wp2
      go_ret
      exact ⟨rfl, E4w.out.trans E6⟩
  · have hR := HR1.out h
    subst hR
    have e1 : ordEE D L = deedsE D := by unfold ordEE; rw [if_pos h]
    have e2 : ordBB D L = false := by unfold ordBB; rw [if_neg (by rw [e1]; exact h)]
    rw [e1, e2]
    have q : (deedsE D != 0) = true := by simp [h]
    clear HR0 HR1 e1 e2 h
    generalize deedsE D = de at q ⊢
    go_wp2
    go_ret
    exact ⟨rfl, E4⟩
end Go.Proofs.YtomgeolmfpijoaaDoor
