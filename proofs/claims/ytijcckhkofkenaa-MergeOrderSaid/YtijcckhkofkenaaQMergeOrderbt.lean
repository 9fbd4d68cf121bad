/- Contracts and lemmas for the proof of MergeOrder; each theorem states its own conditions. -/
import Derived.Test.YtijcckhkofkenaaQMergeOrderbr
import Derived.BigGuard
import Derived.Test.YtijcckhkofkenaaQMergeOrderaz
import Derived.Test.YtijcckhkofkenaaQMergeOrderbg
set_option linter.unusedVariables false
set_option linter.unusedSimpArgs false
/- Contracts and lemmas for the proofs of this seat; each theorem states its own conditions. -/
namespace Go.Proofs.Ytijcckhkofkenaa
open Go.RowKit
theorem MergeSt.len4 {w : World} {S : Nat → Prop} {bm : Nat} {cl : List (List Bat)} {op : List Bat} (h : MergeSt w S bm cl op) : cl.length ≤ 4 := by
  obtain ⟨bc, bo, vc, vo, h⟩ := h
  exact h.n4
theorem EntsSeg.cap {w : World} {a : Option Addr} {n c : Nat} {X : List Ent} (h : EntsSeg w (.slice a n c) X) : X.length ≤ c ∧ c ≤ 9223372036854775807 := by
  obtain ⟨es, _, ⟨_, _, _, e, h1, h2, _⟩, _⟩ := h
  injection e with _ _ e
  subst e
  unfold maxLen at h2
  exact ⟨h1, h2⟩
/-- where the loop stands -/
def GrowS (w : World) (bm n : Nat) (X : List Ent) (vx : Value) (i : Nat) (wv : Value) (rn : Nat) (wr : World) : Prop :=
  ∃ S cl op, MergeSt wr S bm cl op ∧ BdM n i i cl op ∧ Ext w wr ∧ (∀ k, S k → w.heap.size ≤ k) ∧ EntsO wr S vx X ∧ EntsO wr S wv (logM cl) ∧ rn = rdM cl
set_option maxRecDepth 100000 in
set_option maxHeartbeats 8000000 in
theorem mgrows_walk (a0 : Int) (v v2 : Value) (ls ds : List (List Int)) (w : World) (hv : SegLL w v ls) (hv2 : SegLL w v2 ds) :
    Calls Try.prog 5 #[.int .i64 a0, v, v2] w fun e w' => e = .returned (.bool true) ∧ Ext w w' := by
  obtain ⟨m, hm1, hm2, hm4⟩ : ∃ m : Nat, wi a0 4 = (m : Int) ∧ (wi a0 4).toNat = m ∧ m < 4 := wi_nat (z := a0) (n := 4) (by omega)
  have WI := fun w => within_any a0 4 w (by omega) (by omega)
  rw [hm1] at WI
  have WI := hid WI
  obtain ⟨aL, cL, us, rfl, l1, l2, l3, l4, l5⟩ := hv.in
  unfold maxLen at l2
  have HV := hid hv
  have l4' : 0 < ls.length → ∃ b off, aL = some ⟨b, off, none⟩ := fun h => by obtain ⟨b, off, e, _⟩ := l4 h; exact ⟨b, off, e⟩
  have L4 := hid l4'
  obtain ⟨N, hN, hN1, hN2⟩ : ∃ N : Nat, min (ls.length : Int) 30 = (N : Int) ∧ N ≤ 30 ∧ N ≤ ls.length := ⟨min ls.length 30, by omega, by omega, by omega⟩
  have hNt : ((N : Int)).toNat = N := by omega
  have hNm : max (N : Int) 0 = (N : Int) := by omega
  clear l3 l4 l5 l4' hv hm1 hm2
  go_enter Try.func5, Try.ntmps5
  go_wp2_with fail
  refine (mergeBegun_any _).mono ?_
  rintro e w1 ⟨rfl, E1⟩
  go_wp2_with fail
  refine (WI.out _).mono ?_
  rintro e w' ⟨rfl, rfl⟩
  have q1 : (1 : Int) + (m : Int) = ((m + 1 : Nat) : Int) := by omega
  go_wp2_with fail

  refine (mnew_ok (m + 1) (by omega) (by omega) _).mono ?_
  rintro e w2 ⟨bm, S, rfl, hM, hS, E2⟩
  clear q1 WI
  have hS1 : ∀ k, S k → w.heap.size ≤ k := fun k hk => by have := hS k hk; have := E1.size'; omega
  replace E2 := E1.trans E2
  clear hS E1
  go_wp2_with fail
  refine (entries_any v2 (.slice none 0 0) ds [] _ (hv2.ext E2) (segll_nil _) (by simp)).mono ?_
  rintro e w3 ⟨vx, D, rfl, hdg, hdl, hlog⟩
  have hX := entsTo_ok hdg [] (Nat.le_refl _)
  have hXl := entsTo_len D [] D.length
  generalize entsTo D [] D.length = X at hlog hX hXl
  have hXO := hlog.off hM.ty
  have hM3 := hM.ext hlog.E
  have E3 := E2.trans hlog.E
  obtain ⟨ax, cx, rfl⟩ := hlog.form
  have hB0 := BdM.nil (n := m + 1) (by omega)
  have HX := hid hX
  clear hX hlog hM hdg hdl E2 hv2
  have ML := hid (mlog_ok hM3 hB0.sm.log (by have := log_many (List.replicate (m + 1) []) (List.replicate (m + 1) []); have := hB0.many; omega) (fun i hi => by have := hB0.len i (by simpa using hi); omega))
  go_wp2_with fail
  refine (ML.out).mono ?_
  rintro e w4 ⟨v4, rfl, hlog4⟩
  have hM4' := hM3.ext hlog4.E
  have MR := hid (mrounds_ok hM4')
  have hwas := hlog4.off hM3.ty
  have E4 := E3.trans hlog4.E
  have hXO4 := hXO.ext hlog4.E
  obtain ⟨a4, c4, rfl⟩ := hlog4.form
  clear ML hM3 hXO E3 hlog4
  go_wp2_with fail
  refine (MR.out).mono ?_
  rintro e w5 ⟨rfl, E5⟩
  have HG := hid (show GrowS w bm (m + 1) X (.slice ax X.length cx) 0 (.slice a4 (logM (List.replicate (m + 1) [])).length c4) (rdM (List.replicate (m + 1) [])) w5 from ⟨S, _, _, hM4'.ext E5, hB0, E4.trans E5, hS1, hXO4.ext E5, hwas.ext E5, rfl⟩)
  clear MR hM4' hwas E4 hXO4 E5 hB0 hS1
  generalize rdM (List.replicate (m + 1) []) = r0 at HG ⊢
  generalize (logM (List.replicate (m + 1) [])).length = n0 at HG ⊢
  go_wp2
  clear hN hNt hNm
  go_loopw [10, 11, 12, 13, 14, 39] (fun wv rv _ _ _ iv wr => ∃ (i rn : Nat), i ≤ N ∧ iv = .int .i64 i ∧ rv = .int .i64 rn ∧ GrowS w bm (m + 1) X (.slice ax X.length cx) i wv rn wr) (fun _ _ _ _ _ iv _ => N - (intOf iv).toNat)
  case atStart => exact ⟨0, r0, Nat.zero_le _, rfl, rfl, HG.out⟩
  case round =>
    clear HG
    obtain ⟨wq, rfl⟩ : ∃ wq : World, wq = wr := ⟨_, rfl⟩
    obtain ⟨i, rn, hi, rfl, rfl, S', cl, op, hM, hB, E, hS, hXO, hWO, rfl⟩ := hrel
    by_cases hil : i < N
    · obtain ⟨bL, oL, rfl⟩ := L4.out (by omega)
      have hlo := HV.out.one (show i < ls.length by omega)
      generalize ls[i]'(by omega) = c at hlo
      have q1 : ((i : Int) + 1).toNat = i + 1 := by omega
      obtain ⟨hcx1, hcx2⟩ := hXO.seg.cap
      have q2 : (i : Int) + 1 - (i : Int) = 1 := by omega
      have q3 : (cL : Int) - (i : Int) = ((cL - i : Nat) : Int) := by omega
      by_cases hix : i < X.length
      · have hxs := HX.out
        have hone : ∃ bX oX, ax = some ⟨bX, oX, none⟩ := by
          obtain ⟨es, _, h2, _⟩ := hXO
          obtain ⟨b, o, e, _⟩ := seg_cells h2 (by omega)
          exact ⟨b, o, e⟩
        obtain ⟨bX, oX, rfl⟩ := hone
        have hx1 := hXO.one hix
        have hxok := hxs X[i] (List.getElem_mem hix)
        generalize X[i] = x at hx1 hxok
        have hXX : ∀ y ∈ [x], EntOk y := by intro y hy; simp at hy; subst hy; exact hxok
        have hB' := (fed1_bd (X := [x]) (fun y hy => (hXX y hy).sm) (s := ((cl, op), 0)) (a := i) hB (Nat.zero_le _) c)
        have hB' : BdM (m + 1) (i + 1) (i + 1) (fed1 (m + 1) [x] ((cl, op), 0) c).1.1 (fed1 (m + 1) [x] ((cl, op), 0) c).1.2 := hB'.1.mono (by have := hB'.2; simp at this; omega) (Nat.le_refl _)
        obtain ⟨hgr, hgl⟩ := fed1_grows (X := [x]) (s := ((cl, op), 0)) (show 0 < m + 1 by omega) hB.lc c
        have FD := fed_ok hM hB (by omega) E hS (.slice (some ⟨bL, oL + i, none⟩) 1 (cL - i)) [c] hlo (by simp; omega) (.slice (some ⟨bX, oX + i * 4, none⟩) 1 (cx - i)) [x] hx1 hXX (by simp; omega)
        rw [show fedM (m + 1) [x] ((cl, op), 0) ([c].take 40) = fed1 (m + 1) [x] ((cl, op), 0) c from rfl] at FD
        have FD := hid FD
        clear hlo hx1 hxok hXX hxs
        go_wp2_with fail
        refine (FD.out).mono ?_
        rintro e w6 ⟨rfl, S6, hM6, K6⟩
        obtain ⟨E6, hS6⟩ := K6.low E hS
        have hXO6 := hXO.kp hM.ty K6
        have hWO6 := hWO.kp hM.ty K6
        clear FD K6 hM hXO hWO E hS
        generalize (fed1 (m + 1) [x] ((cl, op), 0) c).1.1 = cl' at hM6 hB' hgr hgl
        generalize (fed1 (m + 1) [x] ((cl, op), 0) c).1.2 = op' at hM6 hB'
        have hlm := log_many cl' op'
        have hma := hB'.many
        have ML := hid (mlog_ok hM6 hB'.sm.log (by omega) (fun j hj => by have := hB'.len j (by rw [← hB'.lc]; exact hj); omega))
        go_wp2_with fail
        refine (ML.out).mono ?_
        rintro e w7 ⟨v7, rfl, hlog7⟩
        have hnow := hlog7.off hM6.ty
        have hM7 := hM6.ext hlog7.E
        have MR := hid (fun w' (E : Ext w7 w') => mrounds_ok (hM7.ext E))
        have E7 := E6.trans hlog7.E
        replace hXO6 := hXO6.ext hlog7.E
        replace hWO6 := hWO6.ext hlog7.E
        obtain ⟨a7, c7, rfl⟩ := hlog7.form
        obtain ⟨aw, cw, rfl⟩ := hWO6.seg.form
        obtain ⟨lx, hlx, hle⟩ := hgl
        have hll : (logM cl').length = (logM cl).length + lx.length := by rw [hlx, List.length_append]
        obtain ⟨f4, f5⟩ := hnow.seg.cap
        have f4 : (logM cl).length ≤ c7 := by omega
        have EQ := fun w' (E : Ext w7 w') => equalE_any _ (.slice a7 (logM cl).length c7) (logM cl) ((logM cl').take (logM cl).length) w' (hWO6.seg.ext E) ((hnow.seg.take (by omega)).ext E)
        rw [show eqEs (logM cl) ((logM cl').take (logM cl).length) = true by rw [hlx, List.take_left]; exact eqEs_refl _] at EQ
        have EQ := hid EQ
        have HG := hid (fun w' (E : Ext w7 w') => (show GrowS w bm (m + 1) X (.slice (some ⟨bX, oX, none⟩) X.length cx) (i + 1) (.slice a7 (logM cl').length c7) (rdM cl') w' from ⟨S6, cl', op', hM7.ext E, hB', E7.trans E, hS6, hXO6.ext E, hnow.ext E, rfl⟩))
        have HE := hid (show rdM cl' = rdM cl → (logM cl').length = (logM cl).length from fun e => by rw [hll, hle e]; rfl)
        have hge : (logM cl).length ≤ (logM cl').length := by omega
        clear hll ML hM6 hnow hlog7 hM7 hXO6 hWO6 E6 hS6 hlx hle hB' hma
        generalize rdM cl' = R' at *
        generalize rdM cl = R at *
        generalize (logM cl').length = L' at *
        generalize (logM cl).length = L at *
        have f1 : ¬ ((R' : Int) < (R : Int)) := by omega
        have f2 : ¬ ((L' : Int) < (L : Int)) := by omega
        have f3 : (L : Int).toNat = L := by omega
        go_wp2_with fail
        refine (MR.out _ (Ext.refl _)).mono ?_
        rintro e w8 ⟨rfl, E8⟩
        go_wp2_with fail
        refine (EQ.out _ E8).mono ?_
        rintro e w9 ⟨rfl, E9⟩
        replace E9 := E8.trans E9
        go_wp2_with fail
        refine (MR.out _ E9).mono ?_
        rintro e w10 ⟨rfl, E10⟩
        replace E10 := E9.trans E10
        by_cases hRR : R' = R
        · have hL := HE.out hRR
          have g1 : ((R' : Int) == (R : Int)) = true := by simp [hRR]
          have g2 : ((L' : Int) != (L : Int)) = false := by simp [hL]
          clear hRR hL HE
          go_wp2_with fail
          refine (MR.out _ E10).mono ?_
          rintro e w11 ⟨rfl, E11⟩
          replace E11 := E10.trans E11
          go_wp2
          go_roundw
          case rel => exact ⟨i + 1, R', by omega, by go_num, rfl, HG.out _ E11⟩
          case measure => simp [intOf] <;> omega
        · have g1 : ((R' : Int) == (R : Int)) = false := by simp; omega
          clear hRR HE
          go_wp2_with fail
          refine (MR.out _ E10).mono ?_
          rintro e w11 ⟨rfl, E11⟩
          replace E11 := E10.trans E11
          go_wp2
          go_roundw
          case rel => exact ⟨i + 1, R', by omega, by go_num, rfl, HG.out _ E11⟩
          case measure => simp [intOf] <;> omega
      · have hXX : ∀ y ∈ ([] : List Ent), EntOk y := by simp
        have q4 : ¬ ((i : Int) < (X.length : Int)) := by omega
        have hB' := (fed1_bd (X := ([] : List Ent)) (fun y hy => (hXX y hy).sm) (s := ((cl, op), 0)) (a := i) hB (Nat.zero_le _) c)
        have hB' : BdM (m + 1) (i + 1) (i + 1) (fed1 (m + 1) ([] : List Ent) ((cl, op), 0) c).1.1 (fed1 (m + 1) ([] : List Ent) ((cl, op), 0) c).1.2 := hB'.1.mono (by have := hB'.2; simp at this; omega) (Nat.le_refl _)
        obtain ⟨hgr, hgl⟩ := fed1_grows (X := ([] : List Ent)) (s := ((cl, op), 0)) (show 0 < m + 1 by omega) hB.lc c
        have FD := fed_ok hM hB (by omega) E hS (.slice (some ⟨bL, oL + i, none⟩) 1 (cL - i)) [c] hlo (by simp; omega) (.slice none 0 0) ([] : List Ent) (EntsO.nil _ _) hXX (by simp; omega)
        rw [show fedM (m + 1) ([] : List Ent) ((cl, op), 0) ([c].take 40) = fed1 (m + 1) ([] : List Ent) ((cl, op), 0) c from rfl] at FD
        have FD := hid FD
        clear hlo hXX
        go_wp2_with fail
        refine (FD.out).mono ?_
        rintro e w6 ⟨rfl, S6, hM6, K6⟩
        obtain ⟨E6, hS6⟩ := K6.low E hS
        have hXO6 := hXO.kp hM.ty K6
        have hWO6 := hWO.kp hM.ty K6
        clear FD K6 hM hXO hWO E hS
        generalize (fed1 (m + 1) ([] : List Ent) ((cl, op), 0) c).1.1 = cl' at hM6 hB' hgr hgl
        generalize (fed1 (m + 1) ([] : List Ent) ((cl, op), 0) c).1.2 = op' at hM6 hB'
        have hlm := log_many cl' op'
        have hma := hB'.many
        have ML := hid (mlog_ok hM6 hB'.sm.log (by omega) (fun j hj => by have := hB'.len j (by rw [← hB'.lc]; exact hj); omega))
        go_wp2_with fail
        refine (ML.out).mono ?_
        rintro e w7 ⟨v7, rfl, hlog7⟩
        have hnow := hlog7.off hM6.ty
        have hM7 := hM6.ext hlog7.E
        have MR := hid (fun w' (E : Ext w7 w') => mrounds_ok (hM7.ext E))
        have E7 := E6.trans hlog7.E
        replace hXO6 := hXO6.ext hlog7.E
        replace hWO6 := hWO6.ext hlog7.E
        obtain ⟨a7, c7, rfl⟩ := hlog7.form
        obtain ⟨aw, cw, rfl⟩ := hWO6.seg.form
        obtain ⟨lx, hlx, hle⟩ := hgl
        have hll : (logM cl').length = (logM cl).length + lx.length := by rw [hlx, List.length_append]
        obtain ⟨f4, f5⟩ := hnow.seg.cap
        have f4 : (logM cl).length ≤ c7 := by omega
        have EQ := fun w' (E : Ext w7 w') => equalE_any _ (.slice a7 (logM cl).length c7) (logM cl) ((logM cl').take (logM cl).length) w' (hWO6.seg.ext E) ((hnow.seg.take (by omega)).ext E)
        rw [show eqEs (logM cl) ((logM cl').take (logM cl).length) = true by rw [hlx, List.take_left]; exact eqEs_refl _] at EQ
        have EQ := hid EQ
        have HG := hid (fun w' (E : Ext w7 w') => (show GrowS w bm (m + 1) X (.slice ax X.length cx) (i + 1) (.slice a7 (logM cl').length c7) (rdM cl') w' from ⟨S6, cl', op', hM7.ext E, hB', E7.trans E, hS6, hXO6.ext E, hnow.ext E, rfl⟩))
        have HE := hid (show rdM cl' = rdM cl → (logM cl').length = (logM cl).length from fun e => by rw [hll, hle e]; rfl)
        have hge : (logM cl).length ≤ (logM cl').length := by omega
        clear hll ML hM6 hnow hlog7 hM7 hXO6 hWO6 E6 hS6 hlx hle hB' hma
        generalize rdM cl' = R' at *
        generalize rdM cl = R at *
        generalize (logM cl').length = L' at *
        generalize (logM cl).length = L at *
        have f1 : ¬ ((R' : Int) < (R : Int)) := by omega
        have f2 : ¬ ((L' : Int) < (L : Int)) := by omega
        have f3 : (L : Int).toNat = L := by omega
        go_wp2_with fail
        refine (MR.out _ (Ext.refl _)).mono ?_
        rintro e w8 ⟨rfl, E8⟩
        go_wp2_with fail
        refine (EQ.out _ E8).mono ?_
        rintro e w9 ⟨rfl, E9⟩
        replace E9 := E8.trans E9
        go_wp2_with fail
        refine (MR.out _ E9).mono ?_
        rintro e w10 ⟨rfl, E10⟩
        replace E10 := E9.trans E10
        by_cases hRR : R' = R
        · have hL := HE.out hRR
          have g1 : ((R' : Int) == (R : Int)) = true := by simp [hRR]
          have g2 : ((L' : Int) != (L : Int)) = false := by simp [hL]
          clear hRR hL HE
          go_wp2_with fail
          refine (MR.out _ E10).mono ?_
          rintro e w11 ⟨rfl, E11⟩
          replace E11 := E10.trans E11
          go_wp2
          go_roundw
          case rel => exact ⟨i + 1, R', by omega, by go_num, rfl, HG.out _ E11⟩
          case measure => simp [intOf] <;> omega
        · have g1 : ((R' : Int) == (R : Int)) = false := by simp; omega
          clear hRR HE
          go_wp2_with fail
          refine (MR.out _ E10).mono ?_
          rintro e w11 ⟨rfl, E11⟩
          replace E11 := E10.trans E11
          go_wp2
          go_roundw
          case rel => exact ⟨i + 1, R', by omega, by go_num, rfl, HG.out _ E11⟩
          case measure => simp [intOf] <;> omega
    · obtain rfl : i = N := by omega
      go_wp2
      go_ret
      exact ⟨rfl, E⟩
end Go.Proofs.Ytijcckhkofkenaa

/- Contracts and lemmas for the proofs of this seat; each theorem states its own conditions. -/
namespace Go.Proofs.Ytijcckhkofkenaa
open Go.RowKit Go.Maps
/-! Free -/
/-- the table between: its rows of claims told by Cl, its map of keys of at most N entries -/
structure LockG (w : World) (B bt bk bd : Nat) (A : List Ops) (g : Nat → Bool) (F : ByteArray → Option SV) (G : Int → Option SV) (Cl : ByteArray → Clm) (N X : Nat) : Prop where
  hBt : B ≤ bt
  hBk : B ≤ bk
  hBd : B ≤ bd
  ne : bk ≠ bd
  box : w.heap[bt]? = some (.cells #[.map (some bk), .map (some bd), .int .i64 X] 134 (0, 0))
  km : ∃ n D, w.ownsMap Try.prog 9 svElem bk n D ∧ n ≤ N ∧ MapF kS okS dV D F
  dm : ∃ n D, w.ownsMap Try.prog 3 svElem bd n D ∧ n ≤ A.length ∧ MapF kI okI dV D G ∧ size D = liveN g A.length
  keys : ∀ k, w.ownsRow B 139 2 (svV ((F k).getD none)) (Cl k).length (cK (Cl k))
  apart : ∀ k k' s s', k ≠ k' → F k = some s → F k' = some s' → (svV s).ownBlock = none ∨ (svV s).ownBlock ≠ (svV s').ownBlock
  rows : ∀ n : Nat, n < A.length → g n = false → ∃ s, G (n : Int) = some s ∧ w.ownsRow B 9 1 (svV s) (tkL (A.getD n [])).length (cS (tkL (A.getD n [])))
theorem LockSt.g {w : World} {B bt bk bd : Nat} {A : List Ops} {g : Nat → Bool} {F : ByteArray → Option SV} {G : Int → Option SV} (h : LockSt w B bt bk bd A g F G) : LockG w B bt bk bd A g F G (fun k => clmTo A g k A.length) (32 * (A.length + (A.length - liveN g A.length))) A.length :=
  ⟨h.hBt, h.hBk, h.hBd, h.ne, h.box, h.km, h.dm, h.keys, h.apart, h.rows⟩
theorem LockG.ext {w w' : World} {B bt bk bd : Nat} {A : List Ops} {g : Nat → Bool} {F : ByteArray → Option SV} {G : Int → Option SV} {Cl : ByteArray → Clm} {N X : Nat} (h : LockG w B bt bk bd A g F G Cl N X) (E : Ext w w') : LockG w' B bt bk bd A g F G Cl N X where
  hBt := h.hBt
  hBk := h.hBk
  hBd := h.hBd
  ne := h.ne
  box := E.heap h.box
  km := by obtain ⟨n, D, a, b⟩ := h.km; exact ⟨n, D, ownsMap_ext a E, b⟩
  dm := by obtain ⟨n, D, a, b⟩ := h.dm; exact ⟨n, D, ownsMap_ext a E, b⟩
  keys := fun k => own_ext (h.keys k) E
  apart := h.apart
  rows := fun n a b => by obtain ⟨s, e, o⟩ := h.rows n a b; exact ⟨s, e, own_ext o E⟩
/-- a row of claims is turned in place, then stored anew: what holds between -/
def Mid (w0 : World) (B bt bk bd : Nat) (A : List Ops) (g : Nat → Bool) (F : ByteArray → Option SV) (G : Int → Option SV) (Cl : ByteArray → Clm) (N X : Nat) (key : ByteArray) (l' : Clm) (v : Value) (w : World) : Prop :=
  ∃ w1, LockG w1 B bt bk bd A g F G Cl N X ∧ w1.grownBy w (svV ((F key).getD none)).ownBlock ∧ w.ownsRow B 139 2 v l'.length (cK l') ∧ (v.ownBlock = (svV ((F key).getD none)).ownBlock ∨ ∀ k, v.ownBlock = some k → w1.heap.size ≤ k) ∧ Ext w0 w1
theorem claim_ne_box {w : World} {B bt bk bd : Nat} {A : List Ops} {g : Nat → Bool} {F : ByteArray → Option SV} {G : Int → Option SV} {Cl : ByteArray → Clm} {N X : Nat} (h : LockG w B bt bk bd A g F G Cl N X) (key : ByteArray) : (svV ((F key).getD none)).ownBlock ≠ some bt ∧ (svV ((F key).getD none)).ownBlock ≠ some bk ∧ (svV ((F key).getD none)).ownBlock ≠ some bd := by
  have hk := h.keys key
  refine ⟨own_ne hk h.box (by decide), fun e => ?_, fun e => ?_⟩
  · obtain ⟨n, D, ⟨es, clock, hm, _⟩, _⟩ := h.km
    rcases hk.2 with ⟨hn, _⟩ | ⟨b, cap, cur, hv, hb, hg, rest⟩
    · rw [hn] at e; cases e
    · rw [hv] at e; injection e with e; subst e; rw [hm] at hg; cases hg
  · obtain ⟨n, D, ⟨es, clock, hm, _⟩, _⟩ := h.dm
    rcases hk.2 with ⟨hn, _⟩ | ⟨b, cap, cur, hv, hb, hg, rest⟩
    · rw [hn] at e; cases e
    · rw [hv] at e; injection e with e; subst e; rw [hm] at hg; cases hg
theorem own_not_map {w : World} {B e sz n b : Nat} {v : Value} {xs : List Value} (h : w.ownsRow B e sz v n xs) {es : Array MapEntry} {clock : Nat} (hm : w.heap[b]? = some (.map es clock)) : v.ownBlock ≠ some b := fun e' => by
  rcases h.2 with ⟨hn, _⟩ | ⟨b', cap, cur, hv, hb, hg, rest⟩
  · rw [hn] at e'; cases e'
  · rw [hv] at e'; injection e' with e'; subst e'; rw [hm] at hg; cases hg
theorem kept_ne {w w' : World} {B e sz n b : Nat} {v : Value} {xs : List Value} (hg : w.grownBy w' (some b)) (h : w.ownsRow B e sz v n xs) (hne : v.ownBlock ≠ some b) : w'.ownsRow B e sz v n xs := grown_own hg h (.inr hne)
/-- the store of a turned row -/
theorem mid_store {w0 w w' : World} {B bt bk bd : Nat} {A : List Ops} {g : Nat → Bool} {F : ByteArray → Option SV} {G : Int → Option SV} {Cl : ByteArray → Clm} {N X : Nat} {key : ByteArray} {l' : Clm} {sv : SV} (h : Mid w0 B bt bk bd A g F G Cl N X key l' (svV sv) w) (hk : okS key) {n : Nat} {D : DU}
    (hmap : w.ownsMap Try.prog 9 svElem bk n D) (hn : n ≤ N) (hF : MapF kS okS dV D F) (hmap' : w'.ownsMap Try.prog 9 svElem bk (n + 1) (D.put (kS key) (dV sv))) (hg' : w.grownBy w' (some bk)) :
    LockG w' B bt bk bd A g (fun k => if k = key then some sv else F k) G (fun k => if k = key then l' else Cl k) (N + 1) X ∧ TFr B bt bk bd w0 w' := by
  obtain ⟨w1, hl, hg1, ho, hb, E⟩ := h
  obtain ⟨c1, c2, c3⟩ := claim_ne_box hl key
  obtain ⟨es, clock, hm, _⟩ := hmap
  have hbk1 : ∃ es clock, w1.heap[bk]? = some (.map es clock) := by
    obtain ⟨_, _, ⟨es, clock, hm, _⟩, _⟩ := hl.km; exact ⟨es, clock, hm⟩
  obtain ⟨es1, clock1, hm1⟩ := hbk1
  have hbt : bt ≠ bk := by rintro rfl; have := hl.box; rw [hm1] at this; cases this
  refine ⟨⟨hl.hBt, hl.hBk, hl.hBd, hl.ne, ?_, ⟨n + 1, _, hmap', by omega, hF.put kS_inj kS_is hk sv⟩, ?_, fun k => ?_, fun k k' s s' hne h1 h2 => ?_, fun m h1 h2 => ?_⟩, ?_⟩
  · exact grown_heap hg' (grown_heap hg1 hl.box c1) (fun e => hbt (by injection e with e; exact e.symm))
  · obtain ⟨m, D', a, b⟩ := hl.dm
    exact ⟨m, D', (a.kept hg1 (fun e => c3 e.symm)).kept hg' (fun e => hl.ne (by injection e with e; exact e.symm)), b⟩
  · by_cases e : k = key
    · subst e
      simp only [if_true, Option.getD_some]
      exact kept_ne hg' ho (own_not_map ho hm)
    · simp only [if_neg e]
      have hk1 := hl.keys k
      have hap : (svV ((F k).getD none)).ownBlock = none ∨ (svV ((F k).getD none)).ownBlock ≠ (svV ((F key).getD none)).ownBlock := by
        cases h1 : F k with
        | none => left; rfl
        | some s1 =>
          cases h2 : F key with
          | none =>
            cases h3 : (svV ((some s1 : Option SV).getD none)).ownBlock with
            | none => left; rfl
            | some b => right; show some b ≠ none; simp
          | some s2 => exact hl.apart k key s1 s2 e h1 h2
      have hk2 := grown_own hg1 hk1 hap
      exact kept_ne hg' hk2 (own_not_map hk2 hm)
  · have hfar : ∀ k' s', k' ≠ key → F k' = some s' → (svV sv).ownBlock = none ∨ (svV sv).ownBlock ≠ (svV s').ownBlock := fun k' s' hne' h2' => by
      rcases hb with hb | hb
      · rw [hb]
        cases h3 : F key with
        | none => left; rfl
        | some s0 => exact hl.apart key k' s0 s' (Ne.symm hne') h3 h2'
      · cases e : (svV sv).ownBlock with
        | none => exact .inl rfl
        | some b =>
          right
          intro e'
          have h5 := hb b e
          have h4 := hl.keys k'
          rw [h2', Option.getD_some] at h4
          have := (h4.lt b e'.symm).2
          omega
    by_cases e : k = key
    · subst e
      simp only [if_true] at h1
      injection h1 with h1; subst h1
      rw [if_neg (Ne.symm hne)] at h2
      exact hfar k' s' (Ne.symm hne) h2
    · rw [if_neg e] at h1
      by_cases e' : k' = key
      · subst e'
        simp only [if_true] at h2
        injection h2 with h2; subst h2
        rcases hfar k s e h1 with h3 | h3
        · cases h4 : (svV s).ownBlock with
          | none => left; rfl
          | some b => right; rw [h3]; simp
        · exact .inr fun e2 => h3 e2.symm
      · rw [if_neg e'] at h2
        exact hl.apart k k' s s' hne h1 h2
  · obtain ⟨s, e, o⟩ := hl.rows m h1 h2
    have o2 := grown_own hg1 o (own_own_ne o (hl.keys key) (by decide))
    exact ⟨s, e, kept_ne hg' o2 (own_not_map o2 hm)⟩
  · refine (TFr.of_ext E).trans ?_
    have t1 : TFr B bt bk bd w1 w := ⟨hg1.os, hg1.tape, hg1.output, hg1.size, fun i hi => by
      by_cases e : (svV ((F key).getD none)).ownBlock = some i
      · right
        have hk1 := hl.keys key
        rcases hk1.2 with ⟨hn, _⟩ | ⟨b, cap, cur, hv, hbb, hgg, rest⟩
        · rw [hn] at e; cases e
        · rw [hv] at e; injection e with e; subst e
          exact ⟨hbb, .inr (.inr (.inr ⟨cur, hgg⟩))⟩
      · exact .inl (hg1.block i hi (fun e' => e e'.symm))⟩
    refine t1.trans ⟨hg'.os, hg'.tape, hg'.output, hg'.size, fun i hi => ?_⟩
    by_cases e : i = bk
    · subst e; exact .inr ⟨hl.hBk, .inr (.inl rfl)⟩
    · exact .inl (hg'.block i hi (fun e' => e (by injection e')))
end Go.Proofs.Ytijcckhkofkenaa
