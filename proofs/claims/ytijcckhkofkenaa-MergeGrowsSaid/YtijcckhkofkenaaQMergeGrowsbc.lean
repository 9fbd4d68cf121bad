/- Contracts and lemmas for the proof of MergeGrows; each theorem states its own conditions. -/
import Derived.Test.YtijcckhkofkenaaQMergeGrowsbb
import Derived.Test.YtijcckhkofkenaaQMergeGrowsba
set_option linter.unusedVariables false
set_option linter.unusedSimpArgs false
/- Contracts and lemmas for the proofs of this seat; each theorem states its own conditions. -/
namespace Go.Proofs.Ytijcckhkofkenaa
open Go.RowKit
/-! rokeep.mergeBegun, rokeep.fed -/
theorem SegLL.in {w : World} {v : Value} {ls : List (List Int)} (h : SegLL w v ls) : ∃ (a : Option Addr) (c : Nat) (us : List Value), v = .slice a ls.length c ∧ ls.length ≤ c ∧ c ≤ maxLen ∧ us.length = ls.length ∧ (0 < ls.length → ∃ b off, a = some ⟨b, off, none⟩ ∧ ∀ j u, us[j]? = some u → w.cell? ⟨b, off + j, none⟩ = some u) ∧ ∀ (i : Nat) (u : Value) (m : List Int), us[i]? = some u → ls[i]? = some m → Seg w u 1 m.length (cI m) := by
  obtain ⟨us, h1, ⟨_, a, c, rfl, h2, h3, h4⟩, h5⟩ := h
  rw [h1] at h2 h4 ⊢
  exact ⟨a, c, us, rfl, h2, h3, h1, h4, h5⟩
/-- entries that lie beside what turns -/
def EntsO (w : World) (S : Nat → Prop) (v : Value) (X : List Ent) : Prop := ∃ es, EntsSt w es X ∧ Seg w v 4 X.length (cEn es) ∧ ∀ b off n c, v = .slice (some ⟨b, off, none⟩) n c → 0 < X.length → ¬ S b
theorem EntsO.seg {w : World} {S : Nat → Prop} {v : Value} {X : List Ent} (h : EntsO w S v X) : EntsSeg w v X := by
  obtain ⟨es, h1, h2, _⟩ := h
  exact ⟨es, h1.1, h2, fun j e x a b => (h1.2 j e x a b).seg⟩
theorem EntsO.kp {S S' : Nat → Prop} {w w' : World} (ty : TyS w S mTy) (k : Kp S w w' S') {v : Value} {X : List Ent} (h : EntsO w S v X) : EntsO w' S' v X := by
  obtain ⟨es, h1, ⟨g0, a, c, rfl, g1, g2, g3⟩, h3⟩ := h
  by_cases hn : 0 < X.length
  · obtain ⟨b, off, rfl, hc⟩ := g3 hn
    have hb := h3 b off _ _ rfl hn
    have hlt : b < w.heap.size := by
      have := hc 0 ((cEn es)[0]'(by rw [g0]; omega)) (List.getElem?_eq_getElem _)
      exact World.block_lt_of_cell? _ ⟨b, off + 0, none⟩ this
    have hblk := k.2.1 b hlt hb
    refine ⟨es, h1.kp ty k, ⟨g0, _, _, rfl, g1, g2, fun _ => ⟨b, off, rfl, fun j u hu => ?_⟩⟩, fun b' off' n c' e _ => ?_⟩
    · have := hc j u hu
      simp only [World.cell?] at this ⊢
      rw [hblk]; exact this
    · injection e with e _ _; injection e with e; injection e with e1 e2
      subst e1
      exact k.out hlt hb
  · exact ⟨es, h1.kp ty k, ⟨g0, _, _, rfl, g1, g2, fun h => absurd h hn⟩, fun _ _ _ _ _ h => absurd h hn⟩
theorem EntsO.ext {S : Nat → Prop} {w w' : World} {v : Value} {X : List Ent} (h : EntsO w S v X) (E : Ext w w') : EntsO w' S v X := by
  obtain ⟨es, h1, h2, h3⟩ := h
  exact ⟨es, h1.ext E, h2.ext E, h3⟩
structure EntOk (x : Ent) : Prop where
  sm : EntSm x
  sz : EntSz x
  ok : entE x = 0
theorem SegLL.low {w0 w w' : World} {S S' : Nat → Prop} {v : Value} {ls : List (List Int)} (h : SegLL w0 v ls) (E : Ext w0 w) (k : Kp S w w' S') (hS : ∀ i, S i → w0.heap.size ≤ i) : SegLL w' v ls := h.ext (k.low E hS).1
set_option maxRecDepth 100000 in
set_option maxHeartbeats 4000000 in
theorem mergeBegun_any (w : World) : Calls Try.prog 30 #[] w fun e w' => e = .returned (.bool true) ∧ Ext w w' := by
  go_enter Try.func30, Try.ntmps30
  go_wp2_with fail
  refine (mnew_ok 2 (by omega) (by omega) _).mono ?_
  rintro e w1 ⟨bm, S, rfl, hM, hS, E1⟩
  have C := hid (mclose_ok hM 1 (by simp) (by simp))
  clear hM
  go_wp2_with fail
  refine (C.out).mono ?_
  rintro e w2 ⟨rfl, S', hM, K⟩
  obtain ⟨E2, hS'⟩ := K.low E1 hS
  have MW := hid (mwaits_ok hM)
  clear C hM K
  have hw : wtM (clsM (List.replicate 2 []) 1 ((List.replicate 2 ([] : Bat)).getD 1 [])) = [0] := by
    decide +kernel
  rw [hw] at MW
  have hl : (((List.replicate 2 ([] : List Bat)).getD 1 []).length + 1 : Nat) = 1 := rfl
  rw [hl]
  clear hw hl
  go_wp2_with fail
  refine (MW.out).mono ?_
  rintro e w3 ⟨v3, rfl, ho, E3⟩
  have b4 := heap_alloc_new w3 (.cells #[.int .i64 0] 3)
  have Q := hid (equal_Int v3 (.slice (some ⟨w3.heap.size, 0, none⟩) 1 1) [0] [0] _ ((own_seg ho).ext ((Ext.refl w3).alloc (.cells #[.int .i64 0] 3))) (seg_blk (xs := cI [0]) b4 rfl (Nat.le_refl _) (by simp [maxLen])))
  clear ho b4
  go_wp2_with fail
  refine (Q.out).mono ?_
  rintro e w4 ⟨rfl, n, rfl⟩
  go_wp2
  go_ret
  exact ⟨rfl, ((E2.trans E3).alloc _).drewN n⟩
set_option maxRecDepth 100000 in
set_option maxHeartbeats 4000000 in
theorem fed_ok {w0 w : World} {S : Nat → Prop} {bm n a k : Nat} {cl : List (List Bat)} {op : List Bat} (h : MergeSt w S bm cl op) (hB : BdM n a k cl op) (hn4 : n ≤ 4) (E0 : Ext w0 w) (hS : ∀ i, S i → w0.heap.size ≤ i)
    (vl : Value) (ls : List (List Int)) (hl : SegLL w0 vl ls) (hk : k + min ls.length 40 ≤ 60) (vx : Value) (X : List Ent) (hx : EntsO w S vx X) (hX : ∀ x ∈ X, EntOk x) (ha : a + X.length ≤ 60) :
    Calls Try.prog 35 #[.pointer (some ⟨bm, 0, none⟩), .int .i64 n, vl, vx] w fun e w' => e = .returned (.bool true) ∧ ∃ S', MergeSt w' S' bm (fedM n X ((cl, op), 0) (ls.take 40)).1.1 (fedM n X ((cl, op), 0) (ls.take 40)).1.2 ∧ Kp S w w' S' := by
  obtain ⟨aL, cL, us, rfl, l1, l2, l3, l4, l5⟩ := hl.in
  unfold maxLen at l2
  have L4 := hid l4
  have L5 := hid l5
  have HX := hid hX
  have HO := hid hx
  have HFB := hid (fed_bd (s := (cl, op)) (fun x hx => (hX x hx).sm) hB (ls.take 40))
  have HTY := hid h.ty
  have h0 := h
  have HS0 := hid hS
  have hn0 := hB.n0
  obtain ⟨aX, cX, rfl⟩ := hx.seg.form
  obtain ⟨N, hN, hN1, hN2⟩ : ∃ N : Nat, min (ls.length : Int) 40 = (N : Int) ∧ N = min ls.length 40 ∧ N ≤ ls.length := ⟨min ls.length 40, by omega, rfl, by omega⟩
  have hNt : ((N : Int)).toNat = N := by omega
  have hNm : max (N : Int) 0 = (N : Int) := by omega
  have HTK := hid (show (ls.take 40).length = N by rw [List.length_take, hN1]; omega)
  have hNN := hid hN1
  clear l4 l5 hX hx hl h hB hN1 hS
  rw [← hNN.out] at hk
  have hXl : X.length ≤ 60 := by omega
  go_enter Try.func35, Try.ntmps35
  go_wp2
  clear hN hNt hNm
  go_loopw [9, 11, 12, 13, 14, 21] (fun nv _ _ _ _ jv wr => ∃ j : Nat, j ≤ N ∧ jv = .int .i64 j ∧ nv = .int .i64 (fedM n X ((cl, op), 0) ((ls.take 40).take j)).2 ∧ ∃ S', MergeSt wr S' bm (fedM n X ((cl, op), 0) ((ls.take 40).take j)).1.1 (fedM n X ((cl, op), 0) ((ls.take 40).take j)).1.2 ∧ Kp S w wr S') (fun _ _ _ _ _ jv _ => N - (intOf jv).toNat)
  case atStart => exact ⟨0, Nat.zero_le _, rfl, by simp [fedM], S, by simpa [fedM] using h0, Kp.refl _ _⟩
  case round =>
    obtain ⟨wq, rfl⟩ : ∃ wq : World, wq = wr := ⟨_, rfl⟩
    obtain ⟨j, hj, rfl, rfl, S', hM, K⟩ := hrel
    by_cases hjN : j < N
    · obtain ⟨E', hS'⟩ := K.low E0 HS0.out
      have hjl : j < (ls.take 40).length := by rw [HTK.out]; exact hjN
      obtain ⟨hBj, hnx⟩ := HFB.out j (by omega)
      have HST := hid (fed_snoc n X ((cl, op), 0) hjl)
      have hget : (ls.take 40)[j] = ls[j] := List.getElem_take
      rw [hget] at HST
      generalize fedM n X ((cl, op), 0) ((ls.take 40).take j) = s at hM HST hBj hnx ⊢
      obtain ⟨⟨cl', op'⟩, nx⟩ := s
      dsimp only at hM hBj hnx ⊢
      obtain ⟨bL, oL, rfl, hcL⟩ := L4.out (by omega)
      have cj := E'.cell (hcL j us[j] (List.getElem?_eq_getElem (by omega)))
      have sg := (L5.out j us[j] ls[j] (List.getElem?_eq_getElem (by omega)) (List.getElem?_eq_getElem (by omega))).ext E'
      generalize ls[j] = c at sg HST
      obtain ⟨ac, kc, ec⟩ := seg_form sg
      rw [ec] at cj sg
      clear hcL hget hjl ec
      have HM := hid hM
      have HK := hid K
      have HB := hid hBj
      have hnx60 : nx ≤ 60 := by omega
      clear hM K hBj
      by_cases h2 : c.length < 2
      · have HS1 := hid (show fed1 n X ((cl', op'), nx) c = ((cl', op'), nx) by unfold fed1; rw [if_pos h2])
        rw [HS1.out] at HST
        go_wp2
        go_roundw
        case rel => exact ⟨j + 1, by omega, by go_num, by rw [HST.out], by rw [HST.out]; exact ⟨S', HM.out, HK.out⟩⟩
        case measure => simp [intOf] <;> omega
      · obtain ⟨bc, oc, rfl, _, p1, p2, hcc⟩ := seg_cells sg (by omega)
        unfold maxLen at p2
        have x0 := hcc 0 _ (cI_at0 c 0 (by omega))
        rw [Nat.add_zero] at x0
        have x1 := hcc 1 _ (cI_at0 c 1 (by omega))
        obtain ⟨i, hi1, hi2, hin⟩ := wi_nat (z := c[1]) hn0
        have WI := fun w => within_any c[1] n w (by omega) (by omega)
        have W3 := fun w => within_any c[0] 3 w (by omega) (by omega)
        have g1 := wi_lo (k := c[0]) (n := 3) (by omega)
        have hf : fed1 n X ((cl', op'), nx) c = if wi c[0] 3 < 2 then (if nx < X.length then ((cl', addM op' i (plainE (X.getD nx entZ))), nx + 1) else ((cl', op'), nx)) else ((clsM cl' i (op'.getD i []), op'.set i []), nx) := by
          unfold fed1
          rw [if_neg h2, getD_lt (show 0 < c.length by omega), getD_lt (show 1 < c.length by omega), hi2]
        rw [hi1] at WI
        have WI := hid WI
        generalize wi c[0] 3 = z at W3 g1 hf
        have W3 := hid W3
        have HF := hid hf
        clear hf hcc hi1 hi2
        generalize c[0]'(by omega) = c0 at x0 W3
        generalize c[1]'(by omega) = c1 at x1 WI
        have hBm := HB.out.many
        have hBl := HB.out.len
        have hlc := HB.out.lc
        have hil : i < cl'.length := by rw [hlc]; exact hin
        by_cases hz : z < 2
        · by_cases hnl : nx < X.length
          · obtain ⟨es, o1, o2, o3⟩ := HO.out.kp HTY.out HK.out
            obtain ⟨bX, oX, rfl, _, y1, y2, hcX⟩ := seg_cells o2 (by omega)
            unfold maxLen at y2
            have hel : nx < es.length := by have := o1.1; omega
            obtain ⟨z0, z1, z2, z3⟩ := cEn_at es hel
            replace z0 := hcX _ _ z0
            replace z1 : wq.cell? ⟨bX, oX + nx * 4 + 1, none⟩ = _ := hcX _ _ z1
            replace z2 : wq.cell? ⟨bX, oX + nx * 4 + 2, none⟩ = _ := hcX _ _ z2
            replace z3 : wq.cell? ⟨bX, oX + nx * 4 + 3, none⟩ = _ := hcX _ _ z3
            have hE := o1.2 nx es[nx] X[nx] (List.getElem?_eq_getElem hel) (List.getElem?_eq_getElem hnl)
            have hxo := HX.out X[nx] (List.getElem_mem hnl)
            have HF2 : Hid (fed1 n X ((cl', op'), nx) c = ((cl', addM op' i (plainE X[nx])), nx + 1)) := hid (by rw [HF.out, if_pos hz, if_pos hnl, getD_lt hnl])
            have MA := madd_ok HM.out i hil es[nx] X[nx] hE.seg hxo.sm hxo.sz hxo.ok (by omega) (fun m hm => by have := hBl m (by omega); omega) (by have := op_many (op := op') hil; omega)
            generalize X[nx] = x at hE MA HF2
            generalize es[nx] = e at z0 z1 z2 z3 hE MA
            obtain ⟨v1, b1, v2, v3⟩ := e
            dsimp only at z0 z1 z2 z3
            obtain ⟨f1, l1', e1⟩ := own_form hE.ops
            obtain ⟨f2, l2', e2⟩ := own_form hE.cuts
            obtain ⟨f3, l3', e3⟩ := own_form hE.own
            dsimp only at e1 e2 e3
            subst e1; subst e2; subst e3
            have MA := hid MA
            rw [HF2.out] at HST
            clear hcX o1 o2 o3 hE hBl hxo
            go_wp2_with fail
            refine (WI.out _).mono ?_
            rintro e w' ⟨rfl, rfl⟩
            go_wp2_with fail
            refine (W3.out _).mono ?_
            rintro e w' ⟨rfl, rfl⟩
            go_wp2_with fail
            refine (MA.out).mono ?_
            rintro e w4 ⟨rfl, S4, hM4, K4⟩
            have R4 := hid (show ∃ S', MergeSt w4 S' bm cl' (addM op' i (plainE x)) ∧ Kp S w w4 S' from ⟨S4, hM4, (HK.out).trans K4⟩)
            clear hM4 K4 z0 z1 z2 z3
            go_wp2
            go_roundw
            case rel => exact ⟨j + 1, by omega, by go_num, by rw [HST.out]; exact vI (by omega), by rw [HST.out]; exact R4.out⟩
            case measure => simp [intOf] <;> omega
          · have HF2 : Hid (fed1 n X ((cl', op'), nx) c = ((cl', op'), nx)) := hid (by rw [HF.out, if_pos hz, if_neg hnl])
            rw [HF2.out] at HST
            clear hBl
            go_wp2_with fail
            refine (WI.out _).mono ?_
            rintro e w' ⟨rfl, rfl⟩
            go_wp2_with fail
            refine (W3.out _).mono ?_
            rintro e w' ⟨rfl, rfl⟩
            go_wp2
            go_roundw
            case rel => exact ⟨j + 1, by omega, by go_num, by rw [HST.out], by rw [HST.out]; exact ⟨S', HM.out, HK.out⟩⟩
            case measure => simp [intOf] <;> omega
        · have HF2 : Hid (fed1 n X ((cl', op'), nx) c = ((clsM cl' i (op'.getD i []), op'.set i []), nx)) := hid (by rw [HF.out, if_neg hz])
          have MC := hid (mclose_ok HM.out i hil (by have := hBl i hin; omega))
          rw [HF2.out] at HST
          clear hBl
          go_wp2_with fail
          refine (WI.out _).mono ?_
          rintro e w' ⟨rfl, rfl⟩
          go_wp2_with fail
          refine (W3.out _).mono ?_
          rintro e w' ⟨rfl, rfl⟩
          go_wp2_with fail
          refine (MC.out).mono ?_
          rintro e w4 ⟨rfl, S4, hM4, K4⟩
          have R4 := hid (show ∃ S', MergeSt w4 S' bm (clsM cl' i (op'.getD i [])) (op'.set i []) ∧ Kp S w w4 S' from ⟨S4, hM4, (HK.out).trans K4⟩)
          clear hM4 K4
          go_wp2
          go_roundw
          case rel => exact ⟨j + 1, by omega, by go_num, by rw [HST.out], by rw [HST.out]; exact R4.out⟩
          case measure => simp [intOf] <;> omega
    · obtain rfl : j = N := by omega
      rw [List.take_of_length_le (by rw [HTK.out]; exact Nat.le_refl _)] at hM
      have R4 := hid (show ∃ S', MergeSt wq S' bm (fedM n X ((cl, op), 0) (ls.take 40)).1.1 (fedM n X ((cl, op), 0) (ls.take 40)).1.2 ∧ Kp S w wq S' from ⟨S', hM, K⟩)
      clear hM K
      go_wp2
      go_ret
      exact ⟨rfl, R4.out⟩
end Go.Proofs.Ytijcckhkofkenaa

/- Contracts and lemmas for the proofs of this seat; each theorem states its own conditions. -/
namespace Go.Proofs.Ytijcckhkofkenaa
theorem cutsOk_of {C : List ByteArray} (hp : C.Pairwise fun a b => blt a b = true) (hk : ∀ x ∈ C, keyB x = true) : allTo (cutOk C) C.length := by
  intro i hi
  have h1 := hk C[i] (List.getElem_mem hi)
  cases i with
  | zero => simp [cutOk, kAt_eq hi, h1]
  | succ i =>
    have h2 := List.pairwise_iff_getElem.1 hp i (i + 1) (by omega) hi (by omega)
    simp [cutOk, kAt_eq hi, kAt_eq (show i < C.length by omega), h1, h2]
theorem nm_key : ∀ j, (h : j < nmL.length) → keyB nmL[j] = true := by decide +kernel
theorem nm_lt : ∀ i, (hi : i < nmL.length) → ∀ j, (hj : j < nmL.length) → i < j → blt nmL[i] nmL[j] = true := by decide +kernel
theorem mkC_mem (l : List Int) : ∀ k, k ≤ 6 → ∀ x ∈ mkC l k, ∃ j, ∃ h : j < nmL.length, j < k ∧ x = nmL[j]
  | 0, _, x, hx => by simp [mkC] at hx
  | k + 1, hk, x, hx => by
    have ih := mkC_mem l k (by omega)
    have hl : k < nmL.length := by simp [nmL]; omega
    simp only [mkC] at hx
    split at hx
    · rw [List.mem_append] at hx
      rcases hx with hx | hx
      · obtain ⟨j, h, h1, h2⟩ := ih x hx; exact ⟨j, h, by omega, h2⟩
      · rw [List.mem_singleton, kAt_eq hl] at hx
        exact ⟨k, hl, by omega, hx⟩
    · obtain ⟨j, h, h1, h2⟩ := ih x hx; exact ⟨j, h, by omega, h2⟩
theorem mkC_sorted (l : List Int) : ∀ k, k ≤ 6 → (mkC l k).Pairwise fun a b => blt a b = true
  | 0, _ => by simp [mkC]
  | k + 1, hk => by
    have ih := mkC_sorted l k (by omega)
    have hl : k < nmL.length := by simp [nmL]; omega
    simp only [mkC]
    split
    · rw [List.pairwise_append]
      refine ⟨ih, by simp, fun a ha b hb => ?_⟩
      rw [List.mem_singleton, kAt_eq hl] at hb
      obtain ⟨j, h, h1, h2⟩ := mkC_mem l k (by omega) a ha
      rw [h2, hb]; exact nm_lt j h k hl h1
    · exact ih
theorem mkO_range (l : List Int) : ∀ k, ∀ n ∈ mkO l k, 0 ≤ n ∧ n < 4
  | 0, n, hn => by simp [mkO] at hn; omega
  | k + 1, n, hn => by
    simp only [mkO] at hn
    split at hn
    · rw [List.mem_append] at hn
      rcases hn with hn | hn
      · exact mkO_range l k n hn
      · rw [List.mem_singleton] at hn
        rw [hn]; exact ⟨wi_lo (by omega), wi_hi (by omega)⟩
    · exact mkO_range l k n hn
theorem ownsOk_of {O : List Int} (h : ∀ n ∈ O, 0 ≤ n ∧ n < 4) : allTo (ownOk O) O.length := by
  intro i hi
  have := h O[i] (List.getElem_mem hi)
  exact ownOk_yes hi this.1 this.2
theorem mk_ok (l : List Int) : MapOk (mkC l 6) (mkO l 6) :=
  ⟨by have := mkC_len l 6; omega, mkO_len l 6, cutsOk_of (mkC_sorted l 6 (by omega)) (fun x hx => by
    obtain ⟨j, h, _, h2⟩ := mkC_mem l 6 (by omega) x hx; rw [h2]; exact nm_key j h), ownsOk_of (mkO_range l 6)⟩
theorem mk_small (l : List Int) : ∀ x ∈ mkC l 6, x.size ≤ 9223372036854775807 := fun x hx => by
  obtain ⟨j, h, _, h2⟩ := mkC_mem l 6 (by omega) x hx
  have : ∀ j, (h : j < nmL.length) → nmL[j].size ≤ 2 := by decide +kernel
  have := this j h
  rw [h2]; omega
theorem mem_range_of {O : List Int} (h : allTo (ownOk O) O.length) : ∀ n ∈ O, 0 ≤ n ∧ n < 4 := by
  intro n hn
  obtain ⟨i, hi, rfl⟩ := List.mem_iff_getElem.1 hn
  have := h i hi
  simp [ownOk, hi] at this
  omega
theorem ok_set {C : List ByteArray} {O : List Int} (h : MapOk C O) (i : Nat) (n : Int) (h0 : 0 ≤ n) (h1 : n < 4) : MapOk C (O.set i n) :=
  ⟨h.few, by rw [List.length_set]; exact h.len, h.cut, by
    have := mem_range_of h.own
    exact ownsOk_of fun m hm => by
      rcases List.mem_or_eq_of_mem_set hm with hm | hm
      · exact this m hm
      · subst hm; exact ⟨h0, h1⟩⟩
/-- the place of a key -/
def plc (C : List ByteArray) (k : ByteArray) : Nat := idx (leAt C k) C.length
theorem plc_cut {C : List ByteArray} (hs : srt C) (k : ByteArray) : cutAt (leAt C k) C.length (plc C k) := by
  have hd := dropsB_le hs k
  have : ∃ i, cutAt (leAt C k) C.length i := by
    have key : ∀ m, m ≤ C.length → (∃ i, cutAt (leAt C k) C.length i) ∨ ∀ j, j < m → leAt C k j = true := by
      intro m
      induction m with
      | zero => intro _; right; intro j hj; omega
      | succ m ih =>
        intro hm
        rcases ih (by omega) with h | h
        · exact .inl h
        · cases hb : leAt C k m with
          | true => right; intro j hj; rcases Nat.lt_succ_iff_lt_or_eq.1 hj with h' | h'
                    · exact h j h'
                    · subst h'; exact hb
          | false =>
            left
            refine ⟨m, by omega, h, fun j hj hjn => ?_⟩
            cases hb' : leAt C k j with
            | false => rfl
            | true =>
              rcases Nat.eq_or_lt_of_le hj with h' | h'
              · subst h'; rw [hb] at hb'; cases hb'
              · have := hd m j h' hjn hb'; rw [hb] at this; cases this
    rcases key C.length (Nat.le_refl _) with h | h
    · exact h
    · exact ⟨C.length, Nat.le_refl _, h, fun j hj hjn => by omega⟩
  obtain ⟨i, hi⟩ := this
  have := idx_spec _ _ _ hi
  unfold plc; rw [this]; exact hi
theorem plc_le {C : List ByteArray} (hs : srt C) (k : ByteArray) : plc C k ≤ C.length := (plc_cut hs k).1
/-- the loop that looks for it: j is the place when it stops -/
theorem plc_stop {C : List ByteArray} (hs : srt C) {k : ByteArray} {j : Nat} (hj : j ≤ C.length) (h1 : allTo (leAt C k) j) (h2 : j < C.length → leAt C k j = false) : plc C k = j := by
  refine idx_spec _ _ _ ⟨hj, h1, fun m hm hmn => ?_⟩
  rcases Nat.eq_or_lt_of_le hm with h | h
  · subst h; exact h2 hmn
  · cases hb : leAt C k m with
    | false => rfl
    | true => have := dropsB_le hs k j m h hmn hb; rw [h2 (by omega)] at this; cases this
theorem whose_plc (C : List ByteArray) (O : List Int) (k : ByteArray) : whose C O k = O.getD (plc C k) 0 := rfl
theorem whose_set_hit {C : List ByteArray} {O : List Int} {k : ByteArray} {i : Nat} {n : Int} (hi : i < O.length) (h : plc C k = i) : whose C (O.set i n) k = n := by
  rw [whose_plc, h]; simp [hi]
theorem whose_set_miss {C : List ByteArray} {O : List Int} {k : ByteArray} {i : Nat} {n : Int} (h : plc C k ≠ i) : whose C (O.set i n) k = whose C O k := by
  rw [whose_plc, whose_plc]; simp [List.getElem?_set, Ne.symm h]
theorem OwnMap.unpack {w : World} {B : Nat} {v : Value} {cuts : List ByteArray} {owners : List Int} (h : OwnMap w B v cuts owners) :
    ∃ a k a' k', v = .agg #[.slice a cuts.length k, .slice a' owners.length k'] ∧ IsMap w (.agg #[.slice a cuts.length k, .slice a' owners.length k']) cuts owners := by
  have h' := h.is
  obtain ⟨a, k, a', k', rfl, _⟩ := h'.unpack
  exact ⟨a, k, a', k', rfl, h'⟩
theorem OwnMap.set2 {w : World} {B : Nat} {v : Value} {cuts : List ByteArray} {owners : List Int} (h : OwnMap w B v cuts owners) {p q : Addr} {u u' : Value} (hp : p.block < B) (hq : q.block < B) :
    OwnMap ((w.setCell p u).setCell q u') B v cuts owners := by
  obtain ⟨c, o, h1, h2, h3⟩ := h
  exact ⟨c, o, h1, own_set2 h2 hp hq, own_set2 h3 hp hq⟩
end Go.Proofs.Ytijcckhkofkenaa

/- Contracts and lemmas for the proofs of this seat; each theorem states its own conditions. -/
namespace Go.Proofs.Ytijcckhkofkenaa
open Go.RowKit
/-! MergeGrows: what is used besides -/
theorem fed1_grows {n : Nat} {X : List Ent} {s : MSt × Nat} (h0 : 0 < n) (hl : s.1.1.length = n) (c : List Int) : rdM s.1.1 ≤ rdM (fed1 n X s c).1.1 ∧ ∃ l, logM (fed1 n X s c).1.1 = logM s.1.1 ++ l ∧ (rdM (fed1 n X s c).1.1 = rdM s.1.1 → l = []) := by
  have hid' : rdM s.1.1 ≤ rdM s.1.1 ∧ ∃ l, logM s.1.1 = logM s.1.1 ++ l ∧ (rdM s.1.1 = rdM s.1.1 → l = []) := ⟨Nat.le_refl _, [], by simp, fun _ => rfl⟩
  unfold fed1
  split
  · exact hid'
  · obtain ⟨i, _, hi, hin⟩ := wi_nat (z := c.getD 1 0) h0
    rw [hi]
    split
    · split
      · exact hid'
      · exact hid'
    · exact ⟨cls_rd (by omega) _, cls_more (by omega) _⟩
theorem mapErr_ok' {C : List ByteArray} {O : List Int} (h : MapOk C O) : mapErr C O = 0 := mapErr_ok h
theorem entsTo_ok {D : List Ops} (hD : ∀ d ∈ D, DeedG d) (ms : List (List Int)) : ∀ {k : Nat}, k ≤ D.length → ∀ x ∈ entsTo D ms k, EntOk x
  | 0, _, x, hx => by simp [entsTo] at hx
  | k + 1, hk, x, hx => by
    rw [entsTo] at hx
    rcases List.mem_append.1 hx with a | a
    · exact entsTo_ok hD ms (by omega) x a
    · rcases List.mem_cons.1 a with rfl | a
      · rw [getD_lt (show k < D.length by omega)]
        have g := hD _ (List.getElem_mem (show k < D.length by omega))
        refine ⟨⟨?_, by simp, by simp⟩, ⟨opsSm_ok g.ok g.sm, by simp⟩, ?_⟩
        · have := g.hi; simp only; omega
        · unfold entE; rw [if_neg (by simp)]; exact deedE_ok g.ok
      · split at a
        · simp at a; subst a
          have m := mk_ok (ms.getD k [])
          refine ⟨⟨by simp, ?_, ?_⟩, ⟨fun o ho => by simp at ho, mk_small _⟩, ?_⟩
          · have := m.few; simp only [List.getD_eq_getElem?_getD] at this ⊢; omega
          · have := m.few; have := m.len; simp only [List.getD_eq_getElem?_getD] at *; omega
          · unfold entE; rw [if_pos rfl]; exact mapErr_ok m
        · simp at a
/-- one entry of some -/
theorem EntsO.one {w : World} {S : Nat → Prop} {b off c i : Nat} {X : List Ent} (h : EntsO w S (.slice (some ⟨b, off, none⟩) X.length c) X) (hi : i < X.length) : EntsO w S (.slice (some ⟨b, off + i * 4, none⟩) 1 (c - i)) [X[i]] := by
  obtain ⟨es, h1, h2, h3⟩ := h
  have hie : i < es.length := by have := h1.1; omega
  obtain ⟨b', off', he, _, p1, p2, hc⟩ := seg_cells h2 (by omega)
  injection he with he; injection he with e1 e2
  subst e1; subst e2
  obtain ⟨x0, x1, x2, x3⟩ := cEn_at es hie
  replace x0 := hc _ _ x0
  replace x1 := hc _ _ x1
  replace x2 := hc _ _ x2
  replace x3 := hc _ _ x3
  refine ⟨[es[i]], ⟨rfl, fun j e x a b => ?_⟩, ⟨rfl, _, _, rfl, (show 1 ≤ c - i by omega), by omega, fun _ => ⟨b, _, rfl, fun j u hu => ?_⟩⟩, fun b' off' n' c' e _ => ?_⟩
  · have hj : j = 0 := by have := (List.getElem?_eq_some_iff.1 a).1; simp at this; omega
    subst hj; simp at a b; subst a; subst b
    exact h1.2 i _ _ (List.getElem?_eq_getElem hie) (List.getElem?_eq_getElem hi)
  · have hcell : ∀ m, off + i * 4 + m = off + (i * 4 + m) := fun m => by omega
    rw [hcell]
    have hu' : (evC es[i])[j]? = some u := by simpa [cEn] using hu
    rcases j with _ | _ | _ | _ | j
    · simp [evC] at hu'; subst hu'; exact x0
    · simp [evC] at hu'; subst hu'; exact x1
    · simp [evC] at hu'; subst hu'; exact x2
    · simp [evC] at hu'; subst hu'; exact x3
    · simp [evC] at hu'
  · injection e with e _ _; injection e with e; injection e with e1 e2
    subst e1
    exact h3 b off _ _ rfl (by omega)
theorem EntsO.nil (w : World) (S : Nat → Prop) : EntsO w S (.slice none 0 0) [] := ⟨[], EntsSt.nil w, Seg.nil _ _, fun b off n c h => by cases h⟩
/-- one list of some -/
theorem SegLL.one {w : World} {b off c i : Nat} {ls : List (List Int)} (h : SegLL w (.slice (some ⟨b, off, none⟩) ls.length c) ls) (hi : i < ls.length) : SegLL w (.slice (some ⟨b, off + i, none⟩) 1 (c - i)) [ls[i]] := by
  obtain ⟨us, h1, h2, h3⟩ := h
  have hiu : i < us.length := by omega
  obtain ⟨b', off', he, _, p1, p2, hc⟩ := seg_cells h2 (by omega)
  injection he with he; injection he with e1 e2
  subst e1; subst e2
  have x0 := hc i us[i] (List.getElem?_eq_getElem hiu)
  refine ⟨[us[i]], rfl, ⟨rfl, _, _, rfl, ?_, by omega, fun _ => ⟨b, _, rfl, fun j u hu => ?_⟩⟩, fun j u m a b => ?_⟩
  · show 1 ≤ c - i; omega
  · have hj : j = 0 := by have := (List.getElem?_eq_some_iff.1 hu).1; simp at this; omega
    subst hj; simp at hu; subst hu
    exact x0
  · have hj : j = 0 := by have := (List.getElem?_eq_some_iff.1 a).1; simp at this; omega
    subst hj; simp at a b; subst a; subst b
    exact h3 i _ _ (List.getElem?_eq_getElem hiu) (List.getElem?_eq_getElem hi)
/-- the first of some entries -/
theorem EntsSeg.take {w : World} {a : Option Addr} {c m : Nat} {X : List Ent} (h : EntsSeg w (.slice a X.length c) X) (hm : m ≤ X.length) : EntsSeg w (.slice a m c) (X.take m) := by
  obtain ⟨es, h1, ⟨g0, a', c', e, g1, g2, g3⟩, h3⟩ := h
  injection e with e1 _ e2
  subst e1; subst e2
  have hl : (X.take m).length = m := by rw [List.length_take]; omega
  refine ⟨es.take m, by rw [List.length_take, hl]; omega, ⟨by rw [cEn_len, List.length_take, hl]; omega, a, c, by rw [hl], by omega, g2, fun hn => ?_⟩, fun j e x p q => ?_⟩
  · rw [hl] at hn
    obtain ⟨b, off, rfl, hc⟩ := g3 (by omega)
    refine ⟨b, off, rfl, fun j u hu => hc j u ?_⟩
    rw [← cEn_take] at hu
    have hj := (List.getElem?_eq_some_iff.1 hu).1
    rw [List.length_take] at hj
    rw [List.getElem?_take_of_lt (by omega)] at hu
    exact hu
  · have hj := (List.getElem?_eq_some_iff.1 q).1
    rw [hl] at hj
    rw [List.getElem?_take_of_lt hj] at p q
    exact h3 j e x p q
/-- a log lies beside what was there -/
theorem LogR.off {w : World} {S : Nat → Prop} {T : List Nat} {X : List Ent} {v : Value} {a : World} (h : LogR w X v a) (ty : TyS w S T) : EntsO a S v X := by
  obtain ⟨es, h1, h2, h3⟩ := h
  refine ⟨es, h1, own_seg h2, fun b off n c e hn hb => ?_⟩
  have := ty.lt hb
  have := own_ge h2 b (by
    rcases h2.2 with ⟨e', _⟩ | ⟨g, cap, cur, e', _⟩
    · rw [e'] at e; cases e
    · rw [e'] at e ⊢
      injection e with e _ _; injection e with e; injection e with e1 e2
      subst e1; rfl)
  omega
end Go.Proofs.Ytijcckhkofkenaa
