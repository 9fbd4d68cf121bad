/- Contracts and lemmas for the proof of MergeOrder; each theorem states its own conditions. -/
import Derived.Test.YtijcckhkofkenaaQMergeOrderbp
set_option linter.unusedVariables false
set_option linter.unusedSimpArgs false
/- Contracts and lemmas for the proofs of this seat; each theorem states its own conditions. -/
namespace Go.Proofs.Ytijcckhkofkenaa
open Go.RowKit
/-! rokeep.mergeBegun, rokeep.fed -/
theorem SegLL.in {w : World} {v : Value} {ls : List (List Int)} (h : SegLL w v ls) : ∃ (a : Option Addr) (c : Nat) (us : List Value), v = .slice a ls.length c ∧ ls.length ≤ c ∧ c ≤ maxLen ∧ us.length = ls.length ∧ (0 < ls.length → ∃ b off, a = some ⟨b, off, none⟩ ∧ ∀ j u, us[j]? = some u → w.cell? ⟨b, off + j, none⟩ = some u) ∧ ∀ (i : Nat) (u : Value) (m : List Int), us[i]? = some u → ls[i]? = some m → Seg w u 1 m.length (cI m) := by
  obtain ⟨us, h1, ⟨_, a, c, rfl, h2, h3, h4⟩, h5⟩ := h
  rw [h1] at h2 h4 ⊢
  exact ⟨a, c, us, rfl, h2, h3, h1, h4, h5⟩
/-- entries that lie beside what turns -/
def EntsO (w : World) (S : Nat → Prop) (v : Value) (X : List Ent) : Prop := ∃ es, EntsSt w es X ∧ Seg w v 4 X.length (cEn es) ∧ ∀ b off n c, v = .slice (some ⟨b, off, none⟩) n c → 0 < X.length → ¬ S b
theorem EntsO.seg {w : World} {S : Nat → Prop} {v : Value} {X : List Ent} (h : EntsO w S v X) : EntsSeg w v X := by
  obtain ⟨es, h1, h2, _⟩ := h
  exact ⟨es, h1.1, h2, fun j e x a b => (h1.2 j e x a b).seg⟩
theorem EntsO.kp {S S' : Nat → Prop} {w w' : World} (ty : TyS w S mTy) (k : Kp S w w' S') {v : Value} {X : List Ent} (h : EntsO w S v X) : EntsO w' S' v X := by
  obtain ⟨es, h1, ⟨g0, a, c, rfl, g1, g2, g3⟩, h3⟩ := h
  by_cases hn : 0 < X.length
  · obtain ⟨b, off, rfl, hc⟩ := g3 hn
    have hb := h3 b off _ _ rfl hn
    have hlt : b < w.heap.size := by
      have := hc 0 ((cEn es)[0]'(by rw [g0]; omega)) (List.getElem?_eq_getElem _)
      exact World.block_lt_of_cell? _ ⟨b, off + 0, none⟩ this
    have hblk := k.2.1 b hlt hb
    refine ⟨es, h1.kp ty k, ⟨g0, _, _, rfl, g1, g2, fun _ => ⟨b, off, rfl, fun j u hu => ?_⟩⟩, fun b' off' n c' e _ => ?_⟩
    · have := hc j u hu
      simp only [World.cell?] at this ⊢
      rw [hblk]; exact this
    · injection e with e _ _; injection e with e; injection e with e1 e2
      subst e1
      exact k.out hlt hb
  · exact ⟨es, h1.kp ty k, ⟨g0, _, _, rfl, g1, g2, fun h => absurd h hn⟩, fun _ _ _ _ _ h => absurd h hn⟩
theorem EntsO.ext {S : Nat → Prop} {w w' : World} {v : Value} {X : List Ent} (h : EntsO w S v X) (E : Ext w w') : EntsO w' S v X := by
  obtain ⟨es, h1, h2, h3⟩ := h
  exact ⟨es, h1.ext E, h2.ext E, h3⟩
structure EntOk (x : Ent) : Prop where
  sm : EntSm x
  sz : EntSz x
  ok : entE x = 0
theorem SegLL.low {w0 w w' : World} {S S' : Nat → Prop} {v : Value} {ls : List (List Int)} (h : SegLL w0 v ls) (E : Ext w0 w) (k : Kp S w w' S') (hS : ∀ i, S i → w0.heap.size ≤ i) : SegLL w' v ls := h.ext (k.low E hS).1
set_option maxRecDepth 100000 in
set_option maxHeartbeats 4000000 in
theorem mergeBegun_any (w : World) : Calls Try.prog 30 #[] w fun e w' => e = .returned (.bool true) ∧ Ext w w' := by
  go_enter Try.func30, Try.ntmps30
  go_wp2_with fail
  refine (mnew_ok 2 (by omega) (by omega) _).mono ?_
  rintro e w1 ⟨bm, S, rfl, hM, hS, E1⟩
  have C := hid (mclose_ok hM 1 (by simp) (by simp))
  clear hM
  go_wp2_with fail
  refine (C.out).mono ?_
  rintro e w2 ⟨rfl, S', hM, K⟩
  obtain ⟨E2, hS'⟩ := K.low E1 hS
  have MW := hid (mwaits_ok hM)
  clear C hM K
  have hw : wtM (clsM (List.replicate 2 []) 1 ((List.replicate 2 ([] : Bat)).getD 1 [])) = [0] := by
    decide +kernel
  rw [hw] at MW
  have hl : (((List.replicate 2 ([] : List Bat)).getD 1 []).length + 1 : Nat) = 1 := rfl
  rw [hl]
  clear hw hl
  go_wp2_with fail
  refine (MW.out).mono ?_
  rintro e w3 ⟨v3, rfl, ho, E3⟩
  have b4 := heap_alloc_new w3 (.cells #[.int .i64 0] 3)
  have Q := hid (equal_Int v3 (.slice (some ⟨w3.heap.size, 0, none⟩) 1 1) [0] [0] _ ((own_seg ho).ext ((Ext.refl w3).alloc (.cells #[.int .i64 0] 3))) (seg_blk (xs := cI [0]) b4 rfl (Nat.le_refl _) (by simp [maxLen])))
  clear ho b4
  go_wp2_with fail
  refine (Q.out).mono ?_
  rintro e w4 ⟨rfl, n, rfl⟩
  go_wp2
  go_ret
  exact ⟨rfl, ((E2.trans E3).alloc _).drewN n⟩
set_option maxRecDepth 100000 in
set_option maxHeartbeats 4000000 in
theorem fed_ok {w0 w : World} {S : Nat → Prop} {bm n a k : Nat} {cl : List (List Bat)} {op : List Bat} (h : MergeSt w S bm cl op) (hB : BdM n a k cl op) (hn4 : n ≤ 4) (E0 : Ext w0 w) (hS : ∀ i, S i → w0.heap.size ≤ i)
    (vl : Value) (ls : List (List Int)) (hl : SegLL w0 vl ls) (hk : k + min ls.length 40 ≤ 60) (vx : Value) (X : List Ent) (hx : EntsO w S vx X) (hX : ∀ x ∈ X, EntOk x) (ha : a + X.length ≤ 60) :
    Calls Try.prog 35 #[.pointer (some ⟨bm, 0, none⟩), .int .i64 n, vl, vx] w fun e w' => e = .returned (.bool true) ∧ ∃ S', MergeSt w' S' bm (fedM n X ((cl, op), 0) (ls.take 40)).1.1 (fedM n X ((cl, op), 0) (ls.take 40)).1.2 ∧ Kp S w w' S' := by
  obtain ⟨aL, cL, us, rfl, l1, l2, l3, l4, l5⟩ := hl.in
  unfold maxLen at l2
  have L4 := hid l4
  have L5 := hid l5
  have HX := hid hX
  have HO := hid hx
  have HFB := hid (fed_bd (s := (cl, op)) (fun x hx => (hX x hx).sm) hB (ls.take 40))
  have HTY := hid h.ty
  have h0 := h
  have HS0 := hid hS
  have hn0 := hB.n0
  obtain ⟨aX, cX, rfl⟩ := hx.seg.form
  obtain ⟨N, hN, hN1, hN2⟩ : ∃ N : Nat, min (ls.length : Int) 40 = (N : Int) ∧ N = min ls.length 40 ∧ N ≤ ls.length := ⟨min ls.length 40, by omega, rfl, by omega⟩
  have hNt : ((N : Int)).toNat = N := by omega
  have hNm : max (N : Int) 0 = (N : Int) := by omega
  have HTK := hid (show (ls.take 40).length = N by rw [List.length_take, hN1]; omega)
  have hNN := hid hN1
  clear l4 l5 hX hx hl h hB hN1 hS
  rw [← hNN.out] at hk
  have hXl : X.length ≤ 60 := by omega
  go_enter Try.func35, Try.ntmps35
  go_wp2
  clear hN hNt hNm
  go_loopw [9, 11, 12, 13, 14, 21] (fun nv _ _ _ _ jv wr => ∃ j : Nat, j ≤ N ∧ jv = .int .i64 j ∧ nv = .int .i64 (fedM n X ((cl, op), 0) ((ls.take 40).take j)).2 ∧ ∃ S', MergeSt wr S' bm (fedM n X ((cl, op), 0) ((ls.take 40).take j)).1.1 (fedM n X ((cl, op), 0) ((ls.take 40).take j)).1.2 ∧ Kp S w wr S') (fun _ _ _ _ _ jv _ => N - (intOf jv).toNat)
  case atStart => exact ⟨0, Nat.zero_le _, rfl, by simp [fedM], S, by simpa [fedM] using h0, Kp.refl _ _⟩
  case round =>
    obtain ⟨wq, rfl⟩ : ∃ wq : World, wq = wr := ⟨_, rfl⟩
    obtain ⟨j, hj, rfl, rfl, S', hM, K⟩ := hrel
    by_cases hjN : j < N
    · obtain ⟨E', hS'⟩ := K.low E0 HS0.out
      have hjl : j < (ls.take 40).length := by rw [HTK.out]; exact hjN
      obtain ⟨hBj, hnx⟩ := HFB.out j (by omega)
      have HST := hid (fed_snoc n X ((cl, op), 0) hjl)
      have hget : (ls.take 40)[j] = ls[j] := List.getElem_take
      rw [hget] at HST
      generalize fedM n X ((cl, op), 0) ((ls.take 40).take j) = s at hM HST hBj hnx ⊢
      obtain ⟨⟨cl', op'⟩, nx⟩ := s
      dsimp only at hM hBj hnx ⊢
      obtain ⟨bL, oL, rfl, hcL⟩ := L4.out (by omega)
      have cj := E'.cell (hcL j us[j] (List.getElem?_eq_getElem (by omega)))
      have sg := (L5.out j us[j] ls[j] (List.getElem?_eq_getElem (by omega)) (List.getElem?_eq_getElem (by omega))).ext E'
      generalize ls[j] = c at sg HST
      obtain ⟨ac, kc, ec⟩ := seg_form sg
      rw [ec] at cj sg
      clear hcL hget hjl ec
      have HM := hid hM
      have HK := hid K
      have HB := hid hBj
      have hnx60 : nx ≤ 60 := by omega
      clear hM K hBj
      by_cases h2 : c.length < 2
      · have HS1 := hid (show fed1 n X ((cl', op'), nx) c = ((cl', op'), nx) by unfold fed1; rw [if_pos h2])
        rw [HS1.out] at HST
        go_wp2
        go_roundw
        case rel => exact ⟨j + 1, by omega, by go_num, by rw [HST.out], by rw [HST.out]; exact ⟨S', HM.out, HK.out⟩⟩
        case measure => simp [intOf] <;> omega
      · obtain ⟨bc, oc, rfl, _, p1, p2, hcc⟩ := seg_cells sg (by omega)
        unfold maxLen at p2
        have x0 := hcc 0 _ (cI_at0 c 0 (by omega))
        rw [Nat.add_zero] at x0
        have x1 := hcc 1 _ (cI_at0 c 1 (by omega))
        obtain ⟨i, hi1, hi2, hin⟩ := wi_nat (z := c[1]) hn0
        have WI := fun w => within_any c[1] n w (by omega) (by omega)
        have W3 := fun w => within_any c[0] 3 w (by omega) (by omega)
        have g1 := wi_lo (k := c[0]) (n := 3) (by omega)
        have hf : fed1 n X ((cl', op'), nx) c = if wi c[0] 3 < 2 then (if nx < X.length then ((cl', addM op' i (plainE (X.getD nx entZ))), nx + 1) else ((cl', op'), nx)) else ((clsM cl' i (op'.getD i []), op'.set i []), nx) := by
          unfold fed1
          rw [if_neg h2, getD_lt (show 0 < c.length by omega), getD_lt (show 1 < c.length by omega), hi2]
        rw [hi1] at WI
        have WI := hid WI
        generalize wi c[0] 3 = z at W3 g1 hf
        have W3 := hid W3
        have HF := hid hf
        clear hf hcc hi1 hi2
        generalize c[0]'(by omega) = c0 at x0 W3
        generalize c[1]'(by omega) = c1 at x1 WI
        have hBm := HB.out.many
        have hBl := HB.out.len
        have hlc := HB.out.lc
        have hil : i < cl'.length := by rw [hlc]; exact hin
        by_cases hz : z < 2
        · by_cases hnl : nx < X.length
          · obtain ⟨es, o1, o2, o3⟩ := HO.out.kp HTY.out HK.out
            obtain ⟨bX, oX, rfl, _, y1, y2, hcX⟩ := seg_cells o2 (by omega)
            unfold maxLen at y2
            have hel : nx < es.length := by have := o1.1; omega
            obtain ⟨z0, z1, z2, z3⟩ := cEn_at es hel
            replace z0 := hcX _ _ z0
            replace z1 : wq.cell? ⟨bX, oX + nx * 4 + 1, none⟩ = _ := hcX _ _ z1
            replace z2 : wq.cell? ⟨bX, oX + nx * 4 + 2, none⟩ = _ := hcX _ _ z2
            replace z3 : wq.cell? ⟨bX, oX + nx * 4 + 3, none⟩ = _ := hcX _ _ z3
            have hE := o1.2 nx es[nx] X[nx] (List.getElem?_eq_getElem hel) (List.getElem?_eq_getElem hnl)
            have hxo := HX.out X[nx] (List.getElem_mem hnl)
            have HF2 : Hid (fed1 n X ((cl', op'), nx) c = ((cl', addM op' i (plainE X[nx])), nx + 1)) := hid (by rw [HF.out, if_pos hz, if_pos hnl, getD_lt hnl])
            have MA := madd_ok HM.out i hil es[nx] X[nx] hE.seg hxo.sm hxo.sz hxo.ok (by omega) (fun m hm => by have := hBl m (by omega); omega) (by have := op_many (op := op') hil; omega)
            generalize X[nx] = x at hE MA HF2
            generalize es[nx] = e at z0 z1 z2 z3 hE MA
            obtain ⟨v1, b1, v2, v3⟩ := e
            dsimp only at z0 z1 z2 z3
            obtain ⟨f1, l1', e1⟩ := own_form hE.ops
            obtain ⟨f2, l2', e2⟩ := own_form hE.cuts
            obtain ⟨f3, l3', e3⟩ := own_form hE.own
            dsimp only at e1 e2 e3
            subst e1; subst e2; subst e3
            have MA := hid MA
            rw [HF2.out] at HST
            clear hcX o1 o2 o3 hE hBl hxo
            go_wp2_with fail
            refine (WI.out _).mono ?_
            rintro e w' ⟨rfl, rfl⟩
            go_wp2_with fail
            refine (W3.out _).mono ?_
            rintro e w' ⟨rfl, rfl⟩
            go_wp2_with fail
            refine (MA.out).mono ?_
            rintro e w4 ⟨rfl, S4, hM4, K4⟩
            have R4 := hid (show ∃ S', MergeSt w4 S' bm cl' (addM op' i (plainE x)) ∧ Kp S w w4 S' from ⟨S4, hM4, (HK.out).trans K4⟩)
            clear hM4 K4 z0 z1 z2 z3
            go_wp2
            go_roundw
            case rel => exact ⟨j + 1, by omega, by go_num, by rw [HST.out]; exact vI (by omega), by rw [HST.out]; exact R4.out⟩
            case measure => simp [intOf] <;> omega
          · have HF2 : Hid (fed1 n X ((cl', op'), nx) c = ((cl', op'), nx)) := hid (by rw [HF.out, if_pos hz, if_neg hnl])
            rw [HF2.out] at HST
            clear hBl
            go_wp2_with fail
            refine (WI.out _).mono ?_
            rintro e w' ⟨rfl, rfl⟩
            go_wp2_with fail
            refine (W3.out _).mono ?_
            rintro e w' ⟨rfl, rfl⟩
            go_wp2
            go_roundw
            case rel => exact ⟨j + 1, by omega, by go_num, by rw [HST.out], by rw [HST.out]; exact ⟨S', HM.out, HK.out⟩⟩
            case measure => simp [intOf] <;> omega
        · have HF2 : Hid (fed1 n X ((cl', op'), nx) c = ((clsM cl' i (op'.getD i []), op'.set i []), nx)) := hid (by rw [HF.out, if_neg hz])
          have MC := hid (mclose_ok HM.out i hil (by have := hBl i hin; omega))
          rw [HF2.out] at HST
          clear hBl
          go_wp2_with fail
          refine (WI.out _).mono ?_
          rintro e w' ⟨rfl, rfl⟩
          go_wp2_with fail
          refine (W3.out _).mono ?_
          rintro e w' ⟨rfl, rfl⟩
          go_wp2_with fail
          refine (MC.out).mono ?_
          rintro e w4 ⟨rfl, S4, hM4, K4⟩
          have R4 := hid (show ∃ S', MergeSt w4 S' bm (clsM cl' i (op'.getD i [])) (op'.set i []) ∧ Kp S w w4 S' from ⟨S4, hM4, (HK.out).trans K4⟩)
          clear hM4 K4
          go_wp2
          go_roundw
          case rel => exact ⟨j + 1, by omega, by go_num, by rw [HST.out], by rw [HST.out]; exact R4.out⟩
          case measure => simp [intOf] <;> omega
    · obtain rfl : j = N := by omega
      rw [List.take_of_length_le (by rw [HTK.out]; exact Nat.le_refl _)] at hM
      have R4 := hid (show ∃ S', MergeSt wq S' bm (fedM n X ((cl, op), 0) (ls.take 40)).1.1 (fedM n X ((cl, op), 0) (ls.take 40)).1.2 ∧ Kp S w wq S' from ⟨S', hM, K⟩)
      clear hM K
      go_wp2
      go_ret
      exact ⟨rfl, R4.out⟩
end Go.Proofs.Ytijcckhkofkenaa
