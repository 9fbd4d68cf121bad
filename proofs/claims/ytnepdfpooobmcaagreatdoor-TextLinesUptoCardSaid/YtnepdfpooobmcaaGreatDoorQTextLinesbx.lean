/- Contracts and lemmas for the proof of TextLines; each theorem states its own conditions. -/
import Derived.Test.YtnepdfpooobmcaaGreatDoorQTextLinesbv
import Derived.Test.YtnepdfpooobmcaaGreatDoorQTextLinesbi
import Derived.Test.YtnepdfpooobmcaaGreatDoorQTextLinesbw
set_option linter.unusedVariables false
set_option linter.unusedSimpArgs false
/- Contracts and lemmas for the proofs of this seat; each theorem states its own conditions. -/
namespace Go.Proofs.YtnepdfpooobmcaaGreatDoor
open Go.RowKit
/-! TextLines -/
theorem sb_b : (sbL (⟨#[98]⟩ : ByteArray).data.toList : Int) = 98 := by decide +kernel
set_option maxRecDepth 100000 in
set_option maxHeartbeats 8000000 in
theorem tlines_walk (e : EV) (x : Ent) (s : ByteArray) (w : World) (L : LaidT w) (h : EntSeg w e x) (sz : EntSz x) (hn : ∀ o ∈ x.ops, -9223372036854775808 ≤ o.n ∧ o.n ≤ 9223372036854775807) (hs : s.size ≤ 4000000000) :
    Calls Tryz.prog 4 #[evV e, .string s] w fun r w' => r = .returned (.bool true) ∧ Ext w w' := by
  have HL := hid L
  have TE := hid (fun w' (q : Ext w w') => tentry_any e x w' (L.ext q) (h.ext q) sz hn)
  have TR := hid (fun w' (q : Ext w w') => trdentry_any s w' (L.ext q) hs)
  have TL := hid (fun w' (q : Ext w w') => tlog_any s w' (L.ext q) hs)
  have TS := hid (fun w' => tsum_any s w' hs)
  have RS := hid (fun w' => rsum_any s w' hs)
  have TB := fun w' => tsum_any ⟨#[98]⟩ w' (by decide)
  rw [sb_b] at TB
  have TB := hid TB
  have RE := hid (fun w' (q : Ext w w') => rentry_any e x w' (h.ext q) sz)
  have LI := hid (fun (ok : entE x = 0) w' (q : Ext w w') => rline_any e x w' (h.ext q) ok)
  have RL := hid (fun (t : ByteArray) (ht : t.size ≤ 4000000000) w' (q : Ext w w') => rreadline_any t w' (L.ext q) ht)
  have HNO := hid (fun h => entS_no (x := x) h)
  obtain ⟨v1, b, v2, v3⟩ := e
  obtain ⟨h1, hb, h2, h3⟩ := h
  dsimp only at h1 hb h2 h3
  obtain ⟨a1, k1, rfl⟩ := seg_form h1
  obtain ⟨a2, k2, rfl⟩ := seg_form h2
  obtain ⟨a3, k3, rfl⟩ := seg_form h3
  clear h1 hb h2 h3 L sz hn
  generalize x.ops.length = n1 at *
  generalize x.cuts.length = n2 at *
  generalize x.own.length = n3 at *
  obtain ⟨ee, hee⟩ : ∃ ee, entE x = ee := ⟨_, rfl⟩
  rw [hee] at TE RE LI HNO
  clear hee
  generalize entS x = es at *
  have hlg : ¬ 20000 < s.size → lgAll s.data.toList = lgAcc [] 0 (lgRd (s.size + 1) s.data.toList) := fun h => by
    have := lgAll_acc (l := s.data.toList) (by rw [toL_len]; exact h)
    rwa [toL_len] at this
  have hlb : 20000 < s.size → lgAll s.data.toList = (2, [], 0) := fun h => by rw [lgAll, if_pos (by rw [toL_len]; exact h)]
  obtain ⟨R, hR⟩ : ∃ R, lgAll s.data.toList = R := ⟨_, rfl⟩
  rw [hR] at TL hlg hlb
  obtain ⟨g, Y, kk⟩ := R
  have HLGA := hid hlg
  have HLB := hid hlb
  have HTL := hid (fun (u : Nat) => ext_from s u)
  have HLN := hid (toL_len s)
  obtain ⟨q0, hq0⟩ : ∃ q, lnRd s.data.toList = q := ⟨_, rfl⟩
  rw [hq0] at TR
  have RL0 := RL.out s hs
  unfold RdR at RL0
  rw [hq0] at RL0
  have RL0 := hid RL0
  obtain ⟨er, xr, nr⟩ := q0
  clear hlg hlb hR hq0
  generalize sbL s.data.toList = sv at *
  generalize s.data.toList = l at *
  have HBX := hid (heap_alloc_new w (.cells #[.slice a1 n1 k1, .bool b, .slice a2 n2 k2, .slice a3 n3 k3] 45))
  have HE0 := hid ((Ext.refl w).alloc (.cells #[.slice a1 n1 k1, .bool b, .slice a2 n2 k2, .slice a3 n3 k3] 45))
  show Calls _ _ #[.agg #[.slice a1 n1 k1, .bool b, .slice a2 n2 k2, .slice a3 n3 k3], _] _ _
  go_enter Tryz.func4, Tryz.ntmps4
  have c2 := blk4 HBX.out
  go_wp2_with fail
  refine (TE.out _ HE0.out).mono ?_
  clear TE
  rintro r w1 ⟨rfl, E1⟩
  have HE1 := hid (HE0.out.trans E1)
  have HB1 := hid (E1.heap HBX.out)
  clear c2 E1 HE0 HBX
  go_wp2_with fail
  refine (TR.out _ HE1.out).mono ?_
  clear TR
  rintro r w2 ⟨⟨y1, yb, y2, y3⟩, hr, hst, -, E2⟩
  have hr : r = .returned (.tuple #[.agg #[y1, .bool yb, y2, y3], .int .i64 (nr : Int), .int .i64 er]) := hr
  subst hr
  have hst2 := hst
  obtain ⟨o1, -, o3, o4⟩ := hst
  dsimp only at o1 o3 o4
  obtain ⟨p1, r1, rfl⟩ := own_form o1
  obtain ⟨p2, r2, rfl⟩ := own_form o3
  obtain ⟨p3, r3, rfl⟩ := own_form o4
  have HST := hid hst2.seg
  have E2' := E2.alloc (.cells #[.slice p1 xr.ops.length r1, .bool yb, .slice p2 xr.cuts.length r2, .slice p3 xr.own.length r3] 45)
  have HB7 := hid (heap_alloc_new w2 (.cells #[.slice p1 xr.ops.length r1, .bool yb, .slice p2 xr.cuts.length r2, .slice p3 xr.own.length r3] 45))
  have HA2 := hid ((Ext.refl w2).alloc (.cells #[.slice p1 xr.ops.length r1, .bool yb, .slice p2 xr.cuts.length r2, .slice p3 xr.own.length r3] 45))
  have HE2 := hid (HE1.out.trans E2')
  have HB2 := hid (E2'.heap HB1.out)
  clear o1 o3 o4 hst2 E2 E2' HE1 HB1
  go_wp2_with fail
  refine (TL.out _ HE2.out).mono ?_
  clear TL
  rintro r w3 ⟨vl, rfl, hlog⟩
  have E3 := hlog.E
  have HSL := hid hlog.seg
  obtain ⟨al, kl, rfl⟩ := hlog.form
  have HB73 := hid (E3.heap HB7.out)
  have HA3 := hid (HA2.out.trans E3)
  have HE3 := hid (HE2.out.trans E3)
  have HB3 := hid (E3.heap HB2.out)
  clear hlog E3 HE2 HB2 HB7 HA2
  go_wp2_with fail
  refine (TS.out _).mono ?_
  clear TS
  rintro r w4 ⟨rfl, rfl⟩
  go_wp2_with fail
  refine (RS.out _).mono ?_
  clear RS
  rintro r w5 ⟨rfl, rfl⟩
  go_wp2_with fail
  refine (TB.out _).mono ?_
  clear TB
  rintro r w6 ⟨rfl, rfl⟩
  obtain ⟨w3, rfl⟩ : ∃ w3 : World, w3 = w6 := ⟨_, rfl⟩
  have c2 := blk4 HB3.out
  go_wp2_with fail
  refine (RE.out _ HE3.out).mono ?_
  clear RE
  rintro r w4 ⟨rfl, E4⟩
  have HE4 := hid (HE3.out.trans E4)
  have HE34 := hid E4
  have HB4 := hid (E4.heap HB3.out)
  clear c2 E4 HE3 HB3
  go_upto_if 51 with fail
  go_cut [] from 51 to 66 (fun wx => Ext w4 wx)
  case first =>
    have c2 := blk4 HB4.out
    by_cases h0 : ee = 0
    · have q0 : (ee != 0) = false := by simp [h0]
      have hT := hid (LI.out h0 w4 HE4.out)
      have hT : Hid (Calls _ _ #[.agg #[.slice a1 n1 k1, .bool b, .slice a2 n2 k2, .slice a3 n3 k3]] _ _) := hT
      clear h0
      go_wp2_with fail
      refine (hT.out).mono ?_
      rintro r w8 ⟨rfl, E8⟩
      go_wp2
      go_meet
      exact E8
    · have q0 : (ee != 0) = true := by simp [h0]
      obtain rfl := HNO.out h0
      clear h0
      go_wp2
      go_meet
      exact Ext.refl _
  case rest =>
    obtain ⟨w5, rfl⟩ : ∃ w5 : World, w5 = wc := ⟨_, rfl⟩
    have HE5 := hid (HE4.out.trans hcut)
    have HE35 := hid (HE34.out.trans hcut)
    clear hcut HE4 HE34 HB4
    go_wp2_with fail
    refine (RL0.out _ HE5.out).mono ?_
    clear RL0
    rintro r w6 ⟨⟨z1, zb, z2, z3⟩, hr, hst, E6⟩
    have hr : r = .returned (.tuple #[.agg #[z1, .bool zb, z2, z3], .int .i64 (nr : Int), .int .i64 er]) := hr
    subst hr
    have hst2 := hst
    obtain ⟨o1, -, o3, o4⟩ := hst
    dsimp only at o1 o3 o4
    obtain ⟨f1, g1, rfl⟩ := own_form o1
    obtain ⟨f2, g2, rfl⟩ := own_form o3
    obtain ⟨f3, g3, rfl⟩ := own_form o4
    have HSZ := hid hst2.seg
    have E6' := E6.alloc (.cells #[.slice f1 xr.ops.length g1, .bool zb, .slice f2 xr.cuts.length g2, .slice f3 xr.own.length g3] 45)
    have c14 := blk4 (heap_alloc_new w6 (.cells #[.slice f1 xr.ops.length g1, .bool zb, .slice f2 xr.cuts.length g2, .slice f3 xr.own.length g3] 45))
    have c7 := blk4 ((HE35.out.trans E6').heap HB73.out)
    have SE0 := sameEntry_any (.slice p1 xr.ops.length r1, yb, .slice p2 xr.cuts.length r2, .slice p3 xr.own.length r3) (.slice f1 xr.ops.length g1, zb, .slice f2 xr.cuts.length g2, .slice f3 xr.own.length g3) xr xr
      (w6.alloc (.cells #[.slice f1 xr.ops.length g1, .bool zb, .slice f2 xr.cuts.length g2, .slice f3 xr.own.length g3] 45)) (HST.out.ext (HA3.out.trans (HE35.out.trans E6'))) (HSZ.out.ext ((Ext.refl w6).alloc _))
    rw [sameEB_refl] at SE0
    have SE : Hid (Calls _ _ #[.agg #[.slice p1 xr.ops.length r1, .bool yb, .slice p2 xr.cuts.length r2, .slice p3 xr.own.length r3], .agg #[.slice f1 xr.ops.length g1, .bool zb, .slice f2 xr.cuts.length g2, .slice f3 xr.own.length g3]] _ _) := hid SE0
    have HE6 := hid (HE5.out.trans E6')
    have HE36 := hid (HE35.out.trans E6')
    clear o1 o3 o4 hst2 E6 E6' SE0 HE5 HE35 HSZ HST HA3 HB73
    go_wp2_with fail
    refine (SE.out).mono ?_
    clear SE
    rintro r w7 ⟨rfl, E7⟩
    have HE7 := hid (HE6.out.trans E7)
    have HE37 := hid (HE36.out.trans E7)
    clear E7 c14 c7 HE6 HE36
    by_cases hbig : 20000 < s.size
    · have hb := HLB.out hbig
      injection hb with hg hb
      injection hb with hY hk
      subst hg; subst hY; subst hk
      have q : (20000 : Int) < (s.size : Int) := by omega
      clear hbig
      go_wp2
      go_ret
      exact ⟨by first | rfl | simp, HE7.out⟩
    · have hacc := HLGA.out hbig
      have HACC := hid hacc
      have q : ¬ (20000 : Int) < (s.size : Int) := by omega
      have hsz : s.size ≤ 20000 := by omega
      clear hbig hacc
      go_wp2_with fail
      go_loopw [17, 18, 19, 20, 21] (fun ov uv _ _ _ wr => ∃ (u f : Nat) (X : List Ent), u ≤ s.size ∧ s.size - u < f ∧ X.length ≤ u ∧ uv = .int .i64 u ∧ LogB w7.heap.size w7 X ov wr ∧ (g, Y, kk) = lgAcc X u (lgRd f (l.drop u))) (fun _ uv _ _ _ _ => s.size - (intOf uv).toNat)
      case atStart => exact ⟨0, s.size + 1, [], Nat.zero_le _, by omega, by simp, rfl, ⟨[], EntsSt.nil _, World.ownsRow_nil _ _ _ _, Ext.refl _⟩, HACC.out⟩
      case round =>
        obtain ⟨wq, rfl⟩ : ∃ wq : World, wq = wr := ⟨_, rfl⟩
        obtain ⟨u, f, X, hu, hf, hX, rfl, hlog, hr⟩ := hrel
        obtain ⟨av, kv, rfl⟩ := hlog.form
        have RE := RL.out (s.extract u s.size) (by simp; omega) wq (HE7.out.trans hlog.E)
        unfold RdR at RE
        rw [HTL.out u] at RE
        have RE := hid RE
        obtain ⟨f, rfl⟩ : ∃ k, f = k + 1 := ⟨f - 1, by omega⟩
        have hdl : (l.drop u).length = s.size - u := by rw [List.length_drop, HLN.out]
        have HDR := hid (fun n => List.drop_drop (l := l) (i := n) (j := u))
        generalize l.drop u = m at *
        by_cases h0 : (lnRd m).1 = 0
        · have hln := lnRd_len h0
          have hne : m ≠ [] := fun e => by rw [e] at hln; simp at hln; omega
          rw [lgAcc_step hne h0] at hr
          obtain ⟨n, hn⟩ : ∃ n, (lnRd m).2.2 = n := ⟨_, rfl⟩
          obtain ⟨y, hx⟩ : ∃ x, (lnRd m).2.1 = x := ⟨_, rfl⟩
          rw [h0, hn, hx] at RE
          rw [hn] at hln
          rw [hn, hx, HDR.out] at hr
          have HR := hid hr
          have HLG := hid hlog
          clear hr hn hx h0 hne
          go_wp2_with fail
          refine (RE.out).mono ?_
          clear RE
          rintro r w1 ⟨⟨y1, yb, y2, y3⟩, hr, hst, E1⟩
          have hr : r = .returned (.tuple #[.agg #[y1, .bool yb, y2, y3], .int .i64 (n : Int), .int .i64 0]) := hr
          subst hr
          have hst2 := hst.lower HLG.out.E.size'
          obtain ⟨o1, -, o3, o4⟩ := hst
          dsimp only at o1 o3 o4
          obtain ⟨q1, r1, rfl⟩ := own_form o1
          obtain ⟨q2, r2, rfl⟩ := own_form o3
          obtain ⟨q3, r3, rfl⟩ := own_form o4
          have hEn := hst2.ext ((Ext.refl w1).alloc (.cells #[.slice q1 y.ops.length r1, .bool yb, .slice q2 y.cuts.length r2, .slice q3 y.own.length r3] 45))
          have HEN := hid hEn
          obtain ⟨es, t1, t2, t3⟩ := HLG.out.ext (E1.alloc (.cells #[.slice q1 y.ops.length r1, .bool yb, .slice q2 y.cuts.length r2, .slice q3 y.own.length r3] 45))
          have G1 := hid t1
          have G3 := hid t3
          have s1 : Seg ((w1.alloc (.cells #[.slice q1 y.ops.length r1, .bool yb, .slice q2 y.cuts.length r2, .slice q3 y.own.length r3] 45)).alloc (.cells #[.slice q1 y.ops.length r1, .bool yb, .slice q2 y.cuts.length r2, .slice q3 y.own.length r3] 45)) (.slice (some ⟨(w1.alloc (.cells #[.slice q1 y.ops.length r1, .bool yb, .slice q2 y.cuts.length r2, .slice q3 y.own.length r3] 45)).heap.size, 0, none⟩) 1 1) 4 1 (evC (.slice q1 y.ops.length r1, yb, .slice q2 y.cuts.length r2, .slice q3 y.own.length r3)) := seg_blk (heap_alloc_new _ _) rfl (Nat.le_refl _) (by simp [maxLen])
          have s2 := t2.alloc (.cells #[.slice q1 y.ops.length r1, .bool yb, .slice q2 y.cuts.length r2, .slice q3 y.own.length r3] 45)
          have s3 : w7.heap.size ≤ ((w1.alloc (.cells #[.slice q1 y.ops.length r1, .bool yb, .slice q2 y.cuts.length r2, .slice q3 y.own.length r3] 45)).alloc (.cells #[.slice q1 y.ops.length r1, .bool yb, .slice q2 y.cuts.length r2, .slice q3 y.own.length r3] 45)).heap.size := by have := t3.size'; simp at this ⊢; omega
          rw [show (w1.alloc (.cells #[.slice q1 y.ops.length r1, .bool yb, .slice q2 y.cuts.length r2, .slice q3 y.own.length r3] 45)).heap.size = w1.heap.size + 1 by simp] at s1
          have hone := hEn.one
          clear t1 t2 t3 hst2 hEn o1 o3 o4 hlog
          go_wp2_with (first | (at_builtin; refine (wpList_app rfl _ _ 49 rfl w7.heap.size 45 (.agg #[.slice none 0 0, .bool false, .slice none 0 0, .slice none 0 0]) 4 80 Tryz.underlying49 infoEn rfl (by decide) _ X.length (cEn es) rfl s2 _ 1 _ rfl s1 hone (by omega) (by unfold maxLen; omega) s3 ?_); intro v' w9 ho' hg; obtain ⟨av9, kv9, rfl⟩ := own_form ho'))
          have HN := hid (log_step (G1.out.ext ((Ext.refl _).alloc _)) s2 (G3.out.alloc _) (HEN.out.ext ((Ext.refl _).alloc _)) ho' hg)
          go_roundw
          case rel => exact ⟨u + n, f, X ++ [y], by omega, by omega, by simp; omega, by go_num, HN.out, HR.out⟩
          case measure => simp [intOf] <;> omega
        · have HLG := hid hlog
          by_cases h7 : (lnRd m).1 = 7
          · rw [lgRd_end (.inr h7), lgAcc_end] at hr
            rw [h7] at RE
            generalize (lnRd m).2.2 = n at RE
            generalize (lnRd m).2.1 = y at RE
            injection hr with hg hr
            injection hr with hY hk
            subst hg; subst hY; subst hk
            have EQ := hid (fun w' (E : Ext wq w') => equalE_any (.slice al Y.length kl) (.slice av Y.length kv) Y Y w' (HSL.out.ext (HE37.out.trans (HLG.out.E.trans E))) ((LogR.seg HLG.out).ext E))
            rw [eqEs_refl] at EQ
            clear h0 h7 hlog
            go_wp2_with fail
            refine (RE.out).mono ?_
            clear RE
            rintro r w1 ⟨⟨y1, yb, y2, y3⟩, hr, hst, E1⟩
            have hr : r = .returned (.tuple #[.agg #[y1, .bool yb, y2, y3], .int .i64 (n : Int), .int .i64 7]) := hr
            subst hr
            obtain ⟨o1, -, o3, o4⟩ := hst
            dsimp only at o1 o3 o4
            obtain ⟨q1, r1, rfl⟩ := own_form o1
            obtain ⟨q2, r2, rfl⟩ := own_form o3
            obtain ⟨q3, r3, rfl⟩ := own_form o4
            clear o1 o3 o4
            have HX1 := hid (E1.alloc (.cells #[.slice q1 y.ops.length r1, .bool yb, .slice q2 y.cuts.length r2, .slice q3 y.own.length r3] 45))
            clear E1
            go_wp2_with fail
            refine (EQ.out _ HX1.out).mono ?_
            rintro r w9 ⟨rfl, E9⟩
            go_wp2
            go_ret
            exact ⟨by first | rfl | simp, HE7.out.trans (HLG.out.E.trans (HX1.out.trans E9))⟩
          · have hne : m ≠ [] := fun e => h7 (by rw [e]; rfl)
            rw [lgRd_bad hne h7 h0, lgAcc_bad X u h0] at hr
            generalize (lnRd m).2.2 = n at RE
            generalize (lnRd m).2.1 = y at RE
            generalize (lnRd m).1 = eq at *
            injection hr with hg hr
            injection hr with hY hk
            subst hg; subst hY; subst hk
            clear hne hlog
            have qe7 : (g == 7) = false := by simp [h7]
            have qe0 : (g != 0) = true := by simp [h0]
            clear h7 h0
            go_wp2_with fail
            refine (RE.out).mono ?_
            clear RE
            rintro r w1 ⟨⟨y1, yb, y2, y3⟩, hr, hst, E1⟩
            have hr : r = .returned (.tuple #[.agg #[y1, .bool yb, y2, y3], .int .i64 (n : Int), .int .i64 g]) := hr
            subst hr
            obtain ⟨o1, -, o3, o4⟩ := hst
            dsimp only at o1 o3 o4
            obtain ⟨q1, r1, rfl⟩ := own_form o1
            obtain ⟨q2, r2, rfl⟩ := own_form o3
            obtain ⟨q3, r3, rfl⟩ := own_form o4
            clear o1 o3 o4
            have HX1 := hid (E1.alloc (.cells #[.slice q1 y.ops.length r1, .bool yb, .slice q2 y.cuts.length r2, .slice q3 y.own.length r3] 45))
            clear E1
            go_wp2
            go_ret
            exact ⟨by first | rfl | simp, HE7.out.trans (HLG.out.E.trans HX1.out)⟩
end Go.Proofs.YtnepdfpooobmcaaGreatDoor
