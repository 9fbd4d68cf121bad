/- Contracts and lemmas for the proof of TopLog; each theorem states its own conditions. -/
import Derived.Test.YtddghaoejnbkaaaGreatDoorQTopLogbw
import Derived.Test.YtddghaoejnbkaaaGreatDoorQTopLogbg
set_option linter.unusedVariables false
set_option linter.unusedSimpArgs false
/- Contracts and lemmas for the proofs of this seat; each theorem states its own conditions. -/
namespace Go.Proofs.YtddghaoejnbkaaaGreatDoor
open Go.RowKit
/-! text.ReadEntry: its contract -/
theorem ext_mid {s : ByteArray} {x m y : List UInt8} (e : s.data.toList = x ++ m ++ y) {i j : Nat} (hi : i = x.length) (hj : j = x.length + m.length) : (s.extract i j).data.toList = m := by
  subst hi; subst hj
  have : (s.extract x.length (x.length + m.length)).data.toList = (s.data.toList.take (x.length + m.length)).drop x.length := by
    rw [ByteArray.data_extract, Array.toList_extract, List.extract_eq_take_drop, List.take_drop]
    congr 2
    omega
  rw [this, e, List.append_assoc, ← List.append_assoc, List.take_left' (by simp), List.drop_left]
theorem hasP (b : List UInt8) : mapW.isPrefixOf b = true ∨ mapW.isPrefixOf b = false := by cases mapW.isPrefixOf b <;> simp
theorem trdentry_any (s : ByteArray) (w : World) (L : LaidT w) (hs : s.size ≤ 4000000000) :
    Calls Tryz.prog 86 #[.string s] w fun e w' => ∃ e4 : EV, e = .returned (.tuple #[evV e4, .int .i64 (lnRd s.data.toList).2.2, .int .i64 (lnRd s.data.toList).1]) ∧ EntSt w.heap.size w' e4 (lnRd s.data.toList).2.1 ∧ ((lnRd s.data.toList).1 ≠ 0 → e4 = eZ) ∧ Ext w w' := by
  cases hF : cutF 10 s.data.toList with
  | none =>
    rw [show lnRd s.data.toList = (7, entN, 0) by rw [lnRd, hF]]
    exact trd_1 s w L hs (ixb_no (cutF_none hF))
  | some p =>
    obtain ⟨line, more⟩ := p
    obtain ⟨e1, h1⟩ := cutF_some hF
    rw [show lnRd s.data.toList = lnRd1 line by rw [lnRd, hF]]
    have hx : Lib.indexByte s.data.toList 10 = (line.length : Int) := by rw [e1]; exact ixb_at h1
    have hsz : s.size = line.length + (more.length + 1) := by rw [← toL_len, e1]; simp
    have ha : line.length < s.size := by omega
    have hl : (s.extract 0 line.length).data.toList = line := ext_mid (x := []) (m := line) (y := 10 :: more) (by simpa using e1) rfl (by simp)
    cases hZ : cutZ 32 line with
    | none =>
      rw [show lnRd1 line = (9, entN, 0) by rw [lnRd1, hZ]]
      exact trd_2 s w L hs _ ha hx (lxb_no (by rw [hl]; exact cutZ_none hZ))
    | some q =>
      obtain ⟨b, n⟩ := q
      obtain ⟨e2, h2⟩ := cutZ_some hZ
      have hy : Lib.lastIndexByte (s.extract 0 line.length) 32 = (b.length : Int) := lxb_at (by rw [hl]; exact e2) h2
      have hk : b.length < line.length := by rw [e2]; simp
      have hb : (s.extract 0 b.length).data.toList = b := ext_mid (x := []) (m := b) (y := 32 :: n ++ 10 :: more) (by rw [e1, e2]; simp) rfl (by simp)
      have hn : (s.extract (b.length + 1) line.length).data.toList = n := ext_mid (x := b ++ [32]) (m := n) (y := 10 :: more) (by rw [e1, e2]; simp) (by simp) (by rw [e2]; simp; omega)
      have hbA : s.extract 0 b.length = bA b := bA_eq (by rw [hb, bA_toL])
      cases hN : numL n with
      | none =>
        rw [show lnRd1 line = (9, entN, 0) by simp only [lnRd1, hZ, hN]]
        exact trd_3 s w L hs _ ha hx _ hk hy (by rw [hn]; exact hN)
      | some v =>
        by_cases hv : v = (sbL b : Int)
        · have hv' : ¬ v ≠ (sbL b : Int) := fun h => h hv
          have hv2 : v = (sbL (s.extract 0 b.length).data.toList : Int) := by rw [hb]; exact hv
          have hN2 : numL (s.extract (b.length + 1) line.length).data.toList = some v := by rw [hn]; exact hN
          rcases hasP b with hp | hp
          · have hB : bodyRd b = ((mapRd (bA (b.drop 4))).1, ⟨[], true, (mapRd (bA (b.drop 4))).2.1, (mapRd (bA (b.drop 4))).2.2⟩) := if_pos hp
            by_cases he : (mapRd (bA (b.drop 4))).1 = 0
            · rw [show lnRd1 line = (0, (bodyRd b).2, line.length + 1) by simp only [lnRd1, hZ, hN]; rw [if_neg hv', if_pos (by rw [hB]; exact he)], hB]
              have := trd_7 s w L hs _ ha hx _ hk hy v hN2 hv2 (by rw [hb]; exact hp) (by rw [hb]; exact he)
              rw [hb] at this
              exact this
            · rw [show lnRd1 line = ((bodyRd b).1, entN, 0) by simp only [lnRd1, hZ, hN]; rw [if_neg hv', if_neg (by rw [hB]; exact he)], hB]
              have := trd_5 s w L hs _ ha hx _ hk hy v hN2 hv2 (by rw [hb]; exact hp) (by rw [hb]; exact he)
              rw [hb] at this
              exact this
          · have hB : bodyRd b = ((deedRd (bA b)).1, ⟨(deedRd (bA b)).2, false, [], []⟩) := if_neg (by rw [hp]; decide)
            by_cases he : (deedRd (bA b)).1 = 0
            · rw [show lnRd1 line = (0, (bodyRd b).2, line.length + 1) by simp only [lnRd1, hZ, hN]; rw [if_neg hv', if_pos (by rw [hB]; exact he)], hB]
              have := trd_8 s w L hs _ ha hx _ hk hy v hN2 hv2 (by rw [hb]; exact hp) (by rw [hbA]; exact he)
              rw [hbA] at this
              exact this
            · rw [show lnRd1 line = ((bodyRd b).1, entN, 0) by simp only [lnRd1, hZ, hN]; rw [if_neg hv', if_neg (by rw [hB]; exact he)], hB]
              have := trd_6 s w L hs _ ha hx _ hk hy v hN2 hv2 (by rw [hb]; exact hp) (by rw [hbA]; exact he)
              rw [hbA] at this
              exact this
        · rw [show lnRd1 line = (8, entN, 0) by simp only [lnRd1, hZ, hN]; rw [if_pos hv]]
          exact trd_4 s w L hs _ ha hx _ hk hy v (by rw [hn]; exact hN) (by rw [hb]; exact hv)
end Go.Proofs.YtddghaoejnbkaaaGreatDoor

/- Contracts and lemmas for the proofs of this seat; each theorem states its own conditions. -/
namespace Go.Proofs.YtddghaoejnbkaaaGreatDoor
open Go.RowKit
/-! text.Log -/
theorem EntSt.lower {eB B : Nat} {w : World} {e : EV} {x : Ent} (h : EntSt B w e x) (hB : eB ≤ B) : EntSt eB w e x := ⟨own_base h.ops hB, h.im, own_base h.cuts hB, own_base h.own hB⟩
theorem lgAll_acc {l : List UInt8} (h : ¬ 20000 < l.length) : lgAll l = lgAcc [] 0 (lgRd (l.length + 1) l) := by
  unfold lgAll
  rw [if_neg h, lgAcc_nil _ (lgRd_err _ _)]
theorem lgAcc_end (X : List Ent) (u : Nat) : lgAcc X u (0, [], 0) = (0, X, u) := by simp [lgAcc]
theorem lgAcc_bad (X : List Ent) (u : Nat) {e : Int} (h : e ≠ 0) : lgAcc X u (e, [], 0) = (e, [], 0) := by simp [lgAcc, h]
set_option maxRecDepth 100000 in
set_option maxHeartbeats 4000000 in
theorem tlog_any (s : ByteArray) (w : World) (L : LaidT w) (hs : s.size ≤ 4000000000) :
    Calls Tryz.prog 15 #[.string s] w fun e w' => ∃ v', e = .returned (.tuple #[v', .int .i64 (lgAll s.data.toList).2.2, .int .i64 (lgAll s.data.toList).1]) ∧ LogR w (lgAll s.data.toList).2.1 v' w' := by
  by_cases hbig : 20000 < s.size
  · rw [show lgAll s.data.toList = (2, [], 0) by rw [lgAll, if_pos (by rw [toL_len]; exact hbig)]]
    have q : (20000 : Int) < (s.size : Int) := by omega
    clear hbig
    go_enter Tryz.func15, Tryz.ntmps15
    go_wp2
    exact bodyPost_ret (v := .tuple #[.slice none 0 0, .int .i64 0, .int .i64 2]) (by simp [results, Tryz.results15, go_sem]) rfl ⟨_, rfl, [], EntsSt.nil _, World.ownsRow_nil _ _ _ _, Ext.refl _⟩
  · have hacc := lgAll_acc (l := s.data.toList) (by rw [toL_len]; exact hbig)
    rw [toL_len] at hacc
    obtain ⟨R, hR⟩ : ∃ R, lgAll s.data.toList = R := ⟨_, rfl⟩
    rw [hR] at hacc ⊢
    have HACC := hid hacc
    have HL := hid L
    have q : ¬ (20000 : Int) < (s.size : Int) := by omega
    have hsz : s.size ≤ 20000 := by omega
    have HRE := hid (fun (u : Nat) w' (E : Ext w w') => trdentry_any (s.extract u s.size) w' (L.ext E) (by simp; omega))
    have HTL := hid (fun (u : Nat) => ext_from s u)
    have HLN := hid (toL_len s)
    clear hbig hR hacc L hs
    generalize s.data.toList = l at *
    go_enter Tryz.func15, Tryz.ntmps15
    go_wp2_with fail
    go_loopw [5, 6, 7, 8, 9] (fun ov uv _ _ _ wr => ∃ (u f : Nat) (X : List Ent), u ≤ s.size ∧ s.size - u < f ∧ X.length ≤ u ∧ uv = .int .i64 u ∧ LogB w.heap.size w X ov wr ∧ R = lgAcc X u (lgRd f (l.drop u))) (fun _ uv _ _ _ _ => s.size - (intOf uv).toNat)
    case atStart => exact ⟨0, s.size + 1, [], Nat.zero_le _, by omega, by simp, rfl, ⟨[], EntsSt.nil _, World.ownsRow_nil _ _ _ _, Ext.refl _⟩, HACC.out⟩
    case round =>
      obtain ⟨wq, rfl⟩ : ∃ wq : World, wq = wr := ⟨_, rfl⟩
      obtain ⟨u, f, X, hu, hf, hX, rfl, hlog, hr⟩ := hrel
      obtain ⟨av, kv, rfl⟩ := hlog.form
      by_cases hus : u < s.size
      · have RE := hid (HRE.out u wq hlog.E)
        rw [HTL.out u] at RE
        have hne : l.drop u ≠ [] := by
          intro e
          have := congrArg List.length e
          rw [List.length_drop, HLN.out] at this
          simp at this; omega
        obtain ⟨f, rfl⟩ : ∃ k, f = k + 1 := ⟨f - 1, by omega⟩
        have hdl : (l.drop u).length = s.size - u := by rw [List.length_drop, HLN.out]
        have HDR := hid (fun n => List.drop_drop (l := l) (i := n) (j := u))
        generalize l.drop u = m at *
        by_cases h0 : (lnRd m).1 = 0
        · have hln := lnRd_len h0
          rw [lgAcc_step hne h0] at hr
          obtain ⟨n, hn⟩ : ∃ n, (lnRd m).2.2 = n := ⟨_, rfl⟩
          obtain ⟨x, hx⟩ : ∃ x, (lnRd m).2.1 = x := ⟨_, rfl⟩
          rw [h0, hn, hx] at RE
          rw [hn] at hln
          rw [hn, hx, HDR.out] at hr
          have HR := hid hr
          have HLG := hid hlog
          clear hr hn hx h0 hne
          go_wp2_with fail
          refine (RE.out).mono ?_
          clear RE
          rintro r w1 ⟨⟨y1, yb, y2, y3⟩, hr, hst, -, E1⟩
          have hr : r = .returned (.tuple #[.agg #[y1, .bool yb, y2, y3], .int .i64 (n : Int), .int .i64 0]) := hr
          subst hr
          have hst2 := hst.lower HLG.out.E.size'
          obtain ⟨o1, -, o3, o4⟩ := hst
          dsimp only at o1 o3 o4
          obtain ⟨q1, r1, rfl⟩ := own_form o1
          obtain ⟨q2, r2, rfl⟩ := own_form o3
          obtain ⟨q3, r3, rfl⟩ := own_form o4
          have hEn := hst2.ext ((Ext.refl w1).alloc (.cells #[.slice q1 x.ops.length r1, .bool yb, .slice q2 x.cuts.length r2, .slice q3 x.own.length r3] 42))
          have HEN := hid hEn
          obtain ⟨es, g1, g2, g3⟩ := HLG.out.ext (E1.alloc (.cells #[.slice q1 x.ops.length r1, .bool yb, .slice q2 x.cuts.length r2, .slice q3 x.own.length r3] 42))
          have G1 := hid g1
          have G3 := hid g3
          have s1 : Seg ((w1.alloc (.cells #[.slice q1 x.ops.length r1, .bool yb, .slice q2 x.cuts.length r2, .slice q3 x.own.length r3] 42)).alloc (.cells #[.slice q1 x.ops.length r1, .bool yb, .slice q2 x.cuts.length r2, .slice q3 x.own.length r3] 42)) (.slice (some ⟨(w1.alloc (.cells #[.slice q1 x.ops.length r1, .bool yb, .slice q2 x.cuts.length r2, .slice q3 x.own.length r3] 42)).heap.size, 0, none⟩) 1 1) 4 1 (evC (.slice q1 x.ops.length r1, yb, .slice q2 x.cuts.length r2, .slice q3 x.own.length r3)) := seg_blk (heap_alloc_new _ _) rfl (Nat.le_refl _) (by simp [maxLen])
          have s2 := g2.alloc (.cells #[.slice q1 x.ops.length r1, .bool yb, .slice q2 x.cuts.length r2, .slice q3 x.own.length r3] 42)
          have s3 : w.heap.size ≤ ((w1.alloc (.cells #[.slice q1 x.ops.length r1, .bool yb, .slice q2 x.cuts.length r2, .slice q3 x.own.length r3] 42)).alloc (.cells #[.slice q1 x.ops.length r1, .bool yb, .slice q2 x.cuts.length r2, .slice q3 x.own.length r3] 42)).heap.size := by have := g3.size'; simp at this ⊢; omega
          rw [show (w1.alloc (.cells #[.slice q1 x.ops.length r1, .bool yb, .slice q2 x.cuts.length r2, .slice q3 x.own.length r3] 42)).heap.size = w1.heap.size + 1 by simp] at s1
          have hone := hEn.one
          clear g1 g2 g3 hst2 hEn o1 o3 o4 hlog
          go_wp2_with (first | (at_builtin; refine (wpList_app rfl _ _ 26 rfl w.heap.size 42 (.agg #[.slice none 0 0, .bool false, .slice none 0 0, .slice none 0 0]) 4 80 Tryz.underlying26 infoEn rfl (by decide) _ X.length (cEn es) rfl s2 _ 1 _ rfl s1 hone (by omega) (by unfold maxLen; omega) s3 ?_); intro v' w9 ho' hg; obtain ⟨av9, kv9, rfl⟩ := own_form ho'))
          have HN := hid (log_step (G1.out.ext ((Ext.refl _).alloc _)) s2 (G3.out.alloc _) (HEN.out.ext ((Ext.refl _).alloc _)) ho' hg)
          go_roundw
          case rel => exact ⟨u + n, f, X ++ [x], by omega, by omega, by simp; omega, by go_num, HN.out, HR.out⟩
          case measure => simp [intOf] <;> omega
        · have HLG := hid hlog
          by_cases h7 : (lnRd m).1 = 7
          · rw [lgRd_end (.inr h7), lgAcc_end] at hr
            rw [h7] at RE
            generalize (lnRd m).2.2 = n at RE
            generalize (lnRd m).2.1 = x at RE
            subst hr
            clear h0 h7 hne hlog
            go_wp2_with fail
            refine (RE.out).mono ?_
            clear RE
            rintro r w1 ⟨⟨y1, yb, y2, y3⟩, hr, hst, -, E1⟩
            have hr : r = .returned (.tuple #[.agg #[y1, .bool yb, y2, y3], .int .i64 (n : Int), .int .i64 7]) := hr
            subst hr
            obtain ⟨o1, -, o3, o4⟩ := hst
            dsimp only at o1 o3 o4
            obtain ⟨q1, r1, rfl⟩ := own_form o1
            obtain ⟨q2, r2, rfl⟩ := own_form o3
            obtain ⟨q3, r3, rfl⟩ := own_form o4
            clear o1 o3 o4
            go_wp2
            exact bodyPost_ret (v := .tuple #[.slice av X.length kv, .int .i64 u, .int .i64 0]) (by simp [results, Tryz.results15, go_sem]) rfl ⟨_, rfl, HLG.out.ext (E1.alloc _)⟩
          · rw [lgRd_bad hne h7 h0, lgAcc_bad X u h0] at hr
            generalize (lnRd m).2.2 = n at RE
            generalize (lnRd m).2.1 = x at RE
            generalize (lnRd m).1 = er at *
            subst hr
            clear hne hlog
            go_wp2_with fail
            refine (RE.out).mono ?_
            clear RE
            rintro r w1 ⟨⟨y1, yb, y2, y3⟩, hr, hst, -, E1⟩
            have hr : r = .returned (.tuple #[.agg #[y1, .bool yb, y2, y3], .int .i64 (n : Int), .int .i64 er]) := hr
            subst hr
            obtain ⟨o1, -, o3, o4⟩ := hst
            dsimp only at o1 o3 o4
            obtain ⟨q1, r1, rfl⟩ := own_form o1
            obtain ⟨q2, r2, rfl⟩ := own_form o3
            obtain ⟨q3, r3, rfl⟩ := own_form o4
            have qe7 : (er == 7) = false := by simp [h7]
            have qe0 : (er != 0) = true := by simp [h0]
            clear o1 o3 o4 h7 h0
            go_wp2
            exact bodyPost_ret (v := .tuple #[.slice none 0 0, .int .i64 0, .int .i64 er]) (by simp [results, Tryz.results15, go_sem]) rfl ⟨_, rfl, [], EntsSt.nil _, World.ownsRow_nil _ _ _ _, HLG.out.E.trans (E1.alloc _)⟩
      · obtain rfl : u = s.size := by omega
        obtain ⟨f, rfl⟩ : ∃ k, f = k + 1 := ⟨f - 1, by omega⟩
        have he : l.drop s.size = [] := by rw [List.drop_eq_nil_iff, HLN.out]; exact Nat.le_refl _
        rw [lgRd_end (.inl he), lgAcc_end] at hr
        subst hr
        have HLG := hid hlog
        clear he hlog
        go_wp2
        exact bodyPost_ret (v := .tuple #[.slice av X.length kv, .int .i64 s.size, .int .i64 0]) (by simp [results, Tryz.results15, go_sem]) rfl ⟨_, rfl, HLG.out⟩
end Go.Proofs.YtddghaoejnbkaaaGreatDoor
