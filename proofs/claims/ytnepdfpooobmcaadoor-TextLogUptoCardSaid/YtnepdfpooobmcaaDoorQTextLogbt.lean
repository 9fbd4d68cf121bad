/- Contracts and lemmas for the proof of TextLog; each theorem states its own conditions. -/
import Derived.Test.YtnepdfpooobmcaaDoorQTextLogbs
set_option linter.unusedVariables false
set_option linter.unusedSimpArgs false
/- Contracts and lemmas for the proofs of this seat; each theorem states its own conditions. -/
namespace Go.Proofs.YtnepdfpooobmcaaDoor
open Go.RowKit
/-! text.ReadEntry: its contract -/
theorem ext_mid {s : ByteArray} {x m y : List UInt8} (e : s.data.toList = x ++ m ++ y) {i j : Nat} (hi : i = x.length) (hj : j = x.length + m.length) : (s.extract i j).data.toList = m := by
  subst hi; subst hj
  have : (s.extract x.length (x.length + m.length)).data.toList = (s.data.toList.take (x.length + m.length)).drop x.length := by
    rw [ByteArray.data_extract, Array.toList_extract, List.extract_eq_take_drop, List.take_drop]
    congr 2
    omega
  rw [this, e, List.append_assoc, ← List.append_assoc, List.take_left' (by simp), List.drop_left]
theorem hasP (b : List UInt8) : mapW.isPrefixOf b = true ∨ mapW.isPrefixOf b = false := by cases mapW.isPrefixOf b <;> simp
theorem trdentry_any (s : ByteArray) (w : World) (L : LaidT w) (hs : s.size ≤ 4000000000) :
    Calls Tryd.prog 19 #[.string s] w fun e w' => ∃ e4 : EV, e = .returned (.tuple #[evV e4, .int .i64 (lnRd s.data.toList).2.2, .int .i64 (lnRd s.data.toList).1]) ∧ EntSt w.heap.size w' e4 (lnRd s.data.toList).2.1 ∧ ((lnRd s.data.toList).1 ≠ 0 → e4 = eZ) ∧ Ext w w' := by
  cases hF : cutF 10 s.data.toList with
  | none =>
    rw [show lnRd s.data.toList = (7, entN, 0) by rw [lnRd, hF]]
    exact trd_1 s w L hs (ixb_no (cutF_none hF))
  | some p =>
    obtain ⟨line, more⟩ := p
    obtain ⟨e1, h1⟩ := cutF_some hF
    rw [show lnRd s.data.toList = lnRd1 line by rw [lnRd, hF]]
    have hx : Lib.indexByte s.data.toList 10 = (line.length : Int) := by rw [e1]; exact ixb_at h1
    have hsz : s.size = line.length + (more.length + 1) := by rw [← toL_len, e1]; simp
    have ha : line.length < s.size := by omega
    have hl : (s.extract 0 line.length).data.toList = line := ext_mid (x := []) (m := line) (y := 10 :: more) (by simpa using e1) rfl (by simp)
    cases hZ : cutZ 32 line with
    | none =>
      rw [show lnRd1 line = (9, entN, 0) by rw [lnRd1, hZ]]
      exact trd_2 s w L hs _ ha hx (lxb_no (by rw [hl]; exact cutZ_none hZ))
    | some q =>
      obtain ⟨b, n⟩ := q
      obtain ⟨e2, h2⟩ := cutZ_some hZ
      have hy : Lib.lastIndexByte (s.extract 0 line.length) 32 = (b.length : Int) := lxb_at (by rw [hl]; exact e2) h2
      have hk : b.length < line.length := by rw [e2]; simp
      have hb : (s.extract 0 b.length).data.toList = b := ext_mid (x := []) (m := b) (y := 32 :: n ++ 10 :: more) (by rw [e1, e2]; simp) rfl (by simp)
      have hn : (s.extract (b.length + 1) line.length).data.toList = n := ext_mid (x := b ++ [32]) (m := n) (y := 10 :: more) (by rw [e1, e2]; simp) (by simp) (by rw [e2]; simp; omega)
      have hbA : s.extract 0 b.length = bA b := bA_eq (by rw [hb, bA_toL])
      cases hN : numL n with
      | none =>
        rw [show lnRd1 line = (9, entN, 0) by simp only [lnRd1, hZ, hN]]
        exact trd_3 s w L hs _ ha hx _ hk hy (by rw [hn]; exact hN)
      | some v =>
        by_cases hv : v = (sbL b : Int)
        · have hv' : ¬ v ≠ (sbL b : Int) := fun h => h hv
          have hv2 : v = (sbL (s.extract 0 b.length).data.toList : Int) := by rw [hb]; exact hv
          have hN2 : numL (s.extract (b.length + 1) line.length).data.toList = some v := by rw [hn]; exact hN
          rcases hasP b with hp | hp
          · have hB : bodyRd b = ((mapRd (bA (b.drop 4))).1, ⟨[], true, (mapRd (bA (b.drop 4))).2.1, (mapRd (bA (b.drop 4))).2.2⟩) := if_pos hp
            by_cases he : (mapRd (bA (b.drop 4))).1 = 0
            · rw [show lnRd1 line = (0, (bodyRd b).2, line.length + 1) by simp only [lnRd1, hZ, hN]; rw [if_neg hv', if_pos (by rw [hB]; exact he)], hB]
              have := trd_7 s w L hs _ ha hx _ hk hy v hN2 hv2 (by rw [hb]; exact hp) (by rw [hb]; exact he)
              rw [hb] at this
              exact this
            · rw [show lnRd1 line = ((bodyRd b).1, entN, 0) by simp only [lnRd1, hZ, hN]; rw [if_neg hv', if_neg (by rw [hB]; exact he)], hB]
              have := trd_5 s w L hs _ ha hx _ hk hy v hN2 hv2 (by rw [hb]; exact hp) (by rw [hb]; exact he)
              rw [hb] at this
              exact this
          · have hB : bodyRd b = ((deedRd (bA b)).1, ⟨(deedRd (bA b)).2, false, [], []⟩) := if_neg (by rw [hp]; decide)
            by_cases he : (deedRd (bA b)).1 = 0
            · rw [show lnRd1 line = (0, (bodyRd b).2, line.length + 1) by simp only [lnRd1, hZ, hN]; rw [if_neg hv', if_pos (by rw [hB]; exact he)], hB]
              have := trd_8 s w L hs _ ha hx _ hk hy v hN2 hv2 (by rw [hb]; exact hp) (by rw [hbA]; exact he)
              rw [hbA] at this
              exact this
            · rw [show lnRd1 line = ((bodyRd b).1, entN, 0) by simp only [lnRd1, hZ, hN]; rw [if_neg hv', if_neg (by rw [hB]; exact he)], hB]
              have := trd_6 s w L hs _ ha hx _ hk hy v hN2 hv2 (by rw [hb]; exact hp) (by rw [hbA]; exact he)
              rw [hbA] at this
              exact this
        · rw [show lnRd1 line = (8, entN, 0) by simp only [lnRd1, hZ, hN]; rw [if_pos hv]]
          exact trd_4 s w L hs _ ha hx _ hk hy v (by rw [hn]; exact hN) (by rw [hb]; exact hv)
end Go.Proofs.YtnepdfpooobmcaaDoor
