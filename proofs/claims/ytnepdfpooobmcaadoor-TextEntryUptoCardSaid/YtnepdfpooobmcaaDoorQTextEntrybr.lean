/- Contracts and lemmas for the proof of TextEntry; each theorem states its own conditions. -/
import Derived.Test.YtnepdfpooobmcaaDoorQTextEntrybd
import Derived.Test.YtnepdfpooobmcaaDoorQTextEntryan
set_option linter.unusedVariables false
set_option linter.unusedSimpArgs false
/- Contracts and lemmas for the proofs of this seat; each theorem states its own conditions. -/
namespace Go.Proofs.YtnepdfpooobmcaaDoor
open Go.RowKit
/-! roref.Bare, roref.SameDeed -/
theorem bare_take {d : Ops} {k : Nat} (hk : k < d.length) : (d.take (k + 1)).map bareO = (d.take k).map bareO ++ [bareO d[k]] := by
  rw [List.take_succ_eq_append_getElem hk, List.map_append]; rfl
set_option maxRecDepth 100000 in
set_option maxHeartbeats 2000000 in
theorem sameDeedT_any (v u : Value) (d d' : Ops) (w : World) (h : Seg w v 4 d.length (cO d)) (h' : Seg w u 4 d'.length (cO d')) :
    Calls Tryd.prog 14 #[.agg #[v], .agg #[u]] w fun e w' => e = .returned (.bool (decide (d = d'))) ∧ Ext w w' := by
  have E2 := ((Ext.refl w).alloc (.cells #[v] 35)).alloc (.cells #[u] 35)
  have b0 := (blk1 (heap_1 w (.cells #[v] 35) (.cells #[u] 35))).1
  have b1 := (blk1 (heap_2 w (.cells #[v] 35) (.cells #[u] 35))).1
  have Q := hid (equal_Op v u d d' _ (h.ext E2) (h'.ext E2))
  go_enter Tryd.func14, Tryd.ntmps14
  go_wp2_with fail
  refine (Q.out).mono ?_
  rintro e w1 ⟨rfl, n, rfl⟩
  go_wp2
  go_ret
  exact ⟨rfl, E2.drewN n⟩
set_option maxRecDepth 10000 in
set_option maxHeartbeats 2000000 in
theorem tbare_any (v : Value) (d : Ops) (w : World) (hv : Seg w v 4 d.length (cO d)) (hl : d.length ≤ 1000000000) :
    Calls Tryd.prog 15 #[.agg #[v]] w fun e w' => ∃ v', e = .returned (.agg #[v']) ∧ w'.ownsRow w.heap.size 38 4 v' d.length (cO (d.map bareO)) ∧ Ext w w' := by
  have E0 := (((Ext.refl w).alloc (.cells #[v] 35)).alloc (.cells #[.slice none 0 0] 35)).alloc (.cells #[.slice none 0 0] 35)
  have b1 := (((Ext.refl (w.alloc (.cells #[v] 35))).alloc (.cells #[.slice none 0 0] 35)).alloc (.cells #[.slice none 0 0] 35)).heap (heap_alloc_new w (.cells #[v] 35))
  have b2 := heap_1 (w.alloc (.cells #[v] 35)) (.cells #[.slice none 0 0] 35) (.cells #[.slice none 0 0] 35)
  have b3 := heap_2 (w.alloc (.cells #[v] 35)) (.cells #[.slice none 0 0] 35) (.cells #[.slice none 0 0] 35)
  simp only [World.size_alloc] at b2 b3
  obtain ⟨av, kv, rfl⟩ := seg_form hv
  obtain ⟨w1, hw1⟩ : ∃ w1, ((w.alloc (.cells #[.slice av d.length kv] 35)).alloc (.cells #[.slice none 0 0] 35)).alloc (.cells #[.slice none 0 0] 35) = w1 := ⟨_, rfl⟩
  have hsz : w1.heap.size = w.heap.size + 3 := by rw [← hw1]; simp
  rw [hw1] at E0 b1 b2 b3
  have c1 := blk1 b1
  have HI := hid (show RdD w1 w1 (w.heap.size + 1 + 1) (.slice none 0 0) [] from ⟨by omega, b3, World.ownsRow_nil _ _ _ _, World.grownBy.refl _ _⟩)
  have HE1 := hid E0
  have HSG := hid hv
  have HB2 := hid b2
  have HSZ := hid hsz
  clear E0 b1 b2 b3 hv hsz
  go_enter Tryd.func15, Tryd.ntmps15
  go_wp2_with fail
  go_loopw [9] (fun iv wr => ∃ (k : Nat) (dv : Value), k ≤ d.length ∧ iv = .int .i64 k ∧ Hid (RdD w1 wr (w.heap.size + 1 + 1) dv ((d.take k).map bareO))) (fun iv _ => d.length - (intOf iv).toNat)
  case atStart => exact ⟨0, _, Nat.zero_le _, rfl, HI⟩
  case round =>
    obtain ⟨wo, rfl⟩ : ∃ wo : World, wo = wr := ⟨_, rfl⟩
    obtain ⟨k, dv, hk, rfl, hI⟩ := hrel
    clear HI
    obtain ⟨B, hB⟩ : ∃ B, (d.take k).map bareO = B := ⟨_, rfl⟩
    have HLK := hid (show B.length = k by rw [← hB, List.length_map, List.length_take]; omega)
    rw [hB] at hI
    have HBB := hid hB
    clear hB
    obtain ⟨ac, kc, e1⟩ := own_form hI.out.ops
    subst e1
    by_cases hkl : k < d.length
    · obtain ⟨bp, op, rfl, _, p1, p2, hcp⟩ := seg_cells HSG.out (by omega)
      have hcw : ∀ j u, (cO d)[j]? = some u → wo.cell? ⟨bp, op + j, none⟩ = some u := fun j u hj => by
        have h0 := hcp j u hj
        have hb : bp < w.heap.size := World.block_lt_of_cell? _ _ h0
        have h1 := HE1.out.cell h0
        rw [World.cell?_of_block (hI.out.gb.block bp (by have := HSZ.out; omega) (fun e => by injection e with e; omega))]
        exact h1
      obtain ⟨y0, y1, y2, y3⟩ := seg_op hcw (k := k) hkl
      have hbt := bare_take hkl
      rw [HBB.out] at hbt
      generalize d[k] = o at y0 y1 y2 y3 hbt
      clear hcw hcp
      by_cases h3 : o.kind = 3
      · have q3 : (o.kind == 3) = true := by simp [h3]
        have H3 := hid h3
        clear h3
        have hbo : bareO o = ⟨o.kind, o.key, o.from_, 0⟩ := by unfold bareO; rw [if_pos H3.out]
        rw [hbo] at hbt
        have HBT := hid hbt
        have bo := blk4 (heap_alloc_new wo (.cells #[.int .i64 o.kind, .string o.key, .string o.from_, .int .i64 0] 38))
        have HI7 := hid (hI.out.ext ((Ext.refl wo).alloc (.cells #[.int .i64 o.kind, .string o.key, .string o.from_, .int .i64 0] 38)))
        have d0 := blk1 HI7.out.box
        have p1' : Seg ((wo.alloc (.cells #[.int .i64 o.kind, .string o.key, .string o.from_, .int .i64 0] 38)).alloc (.cells #[.int .i64 o.kind, .string o.key, .string o.from_, .int .i64 0] 38)) (.slice (some ⟨wo.heap.size + 1, 0, none⟩) 1 1) 4 1 [.int .i64 o.kind, .string o.key, .string o.from_, .int .i64 0] := by
          have hx := heap_alloc_new (wo.alloc (.cells #[.int .i64 o.kind, .string o.key, .string o.from_, .int .i64 0] 38)) (.cells #[.int .i64 o.kind, .string o.key, .string o.from_, .int .i64 0] 38)
          simp only [World.size_alloc] at hx
          exact seg_blk (xs := [.int .i64 o.kind, .string o.key, .string o.from_, .int .i64 0]) (n := 1) (sz := 4) (c := 1) hx rfl (Nat.le_refl _) (by decide)
        have HIA := hid (HI7.out.ext ((Ext.refl (wo.alloc (.cells #[.int .i64 o.kind, .string o.key, .string o.from_, .int .i64 0] 38))).alloc (.cells #[.int .i64 o.kind, .string o.key, .string o.from_, .int .i64 0] 38)))
        have hcu := HIA.out.ops
        have hsz2 : w1.heap.size ≤ ((wo.alloc (.cells #[.int .i64 o.kind, .string o.key, .string o.from_, .int .i64 0] 38)).alloc (.cells #[.int .i64 o.kind, .string o.key, .string o.from_, .int .i64 0] 38)).heap.size := by have := hI.out.gb.size; simp; omega
        clear hbt hbo
        go_wp2_with (first | (at_builtin; refine (wpList_app rfl _ _ 33 rfl w1.heap.size 38 (.agg #[.int .i64 0, .string ⟨#[]⟩, .string ⟨#[]⟩, .int .i64 0]) 4 48 Tryd.underlying33 infoOpY rfl (by decide) (.slice ac B.length kc) B.length (cO B) rfl hcu _ 1 [.int .i64 o.kind, .string o.key, .string o.from_, .int .i64 0] rfl p1' (fun u hu => by simp only [List.mem_cons, List.not_mem_nil, or_false] at hu; rcases hu with rfl | rfl | rfl | rfl <;> rfl) (by have := HLK.out; omega) (by unfold maxLen; have := HLK.out; omega) hsz2 ?_); intro v' w9 ho' hg; obtain ⟨hbx, HN⟩ := HIA.out.more (o := ⟨o.kind, o.key, o.from_, 0⟩) ho' hg; have d9 := blk1 hbx; obtain ⟨a9, k9, e9⟩ := own_form ho'; subst e9))
        go_roundw
        case rel => exact ⟨k + 1, _, by omega, by go_num, hid (by rw [HBT.out]; exact HN)⟩
        case measure => simp [intOf] <;> omega
      · have q3 : (o.kind == 3) = false := by simp [h3]
        have H3 := hid h3
        clear h3
        by_cases h5 : o.kind = 5
        · have q5 : (o.kind == 5) = true := by simp [h5]
          have H5 := hid h5
          clear h5
          have hbo : bareO o = ⟨o.kind, o.key, o.from_, o.n⟩ := by unfold bareO; rw [if_neg H3.out, if_pos H5.out]
          rw [hbo] at hbt
          have HBT := hid hbt
          have bo := blk4 (heap_alloc_new wo (.cells #[.int .i64 o.kind, .string o.key, .string o.from_, .int .i64 o.n] 38))
          have HI7 := hid (hI.out.ext ((Ext.refl wo).alloc (.cells #[.int .i64 o.kind, .string o.key, .string o.from_, .int .i64 o.n] 38)))
          have d0 := blk1 HI7.out.box
          have p1' : Seg ((wo.alloc (.cells #[.int .i64 o.kind, .string o.key, .string o.from_, .int .i64 o.n] 38)).alloc (.cells #[.int .i64 o.kind, .string o.key, .string o.from_, .int .i64 o.n] 38)) (.slice (some ⟨wo.heap.size + 1, 0, none⟩) 1 1) 4 1 [.int .i64 o.kind, .string o.key, .string o.from_, .int .i64 o.n] := by
            have hx := heap_alloc_new (wo.alloc (.cells #[.int .i64 o.kind, .string o.key, .string o.from_, .int .i64 o.n] 38)) (.cells #[.int .i64 o.kind, .string o.key, .string o.from_, .int .i64 o.n] 38)
            simp only [World.size_alloc] at hx
            exact seg_blk (xs := [.int .i64 o.kind, .string o.key, .string o.from_, .int .i64 o.n]) (n := 1) (sz := 4) (c := 1) hx rfl (Nat.le_refl _) (by decide)
          have HIA := hid (HI7.out.ext ((Ext.refl (wo.alloc (.cells #[.int .i64 o.kind, .string o.key, .string o.from_, .int .i64 o.n] 38))).alloc (.cells #[.int .i64 o.kind, .string o.key, .string o.from_, .int .i64 o.n] 38)))
          have hcu := HIA.out.ops
          have hsz2 : w1.heap.size ≤ ((wo.alloc (.cells #[.int .i64 o.kind, .string o.key, .string o.from_, .int .i64 o.n] 38)).alloc (.cells #[.int .i64 o.kind, .string o.key, .string o.from_, .int .i64 o.n] 38)).heap.size := by have := hI.out.gb.size; simp; omega
          clear hbt hbo
          go_wp2_with (first | (at_builtin; refine (wpList_app rfl _ _ 33 rfl w1.heap.size 38 (.agg #[.int .i64 0, .string ⟨#[]⟩, .string ⟨#[]⟩, .int .i64 0]) 4 48 Tryd.underlying33 infoOpY rfl (by decide) (.slice ac B.length kc) B.length (cO B) rfl hcu _ 1 [.int .i64 o.kind, .string o.key, .string o.from_, .int .i64 o.n] rfl p1' (fun u hu => by simp only [List.mem_cons, List.not_mem_nil, or_false] at hu; rcases hu with rfl | rfl | rfl | rfl <;> rfl) (by have := HLK.out; omega) (by unfold maxLen; have := HLK.out; omega) hsz2 ?_); intro v' w9 ho' hg; obtain ⟨hbx, HN⟩ := HIA.out.more (o := ⟨o.kind, o.key, o.from_, o.n⟩) ho' hg; have d9 := blk1 hbx; obtain ⟨a9, k9, e9⟩ := own_form ho'; subst e9))
          go_roundw
          case rel => exact ⟨k + 1, _, by omega, by go_num, hid (by rw [HBT.out]; exact HN)⟩
          case measure => simp [intOf] <;> omega
        · have q5 : (o.kind == 5) = false := by simp [h5]
          have H5 := hid h5
          clear h5
          have hbo : bareO o = ⟨o.kind, o.key, ⟨#[]⟩, o.n⟩ := by unfold bareO; rw [if_neg H3.out, if_neg H5.out]
          rw [hbo] at hbt
          have HBT := hid hbt
          have bo := blk4 (heap_alloc_new wo (.cells #[.int .i64 o.kind, .string o.key, .string ⟨#[]⟩, .int .i64 o.n] 38))
          have HI7 := hid (hI.out.ext ((Ext.refl wo).alloc (.cells #[.int .i64 o.kind, .string o.key, .string ⟨#[]⟩, .int .i64 o.n] 38)))
          have d0 := blk1 HI7.out.box
          have p1' : Seg ((wo.alloc (.cells #[.int .i64 o.kind, .string o.key, .string ⟨#[]⟩, .int .i64 o.n] 38)).alloc (.cells #[.int .i64 o.kind, .string o.key, .string ⟨#[]⟩, .int .i64 o.n] 38)) (.slice (some ⟨wo.heap.size + 1, 0, none⟩) 1 1) 4 1 [.int .i64 o.kind, .string o.key, .string ⟨#[]⟩, .int .i64 o.n] := by
            have hx := heap_alloc_new (wo.alloc (.cells #[.int .i64 o.kind, .string o.key, .string ⟨#[]⟩, .int .i64 o.n] 38)) (.cells #[.int .i64 o.kind, .string o.key, .string ⟨#[]⟩, .int .i64 o.n] 38)
            simp only [World.size_alloc] at hx
            exact seg_blk (xs := [.int .i64 o.kind, .string o.key, .string ⟨#[]⟩, .int .i64 o.n]) (n := 1) (sz := 4) (c := 1) hx rfl (Nat.le_refl _) (by decide)
          have HIA := hid (HI7.out.ext ((Ext.refl (wo.alloc (.cells #[.int .i64 o.kind, .string o.key, .string ⟨#[]⟩, .int .i64 o.n] 38))).alloc (.cells #[.int .i64 o.kind, .string o.key, .string ⟨#[]⟩, .int .i64 o.n] 38)))
          have hcu := HIA.out.ops
          have hsz2 : w1.heap.size ≤ ((wo.alloc (.cells #[.int .i64 o.kind, .string o.key, .string ⟨#[]⟩, .int .i64 o.n] 38)).alloc (.cells #[.int .i64 o.kind, .string o.key, .string ⟨#[]⟩, .int .i64 o.n] 38)).heap.size := by have := hI.out.gb.size; simp; omega
          clear hbt hbo
          go_wp2_with (first | (at_builtin; refine (wpList_app rfl _ _ 33 rfl w1.heap.size 38 (.agg #[.int .i64 0, .string ⟨#[]⟩, .string ⟨#[]⟩, .int .i64 0]) 4 48 Tryd.underlying33 infoOpY rfl (by decide) (.slice ac B.length kc) B.length (cO B) rfl hcu _ 1 [.int .i64 o.kind, .string o.key, .string ⟨#[]⟩, .int .i64 o.n] rfl p1' (fun u hu => by simp only [List.mem_cons, List.not_mem_nil, or_false] at hu; rcases hu with rfl | rfl | rfl | rfl <;> rfl) (by have := HLK.out; omega) (by unfold maxLen; have := HLK.out; omega) hsz2 ?_); intro v' w9 ho' hg; obtain ⟨hbx, HN⟩ := HIA.out.more (o := ⟨o.kind, o.key, ⟨#[]⟩, o.n⟩) ho' hg; have d9 := blk1 hbx; obtain ⟨a9, k9, e9⟩ := own_form ho'; subst e9))
          go_roundw
          case rel => exact ⟨k + 1, _, by omega, by go_num, hid (by rw [HBT.out]; exact HN)⟩
          case measure => simp [intOf] <;> omega
    · obtain rfl : k = d.length := by omega
      have hBd : B = d.map bareO := by rw [← HBB.out, List.take_length]
      have HBD := hid hBd
      clear hBd
      have d0 := blk1 hI.out.box
      have hsz := HSZ.out
      have HEo := hid (hI.out.E HE1.out (by omega))
      have hb2 : wo.heap[w.heap.size + 1]? = some (.cells #[.slice none 0 0] 35 (0, 0)) := grown_heap hI.out.gb HB2.out (by intro e; injection e with e; omega)
      have d2 := blk1 hb2
      have rB := blk1 (blk1_set hb2 (.slice ac B.length kc))
      have HOP := hid hI.out.ops
      have HZ := hid hsz
      clear hI hb2 hsz
      go_wp2
      refine bodyPost_ret (v := .agg #[.slice ac B.length kc]) (by simp [results, Tryd.results15, go_sem, rB.1]) rfl ⟨_, rfl, ?_, HEo.out.setCell (by simp) _⟩
      have hz := HZ.out
      have := own_base (own_set_far (p := ⟨w.heap.size + 1, 0, none⟩) (u := .slice ac B.length kc) HOP.out (by show w.heap.size + 1 < _; omega)) (show w.heap.size ≤ w1.heap.size by omega)
      rw [← HBD.out]
      rw [HLK.out] at this ⊢
      exact this
end Go.Proofs.YtnepdfpooobmcaaDoor
