/- Contracts and lemmas for the proof of TextMap; each theorem states its own conditions. -/
import Derived.Test.YtnepdfpooobmcaaDoorQTextMapav
import Derived.Test.YtnepdfpooobmcaaDoorQTextMapan
set_option linter.unusedVariables false
set_option linter.unusedSimpArgs false
/- Contracts and lemmas for the proofs of this seat; each theorem states its own conditions. -/
namespace Go.Proofs.YtnepdfpooobmcaaDoor
open Go.RowKit
theorem tm_lit : mapErr [⟨#[109]⟩] [2, 3] = 0 ∧ mapS [⟨#[109]⟩] [2, 3] = ⟨#[50, 58, 109, 58, 51]⟩ := by decide +kernel
theorem mapT_len {C : List ByteArray} {O : List Int} (h : MapOk C O) : (mapT C O).length ≤ 400 := by
  rw [← mapTo_all h.len]
  have := mapTo_len h C.length (Nat.le_refl _)
  have := h.few
  omega
set_option maxRecDepth 100000 in
set_option maxHeartbeats 4000000 in
theorem textmap_walk (v1 v2 : Value) (C : List ByteArray) (O : List Int) (s : ByteArray) (w : World) (L : LaidT w) (hm : IsMap w (.agg #[v1, v2]) C O) (hk : ∀ k ∈ C, k.size ≤ 9223372036854775807) (hs : s.size ≤ 2000000) :
    Calls Tryd.prog 3 #[.agg #[v1, v2], .string s] w fun e w' => e = .returned (.bool true) ∧ Ext w w' := by
  have HL := hid L
  have HM := hid (And.intro hm hk)
  have RD := hid (fun w' (q : Ext w w') => treadmap_any s w' (L.ext q) (by omega))
  have TM0 := hid (fun w' (q : Ext w w') => tmap_any (.agg #[v1, v2]) C O w' (L.ext q) (hm.ext q) hk)
  have LT := hid (fun w' (q : Ext w w') vv (hv : IsMap w' vv [⟨#[109]⟩] [2, 3]) => tmap_any vv [⟨#[109]⟩] [2, 3] w' (L.ext q) hv (by decide))
  rw [tm_lit.1, tm_lit.2] at LT
  have e0 := heap_alloc_new w (.cells #[v1, v2] 25)
  have E0 := (Ext.refl w).alloc (.cells #[v1, v2] 25)
  have HB := hid e0
  have HE0 := hid E0
  clear L hm hk e0 E0
  go_enter Tryd.func3, Tryd.ntmps3
  go_wp2_with fail
  have E2 : Ext w (((w.alloc (.cells #[v1, v2] 25)).alloc (.cells #[.string ⟨#[109]⟩] 9)).alloc (.cells #[.int .i64 2, .int .i64 3] 3)) := (((Ext.refl w).alloc _).alloc _).alloc _
  refine (LT.out _ E2 _ ⟨_, _, rfl, ?_, ?_⟩).mono ?_
  · exact seg_one (((Ext.refl _).alloc _).heap (by simpa using heap_alloc_new (w.alloc (.cells #[v1, v2] 25)) (.cells #[.string ⟨#[109]⟩] 9)))
  · have hx := heap_alloc_new ((w.alloc (.cells #[v1, v2] 25)).alloc (.cells #[.string ⟨#[109]⟩] 9)) (.cells #[.int .i64 2, .int .i64 3] 3)
    simp only [World.size_alloc] at hx
    exact seg_blk (xs := [.int .i64 2, .int .i64 3]) (n := 2) (sz := 1) (c := 2) hx rfl (Nat.le_refl _) (by decide)
  rintro e w3 ⟨rfl, E3⟩
  have E13 := (((Ext.refl _).alloc (.cells #[.string ⟨#[109]⟩] 9)).alloc (.cells #[.int .i64 2, .int .i64 3] 3)).trans E3
  have b3 := blk2 (E13.heap HB.out)
  have HE3 := hid (E2.trans E3)
  have TM1 := hid (TM0.out w3 (E2.trans E3))
  have HB3 := hid (E13.heap HB.out)
  clear E2 E3 E13 LT HB TM0
  go_wp2_with fail
  refine (TM1.out).mono ?_
  clear TM1
  rintro e w4 ⟨rfl, E4⟩
  have HE4 := hid (HE3.out.trans E4)
  have HB4 := hid (E4.heap HB3.out)
  clear E4 b3
  by_cases he : mapErr C O = 0
  · have ok := ok_of_mapErr he
    have hrt := mapRd_rt ok
    have hms : mapS C O = bA (mapT C O) := by unfold mapS; rw [if_pos he]
    have hln := mapT_len ok
    rw [he, hms]
    have RM := treadmap_any (bA (mapT C O)) w4 (HL.out.ext HE4.out) (by rw [bA_size]; omega)
    rw [hrt] at RM
    dsimp only at RM
    have RM := hid RM
    clear he ok hrt hms hln
    go_wp2_with fail
    refine (RM.out).mono ?_
    clear RM
    rintro e w5 ⟨xv, rfl, ox, E5⟩
    obtain ⟨ya, yk, yo, yl, rfl, _, _⟩ := ox.is.unpack
    have EA := (Ext.refl w5).alloc (.cells #[.slice ya C.length yk, .slice yo O.length yl] 25)
    have by1 := blk2 (heap_alloc_new w5 (.cells #[.slice ya C.length yk, .slice yo O.length yl] 25))
    have by2 := blk2 ((E5.trans EA).heap HB4.out)
    have SM := hid (sameMap_any (.agg #[.slice ya C.length yk, .slice yo O.length yl]) (.agg #[v1, v2]) C C O O _ (ox.is.ext EA) (HM.out.1.ext (HE4.out.trans (E5.trans EA))))
    have hsb : sameB C C O O = true := by simp [sameB]
    rw [hsb] at SM
    have HE5 := hid (HE4.out.trans (E5.trans EA))
    clear ox E5 EA hsb
    go_wp2_with fail
    refine (SM.out).mono ?_
    clear SM
    rintro e w6 ⟨rfl, E6⟩
    have HE6 := hid (HE5.out.trans E6)
    clear E6 by1 by2
    have RD1 := hid (RD.out w6 HE6.out)
    clear RD
    go_wp2_with fail
    refine (RD1.out).mono ?_
    clear RD1
    rintro e x1 ⟨xv, rfl, ox, EX⟩
    have HEX := hid (HE6.out.trans EX)
    by_cases hz : (mapRd s).1 = 0
    · obtain ⟨C2, O2, hpr⟩ : ∃ C2 O2, mapRd s = (0, C2, O2) := ⟨(mapRd s).2.1, (mapRd s).2.2, Prod.ext hz rfl⟩
      obtain ⟨r1, r2⟩ := mapRd_back hpr
      rw [hpr] at ox
      rw [hpr]
      dsimp only at ox ⊢
      obtain ⟨xa, xk, xo, xl, rfl, _, _⟩ := ox.is.unpack
      have HS2 := hid (show mapS C2 O2 = s by unfold mapS; rw [if_pos r1]; exact r2)
      have TM := hid (fun w' (q : Ext x1 w') => tmap_any (.agg #[.slice xa C2.length xk, .slice xo O2.length xl]) C2 O2 w' (HL.out.ext (HEX.out.trans q)) (ox.is.ext q) (fun k hk => by have := key_size (cut_key (ok_of_mapErr r1).cut k hk); omega))
      rw [HS2.out, r1] at TM
      have bx := heap_alloc_new x1 (.cells #[.slice xa C2.length xk, .slice xo O2.length xl] 25)
      have bx2 := blk2 bx
      have TM1 := hid (TM.out _ ((Ext.refl x1).alloc (.cells #[.slice xa C2.length xk, .slice xo O2.length xl] 25)))
      clear hz hpr r1 r2 ox TM bx EX
      go_wp2_with fail
      refine (TM1.out).mono ?_
      clear TM1
      rintro e x2 ⟨rfl, EX2⟩
      have HR := hid (HEX.out.trans (((Ext.refl x1).alloc (.cells #[.slice xa C2.length xk, .slice xo O2.length xl] 25)).trans EX2))
      clear EX2
      go_wp2
      go_ret
      exact ⟨rfl, HR.out⟩
    · have hnl := mapRd_err hz
      obtain ⟨er, hpr⟩ : ∃ er, mapRd s = (er, [], []) := ⟨(mapRd s).1, Prod.ext rfl hnl⟩
      rw [hpr] at ox hz
      rw [hpr]
      dsimp only at ox hz ⊢
      obtain ⟨xa, xk, xo, xl, rfl, _, _⟩ := ox.is.unpack
      have q : (er != 0) = true := by simp [hz]
      have SM := hid (fun w' (q : Ext x1 w') => sameMap_any (.agg #[.slice xa 0 xk, .slice xo 0 xl]) (.agg #[.slice none 0 0, .slice none 0 0]) [] [] [] [] w' (ox.is.ext q) ⟨_, _, rfl, Seg.nil _ _, Seg.nil _ _⟩)
      have bx := heap_alloc_new x1 (.cells #[.slice xa 0 xk, .slice xo 0 xl] 25)
      have bx2 := blk2 bx
      have SM1 := hid (SM.out _ ((Ext.refl x1).alloc (.cells #[.slice xa 0 xk, .slice xo 0 xl] 25)))
      clear hz hpr ox SM bx EX hnl
      go_wp2_with fail
      refine (SM1.out).mono ?_
      clear SM1
      rintro e x2 ⟨rfl, EX2⟩
      have HR := hid (HEX.out.trans (((Ext.refl x1).alloc (.cells #[.slice xa 0 xk, .slice xo 0 xl] 25)).trans EX2))
      clear EX2
      go_wp2
      go_ret
      exact ⟨rfl, HR.out⟩
  · have q : (mapErr C O == 0) = false := by simp [he]
    clear he
    have RD1 := hid (RD.out w4 HE4.out)
    clear RD
    go_wp2_with fail
    refine (RD1.out).mono ?_
    clear RD1
    rintro e x1 ⟨xv, rfl, ox, EX⟩
    have HEX := hid (HE4.out.trans EX)
    by_cases hz : (mapRd s).1 = 0
    · obtain ⟨C2, O2, hpr⟩ : ∃ C2 O2, mapRd s = (0, C2, O2) := ⟨(mapRd s).2.1, (mapRd s).2.2, Prod.ext hz rfl⟩
      obtain ⟨r1, r2⟩ := mapRd_back hpr
      rw [hpr] at ox
      rw [hpr]
      dsimp only at ox ⊢
      obtain ⟨xa, xk, xo, xl, rfl, _, _⟩ := ox.is.unpack
      have HS2 := hid (show mapS C2 O2 = s by unfold mapS; rw [if_pos r1]; exact r2)
      have TM := hid (fun w' (q : Ext x1 w') => tmap_any (.agg #[.slice xa C2.length xk, .slice xo O2.length xl]) C2 O2 w' (HL.out.ext (HEX.out.trans q)) (ox.is.ext q) (fun k hk => by have := key_size (cut_key (ok_of_mapErr r1).cut k hk); omega))
      rw [HS2.out, r1] at TM
      have bx := heap_alloc_new x1 (.cells #[.slice xa C2.length xk, .slice xo O2.length xl] 25)
      have bx2 := blk2 bx
      have TM1 := hid (TM.out _ ((Ext.refl x1).alloc (.cells #[.slice xa C2.length xk, .slice xo O2.length xl] 25)))
      clear hz hpr r1 r2 ox TM bx EX
      go_wp2_with fail
      refine (TM1.out).mono ?_
      clear TM1
      rintro e x2 ⟨rfl, EX2⟩
      have HR := hid (HEX.out.trans (((Ext.refl x1).alloc (.cells #[.slice xa C2.length xk, .slice xo O2.length xl] 25)).trans EX2))
      clear EX2
      go_wp2
      go_ret
      exact ⟨rfl, HR.out⟩
    · have hnl := mapRd_err hz
      obtain ⟨er, hpr⟩ : ∃ er, mapRd s = (er, [], []) := ⟨(mapRd s).1, Prod.ext rfl hnl⟩
      rw [hpr] at ox hz
      rw [hpr]
      dsimp only at ox hz ⊢
      obtain ⟨xa, xk, xo, xl, rfl, _, _⟩ := ox.is.unpack
      have q : (er != 0) = true := by simp [hz]
      have SM := hid (fun w' (q : Ext x1 w') => sameMap_any (.agg #[.slice xa 0 xk, .slice xo 0 xl]) (.agg #[.slice none 0 0, .slice none 0 0]) [] [] [] [] w' (ox.is.ext q) ⟨_, _, rfl, Seg.nil _ _, Seg.nil _ _⟩)
      have bx := heap_alloc_new x1 (.cells #[.slice xa 0 xk, .slice xo 0 xl] 25)
      have bx2 := blk2 bx
      have SM1 := hid (SM.out _ ((Ext.refl x1).alloc (.cells #[.slice xa 0 xk, .slice xo 0 xl] 25)))
      clear hz hpr ox SM bx EX hnl
      go_wp2_with fail
      refine (SM1.out).mono ?_
      clear SM1
      rintro e x2 ⟨rfl, EX2⟩
      have HR := hid (HEX.out.trans (((Ext.refl x1).alloc (.cells #[.slice xa 0 xk, .slice xo 0 xl] 25)).trans EX2))
      clear EX2
      go_wp2
      go_ret
      exact ⟨rfl, HR.out⟩
end Go.Proofs.YtnepdfpooobmcaaDoor
