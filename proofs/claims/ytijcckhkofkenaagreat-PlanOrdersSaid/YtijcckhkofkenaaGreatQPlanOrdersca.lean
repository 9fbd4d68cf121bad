/- Contracts and lemmas for the proof of PlanOrders; each theorem states its own conditions. -/
import Derived.Test.YtijcckhkofkenaaGreatQPlanOrdersby
import Derived.Test.YtijcckhkofkenaaGreatQPlanOrdersbz
set_option linter.unusedVariables false
set_option linter.unusedSimpArgs false
/- Contracts and lemmas for the proofs of this seat; each theorem states its own conditions. -/
namespace Go.Proofs.YtijcckhkofkenaaGreat
open Go.RowKit
def setA5 : Ops := [⟨1, ⟨#[97]⟩, ⟨#[]⟩, 5⟩]
theorem setA5_ok : deedE setA5 = 0 := by decide +kernel
theorem playA5 : (playN [setA5] [] [] 1).2.2.1.length = 1 := by decide +kernel
set_option maxRecDepth 100000 in
set_option maxHeartbeats 2000000 in
theorem planBegun_any (w : World) : Calls Tryz.prog 58 #[] w fun e w' => e = .returned (.bool true) ∧ Ext w w' := by
  have b1 := heap_alloc_new w (.cells #[.int .i64 1, .string ⟨#[97]⟩, .string ⟨#[]⟩, .int .i64 5] 37)
  have E1 := (Ext.refl w).alloc (.cells #[.int .i64 1, .string ⟨#[97]⟩, .string ⟨#[]⟩, .int .i64 5] 37)
  have b2 := heap_alloc_new (w.alloc (.cells #[.int .i64 1, .string ⟨#[97]⟩, .string ⟨#[]⟩, .int .i64 5] 37)) (.cells #[.slice (some ⟨w.heap.size, 0, none⟩) 1 1] 29)
  have E2 := (Ext.refl (w.alloc (.cells #[.int .i64 1, .string ⟨#[97]⟩, .string ⟨#[]⟩, .int .i64 5] 37))).alloc (.cells #[.slice (some ⟨w.heap.size, 0, none⟩) 1 1] 29)
  replace b1 := E2.heap b1
  rw [show (w.alloc (.cells #[.int .i64 1, .string ⟨#[97]⟩, .string ⟨#[]⟩, .int .i64 5] 37)).heap.size = w.heap.size + 1 by simp] at b2
  have hds : SegDs ((w.alloc (.cells #[.int .i64 1, .string ⟨#[97]⟩, .string ⟨#[]⟩, .int .i64 5] 37)).alloc (.cells #[.slice (some ⟨w.heap.size, 0, none⟩) 1 1] 29)) (.slice (some ⟨w.heap.size + 1, 0, none⟩) 1 1) [setA5] :=
    SegDs.mk' (D := [setA5]) (Nat.le_refl _) (by simp [maxLen]) fun j d hd => by
      have hj : j = 0 := by have := (List.getElem?_eq_some_iff.1 hd).1; simp at this; omega
      subst hj; simp at hd; subst hd
      exact ⟨_, _, cell_of_one b2, seg_blk (xs := cO setA5) b1 rfl (Nat.le_refl _) (by simp [maxLen, setA5])⟩
  have PL := hid (play_ok (.slice none 0 0) (.slice (some ⟨w.heap.size + 1, 0, none⟩) 1 1) (.slice none 0 0) [] [setA5] [] _ (Seg.nil _ _) storeOk_nil (by simp) hds (by intro d hd; simp at hd; subst hd; exact deed_ok setA5_ok) (by intro d hd o ho; simp at hd; subst hd; simp [setA5] at ho; subst ho; decide) (by simp) (Seg.nil _ _))
  have E := E1.trans E2
  clear b1 b2 hds E1 E2
  go_enter Tryz.func58, Tryz.ntmps58
  go_wp2_with fail
  refine (PL.out).mono ?_
  rintro e w1 ⟨v1, v2, v3, rfl, o1, o2, o3, E1⟩
  rw [show [setA5].length = 1 from rfl, playA5] at o1
  rw [show [setA5].length = 1 from rfl] at o2 o3
  obtain ⟨_, _, rfl⟩ := own_form o1
  obtain ⟨_, _, rfl⟩ := own_form o2
  obtain ⟨_, _, rfl⟩ := own_form o3
  clear o1 o2 o3 PL
  go_wp2
  go_ret
  exact ⟨rfl, E.trans E1⟩
set_option maxRecDepth 100000 in
set_option maxHeartbeats 4000000 in
theorem pserial_walk (v vd vp : Value) (l P : List Int) (ls : List (List Int)) (w : World) (hv : Seg w v 1 l.length (cI l)) (hb : ∀ z ∈ l, -9223372036854775808 ≤ z ∧ z ≤ 9223372036854775807) (hvd : SegLL w vd ls) (hvp : Seg w vp 1 P.length (cI P)) :
    Calls Tryz.prog 8 #[v, vd, vp] w fun e w' => e = .returned (.bool true) ∧ Ext w w' := by
  go_enter Tryz.func8, Tryz.ntmps8
  go_wp2_with fail
  refine (planBegun_any _).mono ?_
  rintro e w1 ⟨rfl, E⟩
  replace hv := hv.ext E
  replace hvd := hvd.ext E
  replace hvp := hvp.ext E
  go_wp2_with fail
  refine (pairs_any _ l _ hv hb).mono ?_
  rintro e w2 ⟨vs, S, rfl, oS, lS, hS, E1⟩
  have sS := own_seg hS
  obtain ⟨a0, c0, rfl⟩ := own_form hS
  replace E := E.trans E1
  replace hvd := hvd.ext E1
  replace hvp := hvp.ext E1
  clear E1 hS hv
  go_wp2_with fail
  refine (deeds_any _ ls 20 _ hvd (by omega)).mono ?_
  rintro e w3 ⟨vD, us, D, rfl, hout, hds, hdg, hdl, E1⟩
  have hD := hds.seg hout
  obtain ⟨aD, cD, rfl⟩ := own_form hout
  have hl := hds.len
  rw [hl] at hD
  simp only [hl]
  clear hl
  replace sS := sS.ext E1
  replace hvp := hvp.ext E1
  replace E := E.trans E1
  clear E1 hout hds hvd
  have dok : ∀ d ∈ D, DeedOk d := fun d h => (hdg d h).ok
  have dsm : ∀ d ∈ D, ∀ o ∈ d, o.from_.size ≤ 9223372036854775807 := fun d h => (hdg d h).sm
  clear hdg
  obtain ⟨hI, hlv, hln⟩ := playN_inv D S P D.length (Nat.le_refl _)
  have hgone := live_none (show liveN (playN D S P D.length).2.1 D.length = 0 by omega)
  obtain ⟨hm, hX, hT⟩ := play_end dok oS hI hgone
  have hnd := hI.nodup
  have hadm := hI.adm
  have hord := (adm_ord hnd hm).2 hadm
  go_wp2_with fail
  refine (play_ok (.slice a0 S.length c0) _ vp S D P _ sS oS (by omega) hD dok dsm (by omega) hvp).mono ?_
  rintro e w4 ⟨v4, v5, v6, rfl, o4, o5, o6, E4⟩
  rw [hX] at o4
  rw [hT] at o5
  generalize (playN D S P D.length).1 = ord at o6 hln hm hnd hadm hord
  clear hI hlv hgone hX hT hadm
  have s4 := own_seg o4
  have s5 := own_seg o5
  have s6 := own_seg o6
  obtain ⟨a4, c4, rfl⟩ := own_form o4
  obtain ⟨a5, c5, rfl⟩ := own_form o5
  obtain ⟨a6, c6, rfl⟩ := own_form o6
  replace E := E.trans E4
  replace sS := sS.ext E4
  replace hD := hD.ext E4
  clear o4 o5 o6 E4 hvp
  have SR := hid (serial_ok (.slice a0 S.length c0) (.slice aD D.length cD) S D _ sS hD oS dok dsm (by omega) (by omega))
  go_wp2_with fail
  refine (SR.out).mono ?_
  rintro e w5 ⟨v7, v8, rfl, o7, o8, E5⟩
  have s7 := own_seg o7
  have s8 := own_seg o8
  obtain ⟨a7, c7, rfl⟩ := own_form o7
  obtain ⟨a8, c8, rfl⟩ := own_form o8
  have hTl : (serB S D).length = D.length := serB_len _ _
  rw [hTl] at s8
  have Q1 := equal_Pair (.slice a4 (serS S D).length c4) (.slice a7 (serS S D).length c7) (serS S D) (serS S D) w5 (s4.ext E5) s7
  have Q2 := fun w' (E' : Ext w5 w') => equal_Bool (.slice a5 D.length c5) (.slice a8 D.length c8) (serB S D) (serB S D) w' (by rw [hTl]; exact (s5.ext E5).ext E') (by rw [hTl]; exact s8.ext E')
  rw [show decide (serS S D = serS S D) = true by simp] at Q1
  simp only [decide_true] at Q2
  have Q1 := hid Q1
  have Q2 := hid Q2
  rw [hln] at hord
  have hD5 := hD.ext E5
  have s65 := s6.ext E5
  have OK := fun w' (E' : Ext w5 w') => order_ok (.slice aD D.length cD) (.slice a6 D.length c6) D ord w' (hD5.ext E') dok dsm (by omega) (by rw [hln]; exact s65.ext E') hln hnd (fun i hi => (hm i).1 hi)
  rw [hord] at OK
  have OK := hid OK
  have E05 := E.trans E5
  have qn : ((D.length : Int) != (D.length : Int)) = false := by simp
  simp only [hTl]
  clear hord hm hnd hln hD5 s65 s4 s5 s6 s7 s8 sS hD o7 o8 SR dok dsm hTl E E5
  go_wp2_with fail
  refine (Q1.out).mono ?_
  rintro e w6 ⟨rfl, n6, rfl⟩
  have E6 := (Ext.refl w5).drewN n6
  go_wp2_with fail
  refine (Q2.out _ E6).mono ?_
  rintro e w7 ⟨rfl, n7, rfl⟩
  have E7 := (Ext.refl w5).drewN (n6 + n7)
  go_wp2_with fail
  refine (OK.out _ E7).mono ?_
  rintro e w8 ⟨rfl, E8⟩
  go_wp2
  go_ret
  exact ⟨rfl, (E05.trans E7).trans E8⟩
end Go.Proofs.YtijcckhkofkenaaGreat
