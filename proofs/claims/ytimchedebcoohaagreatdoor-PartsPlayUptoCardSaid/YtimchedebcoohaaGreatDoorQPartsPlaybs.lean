/- Contracts and lemmas for the proof of PartsPlay; each theorem states its own conditions. -/
import Derived.Test.YtimchedebcoohaaGreatDoorQPartsPlaybh
import Derived.Test.YtimchedebcoohaaGreatDoorQPartsPlaybi
import Derived.Test.YtimchedebcoohaaGreatDoorQPartsPlaybm
import Derived.Test.YtimchedebcoohaaGreatDoorQPartsPlaybl
import Derived.Test.YtimchedebcoohaaGreatDoorQPartsPlaybo
import Derived.Test.YtimchedebcoohaaGreatDoorQPartsPlaybr
import Derived.Test.YtimchedebcoohaaGreatDoorQPartsPlaybp
import Derived.Test.YtimchedebcoohaaGreatDoorQPartsPlayau
set_option linter.unusedVariables false
set_option linter.unusedSimpArgs false
/- Contracts and lemmas for the proofs of this seat; each theorem states its own conditions. -/
namespace Go.Proofs.YtimchedebcoohaaGreatDoor
open Go.RowKit
/-! parts at whatever is handed in -/
def newE (C : List ByteArray) (O : List Int) (S : Prs) : Int := if mapErr C O ≠ 0 then mapErr C O else storeErr S
set_option maxRecDepth 100000 in
set_option maxHeartbeats 1000000 in
theorem pnew_bad (vm vl : Value) (C : List ByteArray) (O : List Int) (S : Prs) (w : World) (hm : IsMap w vm C O) (hk : ∀ k ∈ C, k.size ≤ 9223372036854775807) (hv : Seg w vl 2 S.length (cP S)) (sk : ∀ p ∈ S, p.1.size ≤ 9223372036854775807) (he : newE C O S ≠ 0) :
    Calls Tryz.prog 4 #[vm, vl] w fun e w' => e = .returned (.tuple #[.pointer none, .int .i64 (newE C O S)]) ∧ Ext w w' := by
  obtain ⟨a1, k1, a2, k2, rfl, m1, m2⟩ := hm.unpack
  have b1 := heap_alloc_new w (.cells #[.slice a1 C.length k1, .slice a2 O.length k2] 25)
  have E0 := (Ext.refl w).alloc (.cells #[.slice a1 C.length k1, .slice a2 O.length k2] 25)
  obtain ⟨w0, hw0⟩ : ∃ w0, w.alloc (.cells #[.slice a1 C.length k1, .slice a2 O.length k2] 25) = w0 := ⟨_, rfl⟩
  rw [hw0] at b1 E0
  have x1 := blk2 b1
  have MC := hid (mcheck_any _ C O w0 (hm.ext E0) hk)
  have SC := hid (fun w' (q : Ext w0 w') => scheck_any vl S w' (hv.ext (E0.trans q)) sk)
  obtain ⟨al, cl, rfl⟩ := seg_form hv
  clear m1 m2 hm hv b1
  by_cases g1 : mapErr C O = 0
  · have e1 : newE C O S = storeErr S := by unfold newE; rw [if_neg (by simp [g1])]
    rw [e1] at he ⊢
    rw [g1] at MC
    have q : (storeErr S != 0) = true := by simp [he]
    clear e1 he g1
    generalize storeErr S = er at SC q ⊢
    go_enter Tryz.func4, Tryz.ntmps4
    go_wp2_with fail
    refine (MC.out).mono ?_
    clear MC
    rintro e w1 ⟨rfl, E1⟩
    have SC1 := hid (SC.out w1 E1)
    clear SC hw0
    go_wp2_with fail
    refine (SC1.out).mono ?_
    clear SC1
    rintro e w2 ⟨rfl, E2⟩
    go_wp2
    go_ret2
    exact ⟨rfl, E0.trans (E1.trans E2)⟩
  · have e1 : newE C O S = mapErr C O := by unfold newE; rw [if_pos g1]
    rw [e1]
    have q : (mapErr C O != 0) = true := by simp [g1]
    clear e1 he g1 SC
    generalize mapErr C O = er at MC q ⊢
    go_enter Tryz.func4, Tryz.ntmps4
    go_wp2_with fail
    refine (MC.out).mono ?_
    clear MC
    rintro e w1 ⟨rfl, E1⟩
    clear hw0
    go_wp2
    go_ret2
    exact ⟨rfl, E0.trans E1⟩
set_option maxRecDepth 100000 in
theorem ppart_bad (w : World) (bt : Nat) (i : Int) (hi : i < 0 ∨ 4 ≤ i) :
    Calls Tryz.prog 27 #[.pointer (some ⟨bt, 0, none⟩), .int .i64 i] w fun e w' => e = .returned (.tuple #[.slice none 0 0, .int .i64 1]) ∧ Ext w w' := by
  by_cases h : i < 0
  · clear hi
    go_enter Tryz.func27, Tryz.ntmps27
    go_wp2
    go_ret2
    exact ⟨rfl, Ext.refl _⟩
  · have h4 : i ≥ 4 := by omega
    clear hi
    go_enter Tryz.func27, Tryz.ntmps27
    go_wp2
    go_ret2
    exact ⟨rfl, Ext.refl _⟩
set_option maxRecDepth 100000 in
set_option maxHeartbeats 1000000 in
theorem pdo_bad (w : World) (bt : Nat) (vd : Value) (d : Ops) (hvd : Seg w vd 4 d.length (cO d)) (hd : opsSm d) (he : deedE d ≠ 0) :
    Calls Tryz.prog 12 #[.pointer (some ⟨bt, 0, none⟩), .agg #[vd]] w fun e w' => e = .returned (.tuple #[.bool false, .int .i64 (deedE d)]) ∧ Ext w w' := by
  obtain ⟨ad, cd, rfl⟩ := seg_form hvd
  have b0 := heap_alloc_new w (.cells #[.slice ad d.length cd] 43)
  have E0 := (Ext.refl w).alloc (.cells #[.slice ad d.length cd] 43)
  obtain ⟨w0, hw0⟩ : ∃ w0, w.alloc (.cells #[.slice ad d.length cd] 43) = w0 := ⟨_, rfl⟩
  rw [hw0] at b0 E0
  have z0 := cell_of_one b0
  have KA := hid (keys_all _ d w0 (hvd.ext E0) hd)
  have q : (deedE d != 0) = true := by simp [he]
  clear he b0 hvd
  generalize deedE d = er at KA q ⊢
  go_enter Tryz.func12, Tryz.ntmps12
  go_wp2_with fail
  refine (KA.out).mono ?_
  clear KA
  rintro e w1 ⟨v1, v2, R, U, rfl, o1, o2, h1, h2, E1⟩
  obtain ⟨a1, k1, rfl⟩ := own_form o1
  obtain ⟨a2, k2, rfl⟩ := own_form o2
  have EE := hid (E0.trans E1)
  clear h1 h2 o1 o2 hw0 E1 E0
  go_wp2
  go_ret2
  exact ⟨rfl, EE.out⟩
set_option maxRecDepth 100000 in
set_option maxHeartbeats 1000000 in
theorem pwho_bad (w : World) (bt : Nat) (vd : Value) (d : Ops) (hvd : Seg w vd 4 d.length (cO d)) (hd : opsSm d) (he : deedE d ≠ 0) :
    Calls Tryz.prog 18 #[.pointer (some ⟨bt, 0, none⟩), .agg #[vd]] w fun e w' => e = .returned (.tuple #[.slice none 0 0, .int .i64 (deedE d)]) ∧ Ext w w' := by
  obtain ⟨ad, cd, rfl⟩ := seg_form hvd
  have b0 := heap_alloc_new w (.cells #[.slice ad d.length cd] 43)
  have E0 := (Ext.refl w).alloc (.cells #[.slice ad d.length cd] 43)
  obtain ⟨w0, hw0⟩ : ∃ w0, w.alloc (.cells #[.slice ad d.length cd] 43) = w0 := ⟨_, rfl⟩
  rw [hw0] at b0 E0
  have z0 := cell_of_one b0
  have KA := hid (keys_all _ d w0 (hvd.ext E0) hd)
  have q : (deedE d != 0) = true := by simp [he]
  clear he b0 hvd
  generalize deedE d = er at KA q ⊢
  go_enter Tryz.func18, Tryz.ntmps18
  go_wp2_with fail
  refine (KA.out).mono ?_
  clear KA
  rintro e w1 ⟨v1, v2, R, U, rfl, o1, o2, h1, h2, E1⟩
  obtain ⟨a1, k1, rfl⟩ := own_form o1
  obtain ⟨a2, k2, rfl⟩ := own_form o2
  have EE := hid (E0.trans E1)
  clear h1 h2 o1 o2 hw0 E1 E0
  go_wp2
  go_ret2
  exact ⟨rfl, EE.out⟩
set_option maxRecDepth 100000 in
set_option maxHeartbeats 1000000 in
theorem pturn_bad (w : World) (bt : Nat) (vm : Value) (C : List ByteArray) (O : List Int) (hm : IsMap w vm C O) (hk : ∀ k ∈ C, k.size ≤ 9223372036854775807) (he : mapErr C O ≠ 0) :
    Calls Tryz.prog 15 #[.pointer (some ⟨bt, 0, none⟩), vm] w fun e w' => e = .returned (.tuple #[.int .i64 0, .int .i64 (mapErr C O)]) ∧ Ext w w' := by
  obtain ⟨a1, k1, a2, k2, rfl, m1, m2⟩ := hm.unpack
  have b1 := heap_alloc_new w (.cells #[.slice a1 C.length k1, .slice a2 O.length k2] 25)
  have E0 := (Ext.refl w).alloc (.cells #[.slice a1 C.length k1, .slice a2 O.length k2] 25)
  obtain ⟨w0, hw0⟩ : ∃ w0, w.alloc (.cells #[.slice a1 C.length k1, .slice a2 O.length k2] 25) = w0 := ⟨_, rfl⟩
  rw [hw0] at b1 E0
  have x1 := blk2 b1
  have MC := hid (mcheck_any _ C O w0 (hm.ext E0) hk)
  have q : (mapErr C O != 0) = true := by simp [he]
  clear m1 m2 hm b1 he
  generalize mapErr C O = er at MC q ⊢
  go_enter Tryz.func15, Tryz.ntmps15
  go_wp2_with fail
  refine (MC.out).mono ?_
  clear MC
  rintro e w1 ⟨rfl, E1⟩
  clear hw0
  go_wp2
  go_ret2
  exact ⟨rfl, E0.trans E1⟩
set_option maxRecDepth 100000 in
set_option maxHeartbeats 1000000 in
theorem pmap_ok {w : World} {bt : Nat} {C : List ByteArray} {O : List Int} {P : Nat → Prs} {vc vo : Value} {pv : Nat → Value} (h : PartsSt w bt C O P vc vo pv) (hm : MapOk C O) :
    Calls Tryz.prog 5 #[.pointer (some ⟨bt, 0, none⟩)] w fun e w' => ∃ v', e = .returned v' ∧ OwnMap w' w.heap.size v' C O ∧ Ext w w' := by
  have E0 := (Ext.refl w).alloc (.cells #[.slice none 0 0, .slice none 0 0] 25)
  have hb := heap_alloc_new w (.cells #[.slice none 0 0, .slice none 0 0] 25)
  obtain ⟨w0, hw0⟩ : ∃ w0, w.alloc (.cells #[.slice none 0 0, .slice none 0 0] 25) = w0 := ⟨_, rfl⟩
  obtain ⟨rb, hrb⟩ : ∃ rb, w.heap.size = rb := ⟨_, rfl⟩
  have hs0 : w0.heap.size = rb + 1 := by rw [← hw0, ← hrb]; simp
  rw [hw0] at E0 hb
  rw [hrb] at hb
  replace h := h.ext E0
  have x := h.cell0
  obtain ⟨a1, k1, e1⟩ := own_form h.cuts
  obtain ⟨a2, k2, e2⟩ := own_form h.owners
  have hI := h.is
  rw [e1, e2] at hI x
  have few := hm.few
  have len := hm.len
  have CP := hid (copied_any _ C O w0 hI (by omega) (by omega))
  have HS0 := hid hs0
  have HB := hid hb
  have hrl : w.heap.size ≤ rb := by omega
  clear h hI e1 e2 len few hs0 hb
  go_enter Tryz.func5, Tryz.ntmps5
  go_wp2_with fail
  refine (CP.out).mono ?_
  clear CP hw0 hrb
  rintro e w1 ⟨v', rfl, hmy, E1⟩
  have hbR := E1.heap HB.out
  obtain ⟨c', o', rfl, q1, q2⟩ := hmy
  obtain ⟨a3, k3, rfl⟩ := own_form q1
  obtain ⟨a4, k4, rfl⟩ := own_form q2
  have hb2 := blk2 hbR
  have rB := blk2 (blk2_set2 (u := .slice a3 C.length k3) (v := .slice a4 O.length k4) hbR)
  have EE := hid (((E0.trans E1).setCell (p := ⟨rb, 0, none⟩) hrl (.slice a3 C.length k3)).setCell (p := ⟨rb, 1, none⟩) hrl (.slice a4 O.length k4))
  have HM := hid (show OwnMap ((w1.setCell ⟨rb, 0, none⟩ (.slice a3 C.length k3)).setCell ⟨rb, 1, none⟩ (.slice a4 O.length k4)) w.heap.size (.agg #[.slice a3 C.length k3, .slice a4 O.length k4]) C O from
    ⟨_, _, rfl, own_base (own_set2 q1 (by show rb < _; rw [HS0.out]; omega) (by show rb < _; rw [HS0.out]; omega)) E0.size', own_base (own_set2 q2 (by show rb < _; rw [HS0.out]; omega) (by show rb < _; rw [HS0.out]; omega)) E0.size'⟩)
  clear q1 q2 E1 hbR
  go_wp2
  exact bodyPost_ret (v := .agg #[.slice a3 C.length k3, .slice a4 O.length k4]) (by simp [results, Tryz.results5, go_sem, rB.1, rB.2.1]) rfl ⟨_, rfl, HM.out, EE.out⟩
end Go.Proofs.YtimchedebcoohaaGreatDoor

/- Contracts and lemmas for the proofs of this seat; each theorem states its own conditions. -/
namespace Go.Proofs.YtimchedebcoohaaGreatDoor
open Go.RowKit
/-! the document's Deeds -/
def deedsE (D : List Ops) : Int := if 60 < D.length then 2 else firstE (fun i => deedE (D.getD i [])) D.length
theorem deedsE_at {D : List Ops} {k : Nat} (hk : k < D.length) : deedE (D.getD k []) = deedE D[k] := by simp [hk]
theorem deeds_ok' {D : List Ops} (h : deedsE D = 0) : D.length ≤ 60 ∧ ∀ d ∈ D, DeedOk d := by
  unfold deedsE at h
  split at h
  · cases h
  · refine ⟨by omega, fun d hd => ?_⟩
    obtain ⟨i, hi, rfl⟩ := List.mem_iff_getElem.1 hd
    have := firstE_all h i hi
    rw [deedsE_at hi] at this
    exact deed_ok this
end Go.Proofs.YtimchedebcoohaaGreatDoor
