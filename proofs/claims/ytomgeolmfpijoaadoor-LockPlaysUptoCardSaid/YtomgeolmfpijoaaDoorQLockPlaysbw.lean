/- Contracts and lemmas for the proof of LockPlays; each theorem states its own conditions. -/
import Derived.Test.YtomgeolmfpijoaaDoorQLockPlaysbi
import Derived.Test.YtomgeolmfpijoaaDoorQLockPlaysbt
import Derived.Test.YtomgeolmfpijoaaDoorQLockPlaysav
import Derived.Test.YtomgeolmfpijoaaDoorQLockPlaysbm
import Derived.Test.YtomgeolmfpijoaaDoorQLockPlaysbv
set_option linter.unusedVariables false
set_option linter.unusedSimpArgs false
/- Contracts and lemmas for the proofs of this seat; each theorem states its own conditions. -/
namespace Go.Proofs.YtomgeolmfpijoaaDoor
open Go.RowKit Go.Maps
/-! deed.Keys, deed.Clash at whatever is handed in -/
set_option maxRecDepth 10000 in
theorem keys_bad (vd : Value) (d : Ops) (w : World) (hvd : Seg w vd 4 d.length (cO d)) (hd : opsSm d) (hne : deedE d ≠ 0) :
    Calls Tryd.prog 103 #[.agg #[vd]] w fun e w' => e = .returned (.tuple #[.slice none 0 0, .slice none 0 0, .int .i64 (deedE d)]) ∧ Ext w w' := by
  obtain ⟨x, c, rfl⟩ := seg_form hvd
  have E0 := (Ext.refl w).alloc (.cells #[.slice x d.length c] 46)
  have b0 := heap_alloc_new w (.cells #[.slice x d.length c] 46)
  have c0 := cell_of_one b0
  have C := hid (dcheck_any (.slice x d.length c) d (w.alloc (.cells #[.slice x d.length c] 46)) (hvd.ext E0) hd)
  have q : (deedE d != 0) = true := by simp [hne]
  clear hne hvd
  go_enter Tryd.func103, Tryd.ntmps103
  go_wp2_with fail
  refine (C.out).mono ?_
  rintro e w1 ⟨rfl, E1⟩
  go_wp2
  go_ret3
  exact ⟨rfl, E0.trans E1⟩
theorem keys_all (vd : Value) (d : Ops) (w : World) (hvd : Seg w vd 4 d.length (cO d)) (hd : opsSm d) :
    Calls Tryd.prog 103 #[.agg #[vd]] w fun e w' => ∃ v1 v2 R U, e = .returned (.tuple #[v1, v2, .int .i64 (deedE d)]) ∧ w'.ownsRow w.heap.size 9 1 v1 R.length (cS R) ∧ w'.ownsRow w.heap.size 9 1 v2 U.length (cS U) ∧
      (deedE d = 0 → R = sortU (rds d) ∧ U = sortU (wrs d)) ∧ (deedE d ≠ 0 → R = [] ∧ U = []) ∧ Ext w w' := by
  by_cases h : deedE d = 0
  · refine (keys_ok vd d w hvd (deed_ok h) (fun o ho => (hd o ho).2)).mono ?_
    rintro e w' ⟨v1, v2, rfl, h1, h2, E⟩
    exact ⟨v1, v2, _, _, by rw [h], h1, h2, fun _ => ⟨rfl, rfl⟩, fun q => absurd h q, E⟩
  · refine (keys_bad vd d w hvd hd h).mono ?_
    rintro e w' ⟨rfl, E⟩
    exact ⟨_, _, [], [], rfl, World.ownsRow_nil _ _ _ _, World.ownsRow_nil _ _ _ _, fun q => absurd q h, fun _ => ⟨rfl, rfl⟩, E⟩
def twoE (a b : Ops) : Int := if deedE a = 0 then deedE b else deedE a
def clashE (a b : Ops) : Bool := if twoE a b = 0 then clashB a b else false
set_option maxRecDepth 10000 in
theorem clash_bad (va vb : Value) (a b : Ops) (w : World) (ha : Seg w va 4 a.length (cO a)) (hb : Seg w vb 4 b.length (cO b)) (oa : opsSm a) (ob : opsSm b) (hne : twoE a b ≠ 0) :
    Calls Tryd.prog 111 #[.agg #[va], .agg #[vb]] w fun e w' => e = .returned (.tuple #[.bool false, .int .i64 (twoE a b)]) ∧ Ext w w' := by
  obtain ⟨x1, c1, rfl⟩ := seg_form ha
  obtain ⟨x2, c2, rfl⟩ := seg_form hb
  have b1 := heap_1 w (.cells #[.slice x1 a.length c1] 46) (.cells #[.slice x2 b.length c2] 46)
  have b2 := heap_2 w (.cells #[.slice x1 a.length c1] 46) (.cells #[.slice x2 b.length c2] 46)
  have E := ((Ext.refl w).alloc (.cells #[.slice x1 a.length c1] 46)).alloc (.cells #[.slice x2 b.length c2] 46)
  have y1 := cell_of_one b1
  have y2 := cell_of_one b2
  have K1 := hid (keys_all (.slice x1 a.length c1) a _ (ha.ext E) oa)
  have hb := hb.ext E
  clear b1 b2 ha
  by_cases h : deedE a = 0
  · have ht := hid (show twoE a b = deedE b by unfold twoE; rw [if_pos h])
    have hn : deedE b ≠ 0 := by rw [← ht.out]; exact hne
    have q1 : (deedE a != 0) = false := by simp [h]
    have q2 : (deedE b != 0) = true := by simp [hn]
    clear h hne hn
    go_enter Tryd.func111, Tryd.ntmps111
    go_wp2_with fail
    refine (K1.out).mono ?_
    clear K1
    rintro e w1 ⟨r, u, R, U, rfl, _, _, _, _, E1⟩
    have z2 := E1.cell y2
    replace hb := hb.ext E1
    replace E := E.trans E1
    have K2 := hid (keys_all (.slice x2 b.length c2) b _ hb ob)
    clear y1 y2 E1 hb
    go_wp2_with fail
    refine (K2.out).mono ?_
    clear K2
    rintro e w2 ⟨s, t, R2, U2, rfl, _, _, _, _, E1⟩
    go_wp2
    go_ret2
    exact ⟨rT2 rfl (vI ht.out.symm), E.trans E1⟩
  · have ht := hid (show twoE a b = deedE a by unfold twoE; rw [if_neg h])
    have q1 : (deedE a != 0) = true := by simp [h]
    clear h hne
    go_enter Tryd.func111, Tryd.ntmps111
    go_wp2_with fail
    refine (K1.out).mono ?_
    clear K1
    rintro e w1 ⟨r, u, R, U, rfl, _, _, _, _, E1⟩
    go_wp2
    go_ret2
    exact ⟨rT2 rfl (vI ht.out.symm), E.trans E1⟩
theorem clash_all (va vb : Value) (a b : Ops) (w : World) (ha : Seg w va 4 a.length (cO a)) (hb : Seg w vb 4 b.length (cO b)) (oa : opsSm a) (ob : opsSm b) :
    Calls Tryd.prog 111 #[.agg #[va], .agg #[vb]] w fun e w' => e = .returned (.tuple #[.bool (clashE a b), .int .i64 (twoE a b)]) ∧ Ext w w' := by
  unfold clashE
  by_cases h : twoE a b = 0
  · rw [if_pos h, h]
    have ha0 : deedE a = 0 := by
      unfold twoE at h
      by_cases q : deedE a = 0
      · exact q
      · rw [if_neg q] at h; exact absurd h q
    have hb0 : deedE b = 0 := by unfold twoE at h; rw [if_pos ha0] at h; exact h
    exact clash_ok va vb a b w ha hb (deed_ok ha0) (deed_ok hb0) (fun o ho => (oa o ho).2) (fun o ho => (ob o ho).2)
  · rw [if_neg h]
    exact clash_bad va vb a b w ha hb oa ob h
end Go.Proofs.YtomgeolmfpijoaaDoor

/- Contracts and lemmas for the proofs of this seat; each theorem states its own conditions. -/
namespace Go.Proofs.YtomgeolmfpijoaaDoor
open Go.RowKit
/-! the document's Deeds -/
def deedsE (D : List Ops) : Int := if 60 < D.length then 2 else firstE (fun i => deedE (D.getD i [])) D.length
theorem deedsE_at {D : List Ops} {k : Nat} (hk : k < D.length) : deedE (D.getD k []) = deedE D[k] := by simp [hk]
theorem deeds_ok' {D : List Ops} (h : deedsE D = 0) : D.length ≤ 60 ∧ ∀ d ∈ D, DeedOk d := by
  unfold deedsE at h
  split at h
  · cases h
  · refine ⟨by omega, fun d hd => ?_⟩
    obtain ⟨i, hi, rfl⟩ := List.mem_iff_getElem.1 hd
    have := firstE_all h i hi
    rw [deedsE_at hi] at this
    exact deed_ok this
set_option maxRecDepth 10000 in
set_option maxHeartbeats 1000000 in
theorem rdeeds_any (v : Value) (D : List Ops) (w : World) (hv : SegDs w v D) (hd : ∀ d ∈ D, opsSm d) :
    Calls Tryd.prog 55 #[v] w fun e w' => e = .returned (.int .i64 (deedsE D)) ∧ Ext w w' := by
  obtain ⟨a, c, rfl, m1, m2, hc⟩ := hv.form
  have HC := hid hc
  clear hc hv
  unfold maxLen at m2
  by_cases hz : 60 < D.length
  · have HO := hid (show deedsE D = 2 by unfold deedsE; rw [if_pos hz])
    have hz' : (60 : Int) < (D.length : Int) := by omega
    clear hz
    go_enter Tryd.func55, Tryd.ntmps55
    go_wp2
    go_ret
    exact ⟨rI HO.out.symm, Ext.refl _⟩
  · have HO := hid (show deedsE D = firstE (fun i => deedE (D.getD i [])) D.length by unfold deedsE; rw [if_neg hz])
    have hz' : ¬ (60 : Int) < (D.length : Int) := by omega
    clear hz
    go_enter Tryd.func55, Tryd.ntmps55
    go_wp2
    clear hz'
    go_loopw [4, 5, 11] (fun _ _ iv wr => ∃ k : Nat, k ≤ D.length ∧ iv = .int .i64 k ∧ zeroTo (fun i => deedE (D.getD i [])) k ∧ Ext w wr) (fun _ _ iv _ => D.length - (intOf iv).toNat)
    case atStart => exact ⟨0, Nat.zero_le _, rfl, fun j h => absurd h (by omega), Ext.refl _⟩
    case round =>
      obtain ⟨wo, rfl⟩ : ∃ wo : World, wo = wr := ⟨_, rfl⟩
      obtain ⟨k, hkl, rfl, hall, E⟩ := hrel
      by_cases hlt : k < D.length
      · obtain ⟨b, off, rfl, hc⟩ := HC.out (by omega)
        obtain ⟨au, cu, hcell, hs⟩ := hc k D[k] (List.getElem?_eq_getElem hlt)
        have c0 := E.cell hcell
        have hs := hs.ext E
        have hsm := hd _ (List.getElem_mem hlt)
        have hE := deedsE_at hlt
        have FE := hid (fun (h : deedE D[k] ≠ 0) => (firstE_at hall (fun h0 => h (hE.symm.trans h0)) hlt).trans hE)
        have ZS := hid (fun (h : deedE D[k] = 0) => zeroTo_succ hall (hE.trans h))
        clear hc hcell hall hE
        generalize D[k] = d at c0 hs hsm FE ZS
        have EA := (Ext.refl wo).alloc (.cells #[.slice au d.length cu] 46)
        have xb := heap_alloc_new wo (.cells #[.slice au d.length cu] 46)
        have y0 := cell_of_one xb
        have CK := hid (rdeed_any (.slice au d.length cu) d _ (hs.ext EA) hsm)
        clear hs xb
        by_cases h0 : deedE d = 0
        · have HZ := hid (ZS.out h0)
          have q : (deedE d != 0) = false := by simp [h0]
          clear h0 FE ZS
          go_wp2_with fail
          refine (CK.out).mono ?_
          rintro e w1 ⟨rfl, E1⟩
          go_wp2
          go_roundw
          case rel => exact ⟨k + 1, by omega, by go_num, HZ.out, E.trans (EA.trans E1)⟩
          case measure => simp [intOf] <;> omega
        · have HF := hid (FE.out h0)
          have q : (deedE d != 0) = true := by simp [h0]
          clear h0 FE ZS
          go_wp2_with fail
          refine (CK.out).mono ?_
          rintro e w1 ⟨rfl, E1⟩
          go_wp2
          go_ret
          exact ⟨rI (by rw [HO.out, HF.out]), E.trans (EA.trans E1)⟩
      · obtain rfl : k = D.length := by omega
        have HZ2 := hid (firstE_zero hall)
        clear hall
        go_wp2
        go_ret
        exact ⟨rI (by rw [HO.out, HZ2.out]), E⟩
end Go.Proofs.YtomgeolmfpijoaaDoor

/- Contracts and lemmas for the proofs of this seat; each theorem states its own conditions. -/
namespace Go.Proofs.YtomgeolmfpijoaaDoor
open Go.RowKit
/-! lock.Table.Add of what may not be, of one too many; plan.laid of what may not be -/
set_option maxRecDepth 100000 in
theorem add_bad (bt : Nat) (vd : Value) (d : Ops) (w : World) (hvd : Seg w vd 4 d.length (cO d)) (hd : opsSm d) (hne : deedE d ≠ 0) :
    Calls Tryd.prog 45 #[.pointer (some ⟨bt, 0, none⟩), .agg #[vd]] w fun e w' => e = .returned (.tuple #[.int .i64 0, .int .i64 (deedE d)]) ∧ Ext w w' := by
  obtain ⟨a0, c0, rfl⟩ := seg_form hvd
  have E0 := (Ext.refl w).alloc (.cells #[.slice a0 d.length c0] 46)
  have c00 := cell_of_one (heap_alloc_new w (.cells #[.slice a0 d.length c0] 46))
  have K := hid (keys_bad (.slice a0 d.length c0) d (w.alloc (.cells #[.slice a0 d.length c0] 46)) (hvd.ext E0) hd hne)
  have q : (deedE d != 0) = true := by simp [hne]
  clear hne hvd
  go_enter Tryd.func45, Tryd.ntmps45
  go_wp2_with fail
  refine (K.out).mono ?_
  rintro e w1 ⟨rfl, E1⟩
  go_wp2
  go_ret2
  exact ⟨rfl, E0.trans E1⟩
set_option maxRecDepth 100000 in
theorem add_full {w : World} {B bt bk bd : Nat} {A : List Ops} {g : Nat → Bool} {F : ByteArray → Option SV} {G : Int → Option SV} (h : LockSt w B bt bk bd A g F G) (vd : Value) (d : Ops) (hvd : Seg w vd 4 d.length (cO d)) (hd : DeedOk d) (hf : ∀ o ∈ d, o.from_.size ≤ 9223372036854775807) (hfull : A.length = 60) :
    Calls Tryd.prog 45 #[.pointer (some ⟨bt, 0, none⟩), .agg #[vd]] w fun e w' => e = .returned (.tuple #[.int .i64 0, .int .i64 2]) ∧ Ext w w' := by
  obtain ⟨a0, c0, rfl⟩ := seg_form hvd
  have E0 := (Ext.refl w).alloc (.cells #[.slice a0 d.length c0] 46)
  have c00 := cell_of_one (heap_alloc_new w (.cells #[.slice a0 d.length c0] 46))
  have K := hid (keys_ok (.slice a0 d.length c0) d (w.alloc (.cells #[.slice a0 d.length c0] 46)) (hvd.ext E0) hd hf)
  have HB := hid (fun w' (E : Ext w w') => (by
    have hb := (h.ext E).box
    rw [hfull] at hb
    simp [World.cell?, hb] : w'.cell? ⟨bt, 2, none⟩ = some (.int .i64 60)))
  clear h hvd hfull
  go_enter Tryd.func45, Tryd.ntmps45
  go_wp2_with fail
  refine (K.out).mono ?_
  rintro e w1 ⟨v1, v2, rfl, _, _, E1⟩
  clear K
  replace E1 := E0.trans E1
  have cb := HB.out w1 E1
  go_wp2
  go_ret2
  exact ⟨rfl, E1⟩
set_option maxRecDepth 100000 in
set_option maxHeartbeats 2000000 in
theorem laid_bad (vd : Value) (D : List Ops) (w : World) (hvd : SegDs w vd D) (hd : ∀ d ∈ D, opsSm d) (hne : deedsE D ≠ 0) :
    Calls Tryd.prog 110 #[vd] w fun e w' => e = .returned (.tuple #[.pointer none, .int .i64 (deedsE D)]) ∧ Ext w w' := by
  obtain ⟨aD, cD, rfl, hc1, hc2, hcell⟩ := hvd.form
  have HC := hid hcell
  clear hcell hvd
  unfold maxLen at hc2
  by_cases hz : 60 < D.length
  · have HO := hid (show deedsE D = 2 by unfold deedsE; rw [if_pos hz])
    have hz' : (60 : Int) < (D.length : Int) := by omega
    clear hz hne
    go_enter Tryd.func110, Tryd.ntmps110
    go_wp2
    go_ret2
    exact ⟨rT2 rfl (vI HO.out.symm), Ext.refl _⟩
  · have HO := hid (show deedsE D = firstE (fun i => deedE (D.getD i [])) D.length by unfold deedsE; rw [if_neg hz])
    have hz' : ¬ (60 : Int) < (D.length : Int) := by omega
    have H2 := hid hne
    clear hne
    go_enter Tryd.func110, Tryd.ntmps110
    go_wp2_with fail
    refine (lnew_ok _).mono ?_
    rintro e w3 ⟨bt, bk, bd, rfl, L0, E3⟩
    go_wp2_with fail
    clear hz'
    go_loopw [6, 7, 8, 15] (fun _ _ _ i wr => ∃ (k : Nat) (F : ByteArray → Option SV) (G : Int → Option SV), k ≤ D.length ∧ i = .int .i64 k ∧ zeroTo (fun i => deedE (D.getD i [])) k ∧ LockSt wr w.heap.size bt bk bd (D.take k) (fun _ => false) F G ∧ TFr w.heap.size bt bk bd w3 wr) (fun _ _ _ i _ => D.length - (intOf i).toNat)
    case atStart => exact ⟨0, _, _, Nat.zero_le _, rfl, fun j h => absurd h (by omega), L0, TFr.refl _⟩
    case round =>
      obtain ⟨wo, rfl⟩ : ∃ wo : World, wo = wr := ⟨_, rfl⟩
      obtain ⟨k, F, G, hk, rfl, hall, hL, hT⟩ := hrel
      have Er := hT.low E3 (Nat.le_refl _)
      by_cases hlt : k < D.length
      · obtain ⟨b, off, rfl, hcc⟩ := HC.out (by omega)
        obtain ⟨x1, y1, c1, s1⟩ := hcc k D[k] (List.getElem?_eq_getElem hlt)
        replace c1 := Er.cell c1
        replace s1 := s1.ext Er
        have f1 := hd _ (List.getElem_mem hlt)
        have hdt : D.take k ++ [D[k]] = D.take (k + 1) := (List.take_succ_eq_append_getElem hlt).symm
        have hlk : (D.take k).length = k := by rw [List.length_take]; omega
        have hE := deedsE_at hlt
        have FE := hid (fun (h : deedE D[k] ≠ 0) => (firstE_at hall (fun h0 => h (hE.symm.trans h0)) hlt).trans hE)
        have ZS := hid (fun (h : deedE D[k] = 0) => zeroTo_succ hall (hE.trans h))
        clear hcc hall hE
        generalize D[k] = p at c1 s1 f1 hdt FE ZS
        have EA := (Ext.refl wo).alloc (.cells #[.slice x1 p.length y1] 46)
        have z1 := cell_of_one (heap_alloc_new wo (.cells #[.slice x1 p.length y1] 46))
        have HT := hid ((hT.trans (TFr.of_ext EA)))
        by_cases h0 : deedE p = 0
        · have HZ := hid (ZS.out h0)
          have AD := add_ok (hL.ext EA) (.slice x1 p.length y1) p (s1.ext EA) (deed_ok h0) (fun o ho => (f1 o ho).2) (by omega)
          rw [hdt, hlk] at AD
          have AD := hid AD
          clear hdt hlk hL hT h0 FE ZS
          go_wp2_with fail
          refine (AD.out).mono ?_
          rintro e w5 ⟨rfl, ⟨F', G', L5⟩, T5⟩
          go_wp2
          go_roundw
          case rel => exact ⟨k + 1, F', G', by omega, by go_num, HZ.out, L5, (HT.out).trans T5⟩
          case measure => simp [intOf] <;> omega
        · have HF := hid (FE.out h0)
          have q : (deedE p != 0) = true := by simp [h0]
          have AD := hid (add_bad bt (.slice x1 p.length y1) p _ (s1.ext EA) f1 h0)
          clear hdt hlk hL hT h0 FE ZS
          go_wp2_with fail
          refine (AD.out).mono ?_
          rintro e w5 ⟨rfl, E5⟩
          go_wp2
          go_ret2
          exact ⟨rT2 rfl (vI (by rw [HO.out, HF.out])), Er.trans (EA.trans E5)⟩
      · obtain rfl : k = D.length := by omega
        exact absurd (HO.out.trans (firstE_zero hall)) H2.out
/-! plan.Rounds, plan.Order of what may not be -/
set_option maxRecDepth 100000 in
theorem rounds_bad (vd : Value) (D : List Ops) (w : World) (hvd : SegDs w vd D) (hd : ∀ d ∈ D, opsSm d) (hne : deedsE D ≠ 0) :
    Calls Tryd.prog 53 #[vd] w fun e w' => e = .returned (.tuple #[.slice none 0 0, .int .i64 (deedsE D)]) ∧ Ext w w' := by
  have LD := hid (laid_bad vd D w hvd hd hne)
  have q : (deedsE D != 0) = true := by simp [hne]
  obtain ⟨aD, cD, rfl, _⟩ := hvd.form
  clear hne hvd
  go_enter Tryd.func53, Tryd.ntmps53
  go_wp2_with fail
  refine (LD.out).mono ?_
  rintro e w1 ⟨rfl, E1⟩
  go_wp2
  go_ret2
  exact ⟨rfl, E1⟩
set_option maxRecDepth 100000 in
theorem order_bad (vd vo : Value) (D : List Ops) (w : World) (hvd : SegDs w vd D) (hd : ∀ d ∈ D, opsSm d) (hne : deedsE D ≠ 0) :
    Calls Tryd.prog 54 #[vd, vo] w fun e w' => e = .returned (.tuple #[.bool false, .int .i64 (deedsE D)]) ∧ Ext w w' := by
  have LD := hid (laid_bad vd D w hvd hd hne)
  have q : (deedsE D != 0) = true := by simp [hne]
  obtain ⟨aD, cD, rfl, _⟩ := hvd.form
  clear hne hvd
  go_enter Tryd.func54, Tryd.ntmps54
  go_wp2_with fail
  refine (LD.out).mono ?_
  rintro e w1 ⟨rfl, E1⟩
  go_wp2
  go_ret2
  exact ⟨rfl, E1⟩
end Go.Proofs.YtomgeolmfpijoaaDoor
