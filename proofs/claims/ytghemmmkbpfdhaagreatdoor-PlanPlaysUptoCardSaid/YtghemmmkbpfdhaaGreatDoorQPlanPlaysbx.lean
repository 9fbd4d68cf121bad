/- Contracts and lemmas for the proof of PlanPlays; each theorem states its own conditions. -/
import Derived.Test.YtghemmmkbpfdhaaGreatDoorQPlanPlaysbs
import Derived.Test.YtghemmmkbpfdhaaGreatDoorQPlanPlaysbk
import Derived.Test.YtghemmmkbpfdhaaGreatDoorQPlanPlaysbm
import Derived.Test.YtghemmmkbpfdhaaGreatDoorQPlanPlaysbt
import Derived.Test.YtghemmmkbpfdhaaGreatDoorQPlanPlaysbn
import Derived.Test.YtghemmmkbpfdhaaGreatDoorQPlanPlaysbv
import Derived.Test.YtghemmmkbpfdhaaGreatDoorQPlanPlaysbc
import Derived.Test.YtghemmmkbpfdhaaGreatDoorQPlanPlaysbp
import Derived.Test.YtghemmmkbpfdhaaGreatDoorQPlanPlaysbe
import Derived.Test.YtghemmmkbpfdhaaGreatDoorQPlanPlaysbf
set_option linter.unusedVariables false
set_option linter.unusedSimpArgs false
/- Contracts and lemmas for the proofs of this seat; each theorem states its own conditions. -/
namespace Go.Proofs.YtghemmmkbpfdhaaGreatDoor
open Go.RowKit Go.Maps
/-! deed.Keys, deed.Clash at whatever is handed in -/
set_option maxRecDepth 10000 in
theorem keys_bad (vd : Value) (d : Ops) (w : World) (hvd : Seg w vd 4 d.length (cO d)) (hd : opsSm d) (hne : deedE d ≠ 0) :
    Calls Tryz.prog 52 #[.agg #[vd]] w fun e w' => e = .returned (.tuple #[.slice none 0 0, .slice none 0 0, .int .i64 (deedE d)]) ∧ Ext w w' := by
  obtain ⟨x, c, rfl⟩ := seg_form hvd
  have E0 := (Ext.refl w).alloc (.cells #[.slice x d.length c] 33)
  have b0 := heap_alloc_new w (.cells #[.slice x d.length c] 33)
  have c0 := cell_of_one b0
  have C := hid (dcheck_any (.slice x d.length c) d (w.alloc (.cells #[.slice x d.length c] 33)) (hvd.ext E0) hd)
  have q : (deedE d != 0) = true := by simp [hne]
  clear hne hvd
  go_enter Tryz.func52, Tryz.ntmps52
  go_wp2_with fail
  refine (C.out).mono ?_
  rintro e w1 ⟨rfl, E1⟩
  go_wp2
  go_ret3
  exact ⟨rfl, E0.trans E1⟩
theorem keys_all (vd : Value) (d : Ops) (w : World) (hvd : Seg w vd 4 d.length (cO d)) (hd : opsSm d) :
    Calls Tryz.prog 52 #[.agg #[vd]] w fun e w' => ∃ v1 v2 R U, e = .returned (.tuple #[v1, v2, .int .i64 (deedE d)]) ∧ w'.ownsRow w.heap.size 9 1 v1 R.length (cS R) ∧ w'.ownsRow w.heap.size 9 1 v2 U.length (cS U) ∧
      (deedE d = 0 → R = sortU (rds d) ∧ U = sortU (wrs d)) ∧ (deedE d ≠ 0 → R = [] ∧ U = []) ∧ Ext w w' := by
  by_cases h : deedE d = 0
  · refine (keys_ok vd d w hvd (deed_ok h) (fun o ho => (hd o ho).2)).mono ?_
    rintro e w' ⟨v1, v2, rfl, h1, h2, E⟩
    exact ⟨v1, v2, _, _, by rw [h], h1, h2, fun _ => ⟨rfl, rfl⟩, fun q => absurd h q, E⟩
  · refine (keys_bad vd d w hvd hd h).mono ?_
    rintro e w' ⟨rfl, E⟩
    exact ⟨_, _, [], [], rfl, World.ownsRow_nil _ _ _ _, World.ownsRow_nil _ _ _ _, fun q => absurd q h, fun _ => ⟨rfl, rfl⟩, E⟩
def twoE (a b : Ops) : Int := if deedE a = 0 then deedE b else deedE a
def clashE (a b : Ops) : Bool := if twoE a b = 0 then clashB a b else false
end Go.Proofs.YtghemmmkbpfdhaaGreatDoor

/- Contracts and lemmas for the proofs of this seat; each theorem states its own conditions. -/
namespace Go.Proofs.YtghemmmkbpfdhaaGreatDoor
open Go.RowKit
/-! lock.Table.Add of what may not be, of one too many; plan.laid of what may not be -/
set_option maxRecDepth 100000 in
theorem add_bad (bt : Nat) (vd : Value) (d : Ops) (w : World) (hvd : Seg w vd 4 d.length (cO d)) (hd : opsSm d) (hne : deedE d ≠ 0) :
    Calls Tryz.prog 66 #[.pointer (some ⟨bt, 0, none⟩), .agg #[vd]] w fun e w' => e = .returned (.tuple #[.int .i64 0, .int .i64 (deedE d)]) ∧ Ext w w' := by
  obtain ⟨a0, c0, rfl⟩ := seg_form hvd
  have E0 := (Ext.refl w).alloc (.cells #[.slice a0 d.length c0] 33)
  have c00 := cell_of_one (heap_alloc_new w (.cells #[.slice a0 d.length c0] 33))
  have K := hid (keys_bad (.slice a0 d.length c0) d (w.alloc (.cells #[.slice a0 d.length c0] 33)) (hvd.ext E0) hd hne)
  have q : (deedE d != 0) = true := by simp [hne]
  clear hne hvd
  go_enter Tryz.func66, Tryz.ntmps66
  go_wp2_with fail
  refine (K.out).mono ?_
  rintro e w1 ⟨rfl, E1⟩
  go_wp2
  go_ret2
  exact ⟨rfl, E0.trans E1⟩
set_option maxRecDepth 100000 in
theorem add_full {w : World} {B bt bk bd : Nat} {A : List Ops} {g : Nat → Bool} {F : ByteArray → Option SV} {G : Int → Option SV} (h : LockSt w B bt bk bd A g F G) (vd : Value) (d : Ops) (hvd : Seg w vd 4 d.length (cO d)) (hd : DeedOk d) (hf : ∀ o ∈ d, o.from_.size ≤ 9223372036854775807) (hfull : A.length = 60) :
    Calls Tryz.prog 66 #[.pointer (some ⟨bt, 0, none⟩), .agg #[vd]] w fun e w' => e = .returned (.tuple #[.int .i64 0, .int .i64 2]) ∧ Ext w w' := by
  obtain ⟨a0, c0, rfl⟩ := seg_form hvd
  have E0 := (Ext.refl w).alloc (.cells #[.slice a0 d.length c0] 33)
  have c00 := cell_of_one (heap_alloc_new w (.cells #[.slice a0 d.length c0] 33))
  have K := hid (keys_ok (.slice a0 d.length c0) d (w.alloc (.cells #[.slice a0 d.length c0] 33)) (hvd.ext E0) hd hf)
  have HB := hid (fun w' (E : Ext w w') => (by
    have hb := (h.ext E).box
    rw [hfull] at hb
    simp [World.cell?, hb] : w'.cell? ⟨bt, 2, none⟩ = some (.int .i64 60)))
  clear h hvd hfull
  go_enter Tryz.func66, Tryz.ntmps66
  go_wp2_with fail
  refine (K.out).mono ?_
  rintro e w1 ⟨v1, v2, rfl, _, _, E1⟩
  clear K
  replace E1 := E0.trans E1
  have cb := HB.out w1 E1
  go_wp2
  go_ret2
  exact ⟨rfl, E1⟩
set_option maxRecDepth 100000 in
set_option maxHeartbeats 2000000 in
theorem laid_bad (vd : Value) (D : List Ops) (w : World) (hvd : SegDs w vd D) (hd : ∀ d ∈ D, opsSm d) (hne : deedsE D ≠ 0) :
    Calls Tryz.prog 35 #[vd] w fun e w' => e = .returned (.tuple #[.pointer none, .int .i64 (deedsE D)]) ∧ Ext w w' := by
  obtain ⟨aD, cD, rfl, hc1, hc2, hcell⟩ := hvd.form
  have HC := hid hcell
  clear hcell hvd
  unfold maxLen at hc2
  by_cases hz : 60 < D.length
  · have HO := hid (show deedsE D = 2 by unfold deedsE; rw [if_pos hz])
    have hz' : (60 : Int) < (D.length : Int) := by omega
    clear hz hne
    go_enter Tryz.func35, Tryz.ntmps35
    go_wp2
    go_ret2
    exact ⟨rT2 rfl (vI HO.out.symm), Ext.refl _⟩
  · have HO := hid (show deedsE D = firstE (fun i => deedE (D.getD i [])) D.length by unfold deedsE; rw [if_neg hz])
    have hz' : ¬ (60 : Int) < (D.length : Int) := by omega
    have H2 := hid hne
    clear hne
    go_enter Tryz.func35, Tryz.ntmps35
    go_wp2_with fail
    refine (lnew_ok _).mono ?_
    rintro e w3 ⟨bt, bk, bd, rfl, L0, E3⟩
    go_wp2_with fail
    clear hz'
    go_loopw [6, 7, 8, 15] (fun _ _ _ i wr => ∃ (k : Nat) (F : ByteArray → Option SV) (G : Int → Option SV), k ≤ D.length ∧ i = .int .i64 k ∧ zeroTo (fun i => deedE (D.getD i [])) k ∧ LockSt wr w.heap.size bt bk bd (D.take k) (fun _ => false) F G ∧ TFr w.heap.size bt bk bd w3 wr) (fun _ _ _ i _ => D.length - (intOf i).toNat)
    case atStart => exact ⟨0, _, _, Nat.zero_le _, rfl, fun j h => absurd h (by omega), L0, TFr.refl _⟩
    case round =>
      obtain ⟨wo, rfl⟩ : ∃ wo : World, wo = wr := ⟨_, rfl⟩
      obtain ⟨k, F, G, hk, rfl, hall, hL, hT⟩ := hrel
      have Er := hT.low E3 (Nat.le_refl _)
      by_cases hlt : k < D.length
      · obtain ⟨b, off, rfl, hcc⟩ := HC.out (by omega)
        obtain ⟨x1, y1, c1, s1⟩ := hcc k D[k] (List.getElem?_eq_getElem hlt)
        replace c1 := Er.cell c1
        replace s1 := s1.ext Er
        have f1 := hd _ (List.getElem_mem hlt)
        have hdt : D.take k ++ [D[k]] = D.take (k + 1) := (List.take_succ_eq_append_getElem hlt).symm
        have hlk : (D.take k).length = k := by rw [List.length_take]; omega
        have hE := deedsE_at hlt
        have FE := hid (fun (h : deedE D[k] ≠ 0) => (firstE_at hall (fun h0 => h (hE.symm.trans h0)) hlt).trans hE)
        have ZS := hid (fun (h : deedE D[k] = 0) => zeroTo_succ hall (hE.trans h))
        clear hcc hall hE
        generalize D[k] = p at c1 s1 f1 hdt FE ZS
        have EA := (Ext.refl wo).alloc (.cells #[.slice x1 p.length y1] 33)
        have z1 := cell_of_one (heap_alloc_new wo (.cells #[.slice x1 p.length y1] 33))
        have HT := hid ((hT.trans (TFr.of_ext EA)))
        by_cases h0 : deedE p = 0
        · have HZ := hid (ZS.out h0)
          have AD := add_ok (hL.ext EA) (.slice x1 p.length y1) p (s1.ext EA) (deed_ok h0) (fun o ho => (f1 o ho).2) (by omega)
          rw [hdt, hlk] at AD
          have AD := hid AD
          clear hdt hlk hL hT h0 FE ZS
          go_wp2_with fail
          refine (AD.out).mono ?_
          rintro e w5 ⟨rfl, ⟨F', G', L5⟩, T5⟩
          go_wp2
          go_roundw
          case rel => exact ⟨k + 1, F', G', by omega, by go_num, HZ.out, L5, (HT.out).trans T5⟩
          case measure => simp [intOf] <;> omega
        · have HF := hid (FE.out h0)
          have q : (deedE p != 0) = true := by simp [h0]
          have AD := hid (add_bad bt (.slice x1 p.length y1) p _ (s1.ext EA) f1 h0)
          clear hdt hlk hL hT h0 FE ZS
          go_wp2_with fail
          refine (AD.out).mono ?_
          rintro e w5 ⟨rfl, E5⟩
          go_wp2
          go_ret2
          exact ⟨rT2 rfl (vI (by rw [HO.out, HF.out])), Er.trans (EA.trans E5)⟩
      · obtain rfl : k = D.length := by omega
        exact absurd (HO.out.trans (firstE_zero hall)) H2.out
/-! plan.Rounds, plan.Order of what may not be -/
end Go.Proofs.YtghemmmkbpfdhaaGreatDoor

/- Contracts and lemmas for the proofs of this seat; each theorem states its own conditions. -/
namespace Go.Proofs.YtghemmmkbpfdhaaGreatDoor
open Go.RowKit
/-! plan.Play at whatever is handed in -/
def playE (S : Prs) (D : List Ops) : Int := if storeErr S ≠ 0 then storeErr S else deedsE D
set_option maxRecDepth 100000 in
set_option maxHeartbeats 1000000 in
theorem play_bad (v vd vp : Value) (S : Prs) (D : List Ops) (w : World) (hv : Seg w v 2 S.length (cP S)) (hk : ∀ p ∈ S, p.1.size ≤ 9223372036854775807) (hvd : SegDs w vd D) (hd : ∀ d ∈ D, opsSm d) (he : playE S D ≠ 0) :
    Calls Tryz.prog 5 #[v, vd, vp] w fun e w' => e = .returned (.tuple #[.slice none 0 0, .slice none 0 0, .slice none 0 0, .int .i64 (playE S D)]) ∧ Ext w w' := by
  have CK := hid (scheck_any v S w hv hk)
  by_cases h : storeErr S = 0
  · have e1 : playE S D = deedsE D := by unfold playE; rw [if_neg (by simp [h])]
    rw [e1] at he ⊢
    rw [h] at CK
    have LD := hid (fun w' (E : Ext w w') => laid_bad vd D w' (hvd.ext E) hd he)
    have q : (deedsE D != 0) = true := by simp [he]
    clear e1 he h hvd hd
    generalize deedsE D = er at LD q ⊢
    go_enter Tryz.func5, Tryz.ntmps5
    go_wp2_with fail
    refine (CK.out).mono ?_
    clear CK
    rintro e w1 ⟨rfl, E1⟩
    have LD1 := hid (LD.out w1 E1)
    clear LD
    go_wp2_with fail
    refine (LD1.out).mono ?_
    clear LD1
    rintro e w2 ⟨rfl, E2⟩
    go_wp2
    exact bodyPost_ret (v := .tuple #[.slice none 0 0, .slice none 0 0, .slice none 0 0, .int .i64 er]) (results_tmp4 (t := 6) (u := 7) (v := 8) (x := 9) rfl _ _ _) rfl ⟨rfl, E1.trans E2⟩
  · have e1 : playE S D = storeErr S := by unfold playE; rw [if_pos h]
    rw [e1]
    have q : (storeErr S != 0) = true := by simp [h]
    clear e1 he h hvd hd hv
    generalize storeErr S = er at CK q ⊢
    go_enter Tryz.func5, Tryz.ntmps5
    go_wp2_with fail
    refine (CK.out).mono ?_
    clear CK
    rintro e w1 ⟨rfl, E1⟩
    go_wp2
    exact bodyPost_ret (v := .tuple #[.slice none 0 0, .slice none 0 0, .slice none 0 0, .int .i64 er]) (results_tmp4 (t := 6) (u := 7) (v := 8) (x := 9) rfl _ _ _) rfl ⟨rfl, E1⟩
theorem play_all (v vd vp : Value) (S : Prs) (D : List Ops) (P : List Int) (w : World) (hv : Seg w v 2 S.length (cP S)) (hk : ∀ p ∈ S, p.1.size ≤ 9223372036854775807) (hlS : S.length ≤ 900000) (hvd : SegDs w vd D) (hd : ∀ d ∈ D, opsSm d) (hvp : Seg w vp 1 P.length (cI P)) :
    Calls Tryz.prog 5 #[v, vd, vp] w fun e w' => ∃ v' vb vo L Bs Os, e = .returned (.tuple #[v', vb, vo, .int .i64 (playE S D)]) ∧ w'.ownsRow w.heap.size 45 2 v' L.length (cP L) ∧ w'.ownsRow w.heap.size 4 1 vb Bs.length (cB Bs) ∧ w'.ownsRow w.heap.size 3 1 vo Os.length (cN Os) ∧
      (playE S D = 0 → L = (playN D S P D.length).2.2.1 ∧ Bs = (playN D S P D.length).2.2.2 ∧ Os = (playN D S P D.length).1 ∧ Bs.length = D.length ∧ Os.length = D.length) ∧ (playE S D ≠ 0 → L = [] ∧ Bs = [] ∧ Os = []) ∧ Ext w w' := by
  by_cases h : playE S D = 0
  · have h1 : storeErr S = 0 := by
      by_cases q : storeErr S = 0
      · exact q
      · unfold playE at h; rw [if_pos q] at h; exact h
    have h2 : deedsE D = 0 := by unfold playE at h; rw [if_neg (by simp [h1])] at h; exact h
    obtain ⟨h60, hok⟩ := deeds_ok' h2
    have h3 := playN_inv D S P D.length (Nat.le_refl _)
    obtain ⟨g1, g2, g3⟩ := h3
    have g4 := g1.len
    refine (play_ok v vd vp S D P w hv (store_ok h1) hlS hvd hok (fun d hd' o ho => (hd d hd' o ho).2) h60 hvp).mono ?_
    rintro e w' ⟨v', vb, vo, rfl, o1, o2, o3, E⟩
    refine ⟨v', vb, vo, _, _, _, by rw [h], o1, ?_, ?_, fun _ => ⟨rfl, rfl, rfl, g4, g3⟩, fun q => absurd h q, E⟩
    · rw [g4]; exact o2
    · rw [g3]; exact o3
  · refine (play_bad v vd vp S D w hv hk hvd hd h).mono ?_
    rintro e w' ⟨rfl, E⟩
    exact ⟨_, _, _, [], [], [], rfl, World.ownsRow_nil _ _ _ _, World.ownsRow_nil _ _ _ _, World.ownsRow_nil _ _ _ _, fun q => absurd q h, fun _ => ⟨rfl, rfl, rfl⟩, E⟩
end Go.Proofs.YtghemmmkbpfdhaaGreatDoor

/- Contracts and lemmas for the proofs of this seat; each theorem states its own conditions. -/
namespace Go.Proofs.YtghemmmkbpfdhaaGreatDoor
open Go.RowKit
/-! deed.Run, deed.Serial at whatever is handed in -/
theorem run_all (v vd : Value) (l : Prs) (d : Ops) (w : World) (hv : Seg w v 2 l.length (cP l)) (hvd : Seg w vd 4 d.length (cO d)) (hk : ∀ p ∈ l, p.1.size ≤ 9223372036854775807) (hd : opsSm d) (hlen : l.length ≤ 998000) :
    Calls Tryz.prog 39 #[v, .agg #[vd]] w fun e w' => ∃ v' L ok, e = .returned (.tuple #[v', .bool ok, .int .i64 (runE l d)]) ∧ w'.ownsRow w.heap.size 45 2 v' L.length (cP L) ∧ (runE l d = 0 → L = runS l d ∧ ok = runB l d) ∧ (runE l d ≠ 0 → L = [] ∧ ok = false) ∧ Ext w w' := by
  by_cases h : runE l d = 0
  · have hs : storeErr l = 0 := by
      by_cases q : storeErr l = 0
      · exact q
      · unfold runE at h; rw [if_pos q] at h; exact h
    have hde : deedE d = 0 := by unfold runE at h; rw [if_neg (by simp [hs])] at h; exact h
    refine (run_ok v vd l d w hv hvd (store_ok hs) (deed_ok hde) (fun o ho => (hd o ho).2) hlen).mono ?_
    rintro e w' ⟨v', rfl, ho, E⟩
    exact ⟨v', _, _, by rw [h], ho, fun _ => ⟨rfl, rfl⟩, fun q => absurd h q, E⟩
  · refine (run_bad v vd l d w hv hvd hk hd h).mono ?_
    rintro e w' ⟨rfl, E⟩
    exact ⟨_, [], false, rfl, World.ownsRow_nil _ _ _ _, fun q => absurd q h, fun _ => ⟨rfl, rfl⟩, E⟩
def serE (l : Prs) (D : List Ops) : Int := if storeErr l ≠ 0 then storeErr l else deedsE D
end Go.Proofs.YtghemmmkbpfdhaaGreatDoor

/- Contracts and lemmas for the proofs of this seat; each theorem states its own conditions. -/
namespace Go.Proofs.YtghemmmkbpfdhaaGreatDoor
open Go.RowKit Go.Maps
/-! StoreJoins: whatever is handed in -/
theorem take_ok {b : Prs} (h : StoreOk b) (k : Nat) : StoreOk (b.take k) :=
  ⟨fun p hp => h.key p (List.mem_of_mem_take hp), fun p hp => h.val p (List.mem_of_mem_take hp), List.Pairwise.sublist (List.take_sublist k b) h.srt⟩
theorem take_no {b : Prs} (h : StoreOk b) {k : Nat} (hk : k < b.length) : valP (b.take k) b[k].1 = 0 := by
  refine valP_none fun p hp e => ?_
  obtain ⟨i, hi, rfl⟩ := List.mem_iff_getElem.1 hp
  rw [List.length_take] at hi
  rw [List.getElem_take] at e
  have := List.pairwise_iff_getElem.1 h.srt i k (by omega) hk (by omega)
  rw [e, blt_irrefl] at this; cases this
theorem join_at {a b : Prs} (ha : StoreOk a) (hb : StoreOk b) {k : Nat} (hk : k < b.length) : valP (joinP a (b.take k)) b[k].1 = valP a b[k].1 := by
  rw [val_join ha.srt (take_ok hb k).srt (take_ok hb k).nz, take_no hb hk]; simp
/-- whose store may not be -/
def wantE (a b : Prs) : Int := if storeErr a ≠ 0 then storeErr a else storeErr b
/-- what is wanted, and what the map holds, once k pairs have come -/
def WantI (a b : Prs) (k : Nat) (f : ByteArray → Option Int) (e : Int) : Prop :=
  (wantE a b ≠ 0 ∧ e = wantE a b) ∨ (wantE a b = 0 ∧ ((e = 0 ∧ apartTo a b k ∧ ∀ x, (f x).getD 0 = valP (joinP a (b.take k)) x) ∨ (e = 5 ∧ apartB a b = false)))
theorem wantE_zero {a b : Prs} (h : wantE a b = 0) : StoreOk a ∧ StoreOk b := by
  unfold wantE at h
  by_cases ha : storeErr a = 0
  · rw [if_neg (by simp [ha])] at h; exact ⟨store_ok ha, store_ok h⟩
  · rw [if_pos ha] at h; exact absurd h ha
theorem want_end {a b : Prs} {f : ByteArray → Option Int} {e : Int} (h : WantI a b b.length f e) : e = joinE a b ∧ (e = 0 → StoreOk a ∧ StoreOk b ∧ ∀ x, (f x).getD 0 = valP (joinP a b) x) := by
  rcases h with ⟨h1, h2⟩ | ⟨h1, h2⟩
  · refine ⟨?_, fun he => absurd (he ▸ h2.symm) h1⟩
    rw [h2]
    unfold wantE joinE at *
    by_cases ha : storeErr a = 0
    · rw [if_neg (by simp [ha])] at h1 ⊢
      rw [if_neg (by simp [ha]), if_pos h1]
    · rw [if_pos ha, if_pos ha]
  · obtain ⟨oa, ob⟩ := wantE_zero h1
    have e1 : joinE a b = if apartB a b then 0 else 5 := by
      unfold joinE
      rw [if_neg (by simp [storeErr_ok oa]), if_neg (by simp [storeErr_ok ob])]
    rcases h2 with ⟨rfl, h3, h4⟩ | ⟨rfl, h3⟩
    · rw [List.take_length] at h4
      exact ⟨by rw [e1, apartTo_all h3 rfl]; rfl, fun _ => ⟨oa, ob, h4⟩⟩
    · exact ⟨by rw [e1, h3]; rfl, fun h => absurd h (by omega)⟩
theorem of_val {a : Prs} (ha : StoreOk a) : ∀ k, k ≤ a.length → ∀ x, (ofF a k x).getD 0 = valP (a.take k) x
  | 0, _, x => by simp [ofF, valP]
  | k + 1, h, x => by
    have ih := of_val ha k (by omega) x
    rw [ofF_step a (show k < a.length by omega)]
    have ht : a.take (k + 1) = a.take k ++ [a[k]'(by omega)] := List.take_succ_eq_append_getElem (by omega)
    dsimp only
    by_cases e : x = (a[k]'(by omega)).1
    · rw [if_pos e]
      have hm : a[k]'(by omega) ∈ a.take (k + 1) := by rw [ht]; exact List.mem_append_right _ (List.mem_singleton.2 rfl)
      rw [e, valP_mem (take_ok ha (k + 1)).srt hm]; rfl
    · rw [if_neg e, ih]
      by_cases hz : valP (a.take k) x = 0
      · rw [hz]
        refine (valP_none fun p hp ep => ?_).symm
        rw [ht] at hp
        rcases List.mem_append.1 hp with hp | hp
        · rw [← ep, valP_mem (take_ok ha k).srt hp] at hz
          exact (ha.val p (List.mem_of_mem_take hp)).1 hz
        · simp at hp; subst hp; exact e ep.symm
      · by_cases hex : ∃ p ∈ a.take k, p.1 = x
        · obtain ⟨p, hp, rfl⟩ := hex
          have hp2 : p ∈ a.take (k + 1) := by rw [ht]; exact List.mem_append_left _ hp
          rw [valP_mem (take_ok ha k).srt hp, valP_mem (take_ok ha (k + 1)).srt hp2]
        · exact absurd (valP_none fun p hp ep => hex ⟨p, hp, ep⟩) hz
theorem want_start (a b : Prs) : WantI a b 0 (ofF a a.length) (wantE a b) := by
  by_cases h : wantE a b = 0
  · obtain ⟨oa, ob⟩ := wantE_zero h
    refine .inr ⟨h, .inl ⟨h, apartTo_zero a b, fun x => ?_⟩⟩
    rw [of_val oa a.length (Nat.le_refl _) x, List.take_length, List.take_zero, join_nil]
  · exact .inl ⟨h, rfl⟩
/-- one pair more -/
theorem want_idle {a b : Prs} {k : Nat} {f : ByteArray → Option Int} {e : Int} (h : WantI a b k f e) (he : e ≠ 0) : WantI a b (k + 1) f e := by
  rcases h with h | ⟨h1, ⟨h2, _⟩ | h2⟩
  · exact .inl h
  · exact absurd h2 he
  · exact .inr ⟨h1, .inr h2⟩
theorem want_hit {a b : Prs} {k : Nat} {f : ByteArray → Option Int} (h : WantI a b k f 0) (hk : k < b.length) (hv : (f b[k].1).getD 0 ≠ 0) : WantI a b (k + 1) f 5 := by
  rcases h with ⟨h1, h2⟩ | ⟨h1, ⟨_, h3, h4⟩ | ⟨h2, _⟩⟩
  · exact absurd h2.symm h1
  · obtain ⟨oa, ob⟩ := wantE_zero h1
    refine .inr ⟨h1, .inr ⟨rfl, apart_hit hk ?_⟩⟩
    rw [h4, join_at oa ob hk] at hv; exact hv
  · omega
theorem want_put {a b : Prs} {k : Nat} {f : ByteArray → Option Int} (h : WantI a b k f 0) (hk : k < b.length) (hv : (f b[k].1).getD 0 = 0) : WantI a b (k + 1) (fun x => if x = b[k].1 then some b[k].2 else f x) 0 := by
  rcases h with ⟨h1, h2⟩ | ⟨h1, ⟨_, h3, h4⟩ | ⟨h2, _⟩⟩
  · exact absurd h2.symm h1
  · obtain ⟨oa, ob⟩ := wantE_zero h1
    rw [h4, join_at oa ob hk] at hv
    refine .inr ⟨h1, .inl ⟨rfl, apartTo_succ h3 hk hv, fun x => ?_⟩⟩
    rw [join_step hk, val_with (join_okS oa (take_ok ob k)).srt]
    dsimp only
    by_cases e : x = b[k].1
    · rw [if_pos e, if_pos e.symm]; rfl
    · rw [if_neg e, if_neg (fun q => e q.symm), h4]
  · omega
def jl1 : Prs := [((⟨#[98]⟩ : ByteArray), (1 : Int))]
def jl2 : Prs := [((⟨#[97]⟩ : ByteArray), (2 : Int))]
theorem jl_lit : storeErr jl1 = 0 ∧ storeErr jl2 = 0 ∧ apartB jl1 jl2 = true ∧ joinP jl1 jl2 = [((⟨#[97]⟩ : ByteArray), (2 : Int)), ((⟨#[98]⟩ : ByteArray), (1 : Int))] := by decide +kernel
end Go.Proofs.YtghemmmkbpfdhaaGreatDoor
