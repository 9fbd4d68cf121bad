/- Contracts and lemmas for the proof of DeedRuns; each theorem states its own conditions. -/
import Derived.Test.YtomgeolmfpijoaaDoorQDeedRunsbu
import Derived.Test.YtomgeolmfpijoaaDoorQDeedRunsbd
set_option linter.unusedVariables false
set_option linter.unusedSimpArgs false
/- Contracts and lemmas for the proofs of this seat; each theorem states its own conditions. -/
namespace Go.Proofs.YtomgeolmfpijoaaDoor
open Go.RowKit
/-! deed.Run, deed.Serial at whatever is handed in -/
theorem run_all (v vd : Value) (l : Prs) (d : Ops) (w : World) (hv : Seg w v 2 l.length (cP l)) (hvd : Seg w vd 4 d.length (cO d)) (hk : ∀ p ∈ l, p.1.size ≤ 9223372036854775807) (hd : opsSm d) (hlen : l.length ≤ 998000) :
    Calls Tryd.prog 68 #[v, .agg #[vd]] w fun e w' => ∃ v' L ok, e = .returned (.tuple #[v', .bool ok, .int .i64 (runE l d)]) ∧ w'.ownsRow w.heap.size 98 2 v' L.length (cP L) ∧ (runE l d = 0 → L = runS l d ∧ ok = runB l d) ∧ (runE l d ≠ 0 → L = [] ∧ ok = false) ∧ Ext w w' := by
  by_cases h : runE l d = 0
  · have hs : storeErr l = 0 := by
      by_cases q : storeErr l = 0
      · exact q
      · unfold runE at h; rw [if_pos q] at h; exact h
    have hde : deedE d = 0 := by unfold runE at h; rw [if_neg (by simp [hs])] at h; exact h
    refine (run_ok v vd l d w hv hvd (store_ok hs) (deed_ok hde) (fun o ho => (hd o ho).2) hlen).mono ?_
    rintro e w' ⟨v', rfl, ho, E⟩
    exact ⟨v', _, _, by rw [h], ho, fun _ => ⟨rfl, rfl⟩, fun q => absurd h q, E⟩
  · refine (run_bad v vd l d w hv hvd hk hd h).mono ?_
    rintro e w' ⟨rfl, E⟩
    exact ⟨_, [], false, rfl, World.ownsRow_nil _ _ _ _, fun q => absurd q h, fun _ => ⟨rfl, rfl⟩, E⟩
def serE (l : Prs) (D : List Ops) : Int := if storeErr l ≠ 0 then storeErr l else deedsE D
set_option maxRecDepth 10000 in
set_option maxHeartbeats 2000000 in
theorem serial_bad (v vd : Value) (l : Prs) (D : List Ops) (w : World) (hv : Seg w v 2 l.length (cP l)) (hvd : SegDs w vd D) (hk : ∀ p ∈ l, p.1.size ≤ 9223372036854775807) (hd : ∀ d ∈ D, opsSm d) (he : serE l D ≠ 0) :
    Calls Tryd.prog 69 #[v, vd] w fun e w' => e = .returned (.tuple #[.slice none 0 0, .slice none 0 0, .int .i64 (serE l D)]) ∧ Ext w w' := by
  obtain ⟨a, c, rfl, m1, m2, hc⟩ := hvd.form
  have HC := hid hc
  have SC := hid (scheck_any _ l _ hv hk)
  unfold maxLen at m2
  clear hc hvd
  by_cases h1 : storeErr l = 0
  · have HR := hid (show serE l D = deedsE D by simp [serE, h1])
    have h2 : deedsE D ≠ 0 := by rw [← HR.out]; exact he
    rw [h1] at SC
    have SC := hid SC.out
    clear he h1
    by_cases hz : 60 < D.length
    · have HO := hid (show deedsE D = 2 by unfold deedsE; rw [if_pos hz])
      have hz' : (60 : Int) < (D.length : Int) := by omega
      clear hz h2
      go_enter Tryd.func69, Tryd.ntmps69
      go_wp2_with fail
      refine (SC.out).mono ?_
      rintro e w1 ⟨rfl, E1⟩
      go_wp2
      go_ret3
      exact ⟨rT3 rfl rfl (vI (by rw [HR.out, HO.out])), E1⟩
    · have HO := hid (show deedsE D = firstE (fun i => deedE (D.getD i [])) D.length by unfold deedsE; rw [if_neg hz])
      have H2 := hid h2
      have hz' : ¬ (60 : Int) < (D.length : Int) := by omega
      clear hz h2
      go_enter Tryd.func69, Tryd.ntmps69
      go_wp2_with fail
      refine (SC.out).mono ?_
      rintro e w1 ⟨rfl, E1⟩
      go_wp2
      clear hz' SC
      go_loopw [9, 10, 28] (fun _ _ iv wr => ∃ k : Nat, k ≤ D.length ∧ iv = .int .i64 k ∧ zeroTo (fun i => deedE (D.getD i [])) k ∧ Ext w wr) (fun _ _ iv _ => D.length - (intOf iv).toNat)
      case atStart => exact ⟨0, Nat.zero_le _, rfl, fun j h => absurd h (by omega), E1⟩
      case round =>
        clear E1
        obtain ⟨wo, rfl⟩ : ∃ wo : World, wo = wr := ⟨_, rfl⟩
        obtain ⟨k, hkl, rfl, hall, E⟩ := hrel
        by_cases hlt : k < D.length
        · obtain ⟨b, off, rfl, hc⟩ := HC.out (by omega)
          obtain ⟨au, cu, hcell, hs⟩ := hc k D[k] (List.getElem?_eq_getElem hlt)
          have c0 := E.cell hcell
          have hs := hs.ext E
          have hsm := hd _ (List.getElem_mem hlt)
          have hE := deedsE_at hlt
          have FE := hid (fun (h : deedE D[k] ≠ 0) => (firstE_at hall (fun h0 => h (hE.symm.trans h0)) hlt).trans hE)
          have ZS := hid (fun (h : deedE D[k] = 0) => zeroTo_succ hall (hE.trans h))
          clear hc hcell hall hE
          generalize D[k] = d at c0 hs hsm FE ZS
          have EA := (Ext.refl wo).alloc (.cells #[.slice au d.length cu] 46)
          have xb := heap_alloc_new wo (.cells #[.slice au d.length cu] 46)
          have y0 := cell_of_one xb
          have CK := hid (dcheck_any (.slice au d.length cu) d _ (hs.ext EA) hsm)
          clear hs xb
          by_cases h0 : deedE d = 0
          · have HZ := hid (ZS.out h0)
            have q : (deedE d != 0) = false := by simp [h0]
            clear h0 FE ZS
            go_wp2_with fail
            refine (CK.out).mono ?_
            rintro e w1 ⟨rfl, E1⟩
            go_wp2
            go_roundw
            case rel => exact ⟨k + 1, by omega, by go_num, HZ.out, E.trans (EA.trans E1)⟩
            case measure => simp [intOf] <;> omega
          · have HF := hid (FE.out h0)
            have q : (deedE d != 0) = true := by simp [h0]
            clear h0 FE ZS
            go_wp2_with fail
            refine (CK.out).mono ?_
            rintro e w1 ⟨rfl, E1⟩
            go_wp2
            go_ret3
            exact ⟨rT3 rfl rfl (vI (by rw [HR.out, HO.out, HF.out])), E.trans (EA.trans E1)⟩
        · obtain rfl : k = D.length := by omega
          exact absurd (HO.out.trans (firstE_zero hall)) H2.out
  · have HR := hid (show serE l D = storeErr l by simp [serE, h1])
    have q : (storeErr l != 0) = true := by simp [h1]
    clear h1 he
    go_enter Tryd.func69, Tryd.ntmps69
    go_wp2_with fail
    refine (SC.out).mono ?_
    rintro e w1 ⟨rfl, E1⟩
    go_wp2
    go_ret3
    exact ⟨rT3 rfl rfl (vI HR.out.symm), E1⟩
theorem serial_all (v vd : Value) (l : Prs) (D : List Ops) (w : World) (hv : Seg w v 2 l.length (cP l)) (hvd : SegDs w vd D) (hk : ∀ p ∈ l, p.1.size ≤ 9223372036854775807) (hd : ∀ d ∈ D, opsSm d) (hlen : l.length ≤ 900000) :
    Calls Tryd.prog 69 #[v, vd] w fun e w' => ∃ v' vb L O, e = .returned (.tuple #[v', vb, .int .i64 (serE l D)]) ∧ w'.ownsRow w.heap.size 98 2 v' L.length (cP L) ∧ w'.ownsRow w.heap.size 4 1 vb O.length (cB O) ∧ (serE l D = 0 → L = serS l D ∧ O = serB l D) ∧ (serE l D ≠ 0 → L = [] ∧ O = []) ∧ Ext w w' := by
  by_cases h : serE l D = 0
  · have hs : storeErr l = 0 := by
      by_cases q : storeErr l = 0
      · exact q
      · unfold serE at h; rw [if_pos q] at h; exact h
    have hde : deedsE D = 0 := by unfold serE at h; rw [if_neg (by simp [hs])] at h; exact h
    obtain ⟨h60, hok⟩ := deeds_ok' hde
    refine (serial_ok v vd l D w hv hvd (store_ok hs) hok (fun d hd' o ho => (hd d hd' o ho).2) h60 hlen).mono ?_
    rintro e w' ⟨v', vb, rfl, h1, h2, E⟩
    exact ⟨v', vb, _, _, by rw [h], h1, h2, fun _ => ⟨rfl, rfl⟩, fun q => absurd h q, E⟩
  · refine (serial_bad v vd l D w hv hvd hk hd h).mono ?_
    rintro e w' ⟨rfl, E⟩
    exact ⟨_, _, [], [], rfl, World.ownsRow_nil _ _ _ _, World.ownsRow_nil _ _ _ _, fun q => absurd q h, fun _ => ⟨rfl, rfl⟩, E⟩
end Go.Proofs.YtomgeolmfpijoaaDoor
