/- Contracts and lemmas for the proofs of this seat; each theorem states its own conditions. -/
import Derived.Test.YtijcckhkofkenaaDg
import Derived.Test.YtijcckhkofkenaaSrL
namespace Go.Proofs.Ytijcckhkofkenaa
open Go.RowKit
set_option maxRecDepth 100000 in
set_option maxHeartbeats 2000000 in
theorem writes_walk (v vd : Value) (l : List Int) (ls : List (List Int)) (w : World) (hv : Seg w v 1 l.length (cI l)) (hb : ∀ z ∈ l, -9223372036854775808 ≤ z ∧ z ≤ 9223372036854775807) (hvd : SegLL w vd ls) :
    Calls Try.prog 18 #[v, vd] w fun e w' => e = .returned (.bool true) ∧ Ext w w' := by
  go_enter Try.func18, Try.ntmps18
  go_wp2_with fail
  refine (deedBegun_any _).mono ?_
  rintro e w1 ⟨rfl, E⟩
  replace hv := hv.ext E
  replace hvd := hvd.ext E
  go_wp2_with fail
  refine (pairs_any _ l _ hv hb).mono ?_
  rintro e w2 ⟨vs, S, rfl, oS, lS, hS, E1⟩
  have sS := own_seg hS
  obtain ⟨a0, c0, rfl⟩ := own_form hS
  replace E := Ext.trans E (E1)
  replace hvd := hvd.ext E1
  clear E1 hS hv
  go_wp2_with fail
  refine (deeds_any _ ls 10 _ hvd (by omega)).mono ?_
  rintro e w3 ⟨vD, us, D, rfl, hout, hds, hdg, hdl, E1⟩
  have hD := hds.seg hout
  obtain ⟨aD, cD, rfl⟩ := own_form hout
  have hl := hds.len
  replace E := Ext.trans E (E1); replace sS := Seg.ext sS (E1)
  clear E1 hout hds hvd
  rw [hl] at hD
  have hus : us.length = D.length := hl
  have dok : ∀ d ∈ D, DeedOk d := fun d h => (hdg d h).ok
  have dsm : ∀ d ∈ D, ∀ o ∈ d, o.from_.size ≤ 9223372036854775807 := fun d h => (hdg d h).sm
  obtain ⟨_, _, eD, hc1, hc2, hcell⟩ := hD.form
  injection eD with eD1 _ eD3
  subst eD1; subst eD3
  have HC := hid hcell
  clear hcell hD hdg hl
  unfold maxLen at hc2
  go_wp2_with fail
  go_loopw [5, 7, 8, 9, 10, 11, 12, 13, 15, 16, 17, 18, 19, 27, 31, 38, 66, 72] (fun s _ _ _ _ _ _ _ _ _ _ _ _ i _ _ _ _ wr => ∃ (k : Nat) (T : Prs), k ≤ D.length ∧ i = .int .i64 k ∧ StoreOk T ∧ T.length ≤ 30 + 16 * k ∧ Seg wr s 2 T.length (cP T) ∧ Ext w3 wr) (fun _ _ _ _ _ _ _ _ _ _ _ _ _ i _ _ _ _ _ => D.length - (intOf i).toNat)
  case atStart => exact ⟨0, S, Nat.zero_le _, rfl, oS, by omega, sS, Ext.refl _⟩
  case round =>
    obtain ⟨wo, rfl⟩ : ∃ wo : World, wo = wr := ⟨_, rfl⟩
    clear sS oS lS
    obtain ⟨k, T, hk, rfl, oT, lT, sT, Er⟩ := hrel
    obtain ⟨a9, c9, rfl⟩ := seg_form sT
    by_cases hlt : k < D.length
    · obtain ⟨b, off, rfl, hcc⟩ := HC.out (by omega)
      obtain ⟨x1, y1, c1, s1⟩ := hcc k D[k] (List.getElem?_eq_getElem hlt)
      replace c1 := Er.cell c1
      replace s1 := s1.ext Er
      have d1 := dok _ (List.getElem_mem hlt)
      have f1 := dsm _ (List.getElem_mem hlt)
      clear hcc
      generalize D[k] = p at c1 s1 d1 f1
      have hp8 := d1.hi
      obtain ⟨W, hW, E8, b8, z1, b82, b83, b84⟩ := new_set wo 52 (.slice none 0 0) (.slice x1 p.length y1)
      replace Er := Er.trans E8
      replace sT := sT.ext E8
      replace s1 := s1.ext E8
      have K := hid (krun_ok (.slice a9 T.length c9) (.slice x1 p.length y1) T p W sT s1 oT d1 f1 (by omega))
      have oX := (run_val oT d1.ops).1
      have lX := run_len T p
      have KS := hid (fun k => run_keepS (k := k) oT d1)
      have OFF := hid (run_off (l := T) (d := p))
      generalize runS T p = X at K oX lX KS OFF
      generalize runB T p = ok at K OFF
      have OX := hid oX
      clear oX
      go_wp2_with fail
      refine (K.out).mono ?_
      clear K
      rintro e w5 ⟨v5, rfl, h5, E1⟩
      have s5 := own_seg h5
      obtain ⟨a5, c5, rfl⟩ := own_form h5
      replace Er := Ext.trans Er (E1); replace sT := Seg.ext sT (E1); replace s1 := Seg.ext s1 (E1); replace z1 := (E1).cell z1
      clear E1 h5 hW E8 b8 b82 b83 b84 c1
      have Q := hid (keys_ok (.slice x1 p.length y1) p w5 s1 d1 f1)
      go_wp2_with fail
      refine (Q.out).mono ?_
      clear Q
      rintro e w6 ⟨vr, vw, rfl, _, h6, E1⟩
      have s6 := own_seg h6
      obtain ⟨a6, c6, rfl⟩ := own_form h6
      replace Er := Ext.trans Er (E1); replace sT := Seg.ext sT (E1); replace s5 := Seg.ext s5 (E1)
      clear E1 h6 s1 z1
      have MW := hid (fun k => sortU_mem (wrs p) k)
      generalize sortU (wrs p) = U at s6 MW
      cases ok with
      | true =>
        go_wp2_with fail
        refine (keys_any _).mono ?_
        rintro e w8 ⟨a8, c8, rfl, h8, E1⟩
        have s8 := own_seg h8
        replace Er := Ext.trans Er (E1); replace sT := Seg.ext sT (E1); replace s5 := Seg.ext s5 (E1); replace s6 := Seg.ext s6 (E1)
        clear E1 h8
        obtain ⟨b8, o8, rfl, _, hc8, hm8, hc⟩ := seg_cells s8 (by decide)
        have HC8 := hid hc
        clear hc s8
        go_wp2_with fail
        go_loopw [15, 16, 17, 18, 19, 62, 66, 72] (fun _ _ _ _ _ i _ _ w2 => ∃ j : Nat, j ≤ 8 ∧ i = .int .i64 j ∧ Ext w8 w2) (fun _ _ _ _ _ i _ _ _ => 8 - (intOf i).toNat)
        case atStart => exact ⟨0, by omega, rfl, Ext.refl _⟩
        case round =>
          obtain ⟨j, hj, rfl, Ei⟩ := hrel
          by_cases hj8 : j < 8
          · have hjk : j < keysL.length := by simp [keysL]; omega
            have c8 := Ei.cell (HC8.out j _ (cS_at0 keysL j hjk))
            have kb := keysL_at j hjk
            generalize keysL[j] = key at c8 kb
            replace sT := sT.ext Ei
            replace s5 := s5.ext Ei
            replace s6 := s6.ext Ei
            have G1 := hid (get_ok _ T key _ sT oT kb (by omega))
            go_wp2_with fail
            refine (G1.out).mono ?_
            rintro e wa ⟨rfl, Ea⟩
            have G2 := hid (get_ok _ _ key _ (s5.ext Ea) OX.out kb (by omega))
            go_wp2_with fail
            refine (G2.out).mono ?_
            rintro e wb ⟨rfl, Eb⟩
            have Ej := (Ei.trans Ea).trans Eb
            by_cases hne : valP T key = valP X key
            · have q1 : (valP T key != valP X key) = false := by simp [hne]
              clear hne
              go_wp2
              go_roundw
              case rel => exact ⟨j + 1, by omega, by go_num, Ej⟩
              case measure => simp [intOf]; omega
            · have hk := KS.out key hne
              have hcon := conS_yes ((MW.out key).2 hk)
              have q1 : (valP T key != valP X key) = true := by simp [hne]
              have CC := conS_any _ U key wb ((s6.ext Ea).ext Eb)
              rw [hcon] at CC
              have CC := hid CC
              clear hne hcon
              go_wp2_with fail
              refine (CC.out).mono ?_
              rintro e wc ⟨rfl, rfl⟩
              go_wp2
              go_roundw
              case rel => exact ⟨j + 1, by omega, by go_num, Ej⟩
              case measure => simp [intOf]; omega
          · have hj8' : j = 8 := by omega
            subst hj8'
            go_wp2
            go_roundw
            case rel => exact ⟨k + 1, X, by omega, by go_num, OX.out, by omega, s5.ext Ei, Er.trans Ei⟩
            case measure => simp [intOf]; omega
      | false =>
        have hX := OFF.out rfl
        subst hX
        go_wp2_with fail
        refine (equal_Pair _ _ _ _ _ s5 sT).mono ?_
        rw [eqP_same]
        rintro e wx ⟨rfl, dn, rfl⟩
        have E1 := (Ext.refl w6).drewN dn
        replace Er := Ext.trans Er (E1); replace sT := Seg.ext sT (E1); replace s5 := Seg.ext s5 (E1); replace s6 := Seg.ext s6 (E1)
        clear E1
        generalize w6.drewN dn = w7 at Er sT s5 s6 ⊢
        go_wp2_with fail
        refine (keys_any _).mono ?_
        rintro e w8 ⟨a8, c8, rfl, h8, E1⟩
        have s8 := own_seg h8
        replace Er := Ext.trans Er (E1); replace sT := Seg.ext sT (E1); replace s5 := Seg.ext s5 (E1); replace s6 := Seg.ext s6 (E1)
        clear E1 h8
        obtain ⟨b8, o8, rfl, _, hc8, hm8, hc⟩ := seg_cells s8 (by decide)
        have HC8 := hid hc
        clear hc s8
        go_wp2_with fail
        go_loopw [15, 16, 17, 18, 19, 62, 66, 72] (fun _ _ _ _ _ i _ _ w2 => ∃ j : Nat, j ≤ 8 ∧ i = .int .i64 j ∧ Ext w8 w2) (fun _ _ _ _ _ i _ _ _ => 8 - (intOf i).toNat)
        case atStart => exact ⟨0, by omega, rfl, Ext.refl _⟩
        case round =>
          obtain ⟨j, hj, rfl, Ei⟩ := hrel
          by_cases hj8 : j < 8
          · have hjk : j < keysL.length := by simp [keysL]; omega
            have c8 := Ei.cell (HC8.out j _ (cS_at0 keysL j hjk))
            have kb := keysL_at j hjk
            generalize keysL[j] = key at c8 kb
            replace sT := sT.ext Ei
            replace s5 := s5.ext Ei
            replace s6 := s6.ext Ei
            have G1 := hid (get_ok _ X key _ sT oT kb (by omega))
            go_wp2_with fail
            refine (G1.out).mono ?_
            rintro e wa ⟨rfl, Ea⟩
            have G2 := hid (get_ok _ _ key _ (s5.ext Ea) OX.out kb (by omega))
            go_wp2_with fail
            refine (G2.out).mono ?_
            rintro e wb ⟨rfl, Eb⟩
            have Ej := (Ei.trans Ea).trans Eb
            by_cases hne : True
            · have q1 : (valP X key != valP X key) = false := by simp [hne]
              clear hne
              go_wp2
              go_roundw
              case rel => exact ⟨j + 1, by omega, by go_num, Ej⟩
              case measure => simp [intOf]; omega
            · exact absurd trivial hne
          · have hj8' : j = 8 := by omega
            subst hj8'
            go_wp2
            go_roundw
            case rel => exact ⟨k + 1, X, by omega, by go_num, OX.out, by omega, s5.ext Ei, Er.trans Ei⟩
            case measure => simp [intOf]; omega
    · go_wp2
      go_ret
      exact ⟨rfl, E.trans Er⟩
end Go.Proofs.Ytijcckhkofkenaa
