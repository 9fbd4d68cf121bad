/- Contracts and lemmas for the proofs of this seat; each theorem states its own conditions. -/
import Derived.Test.YtijcckhkofkenaaDg
import Derived.Test.YtijcckhkofkenaaSrL
namespace Go.Proofs.Ytijcckhkofkenaa
open Go.RowKit
theorem rd_key {d : Ops} (h : DeedOk d) : ∀ k ∈ rds d, keyB k = true := fun k hk => by
  obtain ⟨o, ho, hk⟩ := List.mem_flatMap.1 hk
  have oo := h.ops o ho
  rcases kinds oo with e | e | e | e | e
  all_goals simp [rdO, e] at hk
  · rw [hk]; exact oo.key
  · rw [hk]; exact (oo.from_ (.inl e)).1
  · rw [hk]; exact oo.key
  · rcases hk with hk | hk
    · rw [hk]; exact oo.key
    · rw [hk]; exact (oo.from_ (.inr e)).1
theorem wr_key {d : Ops} (h : DeedOk d) : ∀ k ∈ wrs d, keyB k = true := fun k hk => by
  obtain ⟨o, ho, hk⟩ := List.mem_flatMap.1 hk
  have oo := h.ops o ho
  rcases kinds oo with e | e | e | e | e
  all_goals simp [wrO, e] at hk
  · rw [hk]; exact oo.key
  · rw [hk]; exact oo.key
  · rw [hk]; exact oo.key
  · rcases hk with hk | hk
    · rw [hk]; exact oo.key
    · rw [hk]; exact (oo.from_ (.inr e)).1
/-- what is read alike is written alike -/
theorem reads_S {S T : Prs} (hS : StoreOk S) (hT : StoreOk T) {d : Ops} (hd : DeedOk d) (h : ∀ k ∈ rds d, valP S k = valP T k) : runB S d = runB T d ∧ (runB S d = true → ∀ k ∈ wrs d, valP (runS S d) k = valP (runS T d) k) := by
  obtain ⟨a1, a2, a3⟩ := run_val hS hd.ops
  obtain ⟨b1, b2, b3⟩ := run_val hT hd.ops
  obtain ⟨c1, c2⟩ := step_agree hd.ops h
  rw [a3, b3, a2, b2]
  exact ⟨c1, c2⟩
theorem agree_put {S T : Prs} (hT : StoreOk T) {R : List ByteArray} {j : Nat} (hj : j < R.length) (h : ∀ i (hi : i < R.length), i < j → valP S R[i] = valP T R[i]) : ∀ i (hi : i < R.length), i < j + 1 → valP S R[i] = valP (withP T R[j] (valP S R[j])) R[i] := fun i hi hij => by
  rw [val_with hT.srt]
  split
  · rename_i e; rw [← e]
  · rename_i e
    rcases Nat.lt_or_ge i j with h' | h'
    · exact h i hi h'
    · have : i = j := by omega
      subst this; exact absurd rfl e
set_option maxRecDepth 100000 in
set_option maxHeartbeats 2000000 in
theorem reads_walk (v v2 vd : Value) (l l2 : List Int) (ls : List (List Int)) (w : World) (hv : Seg w v 1 l.length (cI l)) (hb : ∀ z ∈ l, -9223372036854775808 ≤ z ∧ z ≤ 9223372036854775807)
    (hv2 : Seg w v2 1 l2.length (cI l2)) (hb2 : ∀ z ∈ l2, -9223372036854775808 ≤ z ∧ z ≤ 9223372036854775807) (hvd : SegLL w vd ls) :
    Calls Try.prog 19 #[v, v2, vd] w fun e w' => e = .returned (.bool true) ∧ Ext w w' := by
  go_enter Try.func19, Try.ntmps19
  go_wp2_with fail
  refine (deedBegun_any _).mono ?_
  rintro e w1 ⟨rfl, E⟩
  replace hv := hv.ext E
  replace hv2 := hv2.ext E
  replace hvd := hvd.ext E
  go_wp2_with fail
  refine (deeds_any _ ls 6 _ hvd (by omega)).mono ?_
  rintro e w3 ⟨vD, us, D, rfl, hout, hds, hdg, hdl, E1⟩
  have hD := hds.seg hout
  obtain ⟨aD, cD, rfl⟩ := own_form hout
  have hl := hds.len
  replace hv := hv.ext E1
  replace hv2 := hv2.ext E1
  replace E := Ext.trans E (E1)
  clear E1 hout hds hvd
  rw [hl] at hD
  have hus : us.length = D.length := hl
  have dok : ∀ d ∈ D, DeedOk d := fun d h => (hdg d h).ok
  have dsm : ∀ d ∈ D, ∀ o ∈ d, o.from_.size ≤ 9223372036854775807 := fun d h => (hdg d h).sm
  obtain ⟨_, _, eD, hc1, hc2, hcell⟩ := hD.form
  injection eD with eD1 _ eD3
  subst eD1; subst eD3
  have HC := hid hcell
  clear hcell hD hdg hl
  unfold maxLen at hc2
  go_wp2_with fail
  go_loopw [8, 9, 10, 11, 12, 13, 15, 16, 17, 18, 19, 20, 21, 22, 23, 24, 25, 27, 28, 29, 30, 31, 37, 45, 59, 65, 76, 83, 109, 115] (fun _ _ _ _ _ _ _ _ _ _ _ _ _ _ _ _ _ _ _ _ _ _ i _ _ _ _ _ _ _ wr => ∃ k : Nat, k ≤ D.length ∧ i = .int .i64 k ∧ Ext w3 wr) (fun _ _ _ _ _ _ _ _ _ _ _ _ _ _ _ _ _ _ _ _ _ _ i _ _ _ _ _ _ _ _ => D.length - (intOf i).toNat)
  case atStart => exact ⟨0, Nat.zero_le _, rfl, Ext.refl _⟩
  case round =>
    obtain ⟨wo, rfl⟩ : ∃ wo : World, wo = wr := ⟨_, rfl⟩
    obtain ⟨k, hk, rfl, Er⟩ := hrel
    by_cases hlt : k < D.length
    · obtain ⟨b, off, rfl, hcc⟩ := HC.out (by omega)
      obtain ⟨x1, y1, c1, s1⟩ := hcc k D[k] (List.getElem?_eq_getElem hlt)
      replace c1 := Er.cell c1
      replace s1 := s1.ext Er
      have d1 := dok _ (List.getElem_mem hlt)
      have f1 := dsm _ (List.getElem_mem hlt)
      clear hcc
      generalize D[k] = p at c1 s1 d1 f1
      have hp8 := d1.hi
      obtain ⟨W, hW, E8, b8, z1, b82, b83, b84⟩ := new_set wo 52 (.slice none 0 0) (.slice x1 p.length y1)
      replace Er := Er.trans E8
      replace hv := hv.ext Er
      replace hv2 := hv2.ext Er
      replace s1 := s1.ext E8
      go_wp2_with fail
      refine (pairs_any _ l _ hv hb).mono ?_
      rintro e w4 ⟨vs, S, rfl, oS, lS, hS, E1⟩
      have sS := own_seg hS
      obtain ⟨a0, c0, rfl⟩ := own_form hS
      replace Er := Ext.trans Er (E1); replace s1 := Seg.ext s1 (E1); replace z1 := (E1).cell z1
      replace hv2 := hv2.ext E1
      clear E1 hS hv hW b8 b82 b83 b84 E8 c1
      go_wp2_with fail
      refine (pairs_any _ l2 _ hv2 hb2).mono ?_
      rintro e w5 ⟨vt, T, rfl, oT, lT, hT, E1⟩
      have sT := own_seg hT
      obtain ⟨a2, c2, rfl⟩ := own_form hT
      replace Er := Ext.trans Er (E1); replace s1 := Seg.ext s1 (E1); replace z1 := (E1).cell z1; replace sS := Seg.ext sS (E1)
      clear E1 hT hv2
      have Q := hid (keys_ok (.slice x1 p.length y1) p w5 s1 d1 f1)
      go_wp2_with fail
      refine (Q.out).mono ?_
      clear Q
      rintro e w6 ⟨vr, vw, rfl, h5, h6, E1⟩
      have s5 := own_seg h5
      have s6 := own_seg h6
      obtain ⟨a5, c5, rfl⟩ := own_form h5
      obtain ⟨a6, c6, rfl⟩ := own_form h6
      replace Er := Ext.trans Er (E1); replace sS := Seg.ext sS (E1); replace sT := Seg.ext sT (E1); replace s1 := Seg.ext s1 (E1); replace z1 := (E1).cell z1
      clear E1 h5 h6
      have rl := sortU_len (rds p)
      have rl2 := (rds_len p p.length).1
      rw [List.take_of_length_le (Nat.le_refl _)] at rl2
      have ul := sortU_len (wrs p)
      have ul2 := (rds_len p p.length).2
      rw [List.take_of_length_le (Nat.le_refl _)] at ul2
      have MR := hid (fun k => sortU_mem (rds p) k)
      have MW := hid (fun k => sortU_mem (wrs p) k)
      have KR := hid (fun k (h : k ∈ sortU (rds p)) => rd_key d1 k ((sortU_mem _ _).1 h))
      have KW := hid (fun k (h : k ∈ sortU (wrs p)) => wr_key d1 k ((sortU_mem _ _).1 h))
      generalize sortU (wrs p) = U at s6 MW KW ul
      generalize sortU (rds p) = R at s5 MR KR rl
      have SS := hid oS
      have BD := hid (fun k => val_bd oS k)
      go_wp2_with fail
      go_loopw [10, 15, 16, 17, 18, 19, 55, 59, 65] (fun t _ _ _ _ _ i _ _ w2 => ∃ (j : Nat) (T' : Prs), j ≤ R.length ∧ i = .int .i64 j ∧ StoreOk T' ∧ T'.length ≤ 30 + j ∧ (∀ i (hi : i < R.length), i < j → valP S R[i] = valP T' R[i]) ∧ Seg w2 t 2 T'.length (cP T') ∧ Ext w6 w2) (fun _ _ _ _ _ _ i _ _ _ => R.length - (intOf i).toNat)
      case atStart => exact ⟨0, T, by omega, rfl, oT, by omega, fun i _ h => by omega, sT, Ext.refl _⟩
      case round =>
        clear sT lT oT
        obtain ⟨j, T', hj, rfl, oT, lT, hag, sT, Ei⟩ := hrel
        obtain ⟨a9, c9, rfl⟩ := seg_form sT
        have HAG := hid hag
        have OT := hid oT
        clear hag oT
        by_cases hjl : j < R.length
        · obtain ⟨b5, o5, rfl, _, _, _, hc5⟩ := seg_cells s5 (by omega)
          have x5 := Ei.cell (hc5 j _ (cS_at0 R j hjl))
          have kb := KR.out _ (List.getElem_mem hjl)
          have hn := BD.out R[j]
          have AP := hid (agree_put OT.out hjl HAG.out)
          clear hc5
          generalize hkey : R[j] = key at x5 kb hn AP
          clear hkey
          have G1 := hid (get_ok _ S key _ (sS.ext Ei) SS.out kb (by omega))
          generalize valP S key = n at hn G1 AP
          go_wp2_with fail
          refine (G1.out).mono ?_
          rintro e wa ⟨rfl, Ea⟩
          have P1 := hid (put_ok' _ T' key n wa (sT.ext Ea) (by omega) OT.out kb hn)
          have oT1 := storeOk_with OT.out kb hn
          have lT1 := with_len T' key n
          go_wp2_with fail
          refine (P1.out).mono ?_
          rintro e wb ⟨vb, rfl, hb', Eb⟩
          go_wp2
          go_roundw
          case rel => exact ⟨j + 1, withP T' key n, by omega, by go_num, oT1, by omega, AP.out, own_seg hb', (Ei.trans Ea).trans Eb⟩
          case measure => simp [intOf]; omega
        · obtain rfl : j = R.length := by omega
          have hall : ∀ x ∈ rds p, valP S x = valP T' x := fun x hx => by
            obtain ⟨i, hi, rfl⟩ := List.mem_iff_getElem.1 ((MR.out x).2 hx)
            exact HAG.out i hi hi
          obtain ⟨m1, m2⟩ := reads_S SS.out OT.out d1 hall
          replace sS := sS.ext Ei
          replace s1 := s1.ext Ei
          replace z1 := Ei.cell z1
          have K1 := hid (krun_ok (.slice a0 S.length c0) (.slice x1 p.length y1) S p _ sS s1 SS.out d1 f1 (by omega))
          have oX := hid (run_val SS.out d1.ops).1
          have oY := hid (run_val OT.out d1.ops).1
          have lX := run_len S p
          have lY := run_len T' p
          have K2 := fun w h1 h2 => krun_ok (.slice a9 T'.length c9) (.slice x1 p.length y1) T' p w h1 h2 OT.out d1 f1 (by omega)
          rw [← m1] at K2
          have K2 := hid K2
          have M2 := hid m2
          clear m1 m2 hall
          generalize runS S p = X at K1 oX lX M2
          generalize runS T' p = Y at K2 oY lY M2
          generalize runB S p = ok at K1 K2 M2
          go_wp2_with fail
          refine (K1.out).mono ?_
          clear K1
          rintro e wa ⟨va, rfl, ha, Ea⟩
          have sa := own_seg ha
          obtain ⟨aa, ca, rfl⟩ := own_form ha
          replace z1 := Ea.cell z1
          clear ha
          go_wp2_with fail
          refine (K2.out _ (sT.ext Ea) (s1.ext Ea)).mono ?_
          clear K2
          rintro e wb ⟨vb, rfl, hb', Eb⟩
          have sb := own_seg hb'
          obtain ⟨ab, cb, rfl⟩ := own_form hb'
          replace sa := sa.ext Eb
          have Ej := (Ei.trans Ea).trans Eb
          replace s6 := s6.ext Ej
          replace Er := Er.trans Ej
          clear hb' Ea Eb Ei Ej sS sT s1 z1
          have qo : (ok != ok) = false := by simp
          cases ok with
          | false =>
            go_wp2
            go_roundw
            case rel => exact ⟨k + 1, by omega, by go_num, Er⟩
            case measure => simp [intOf]; omega
          | true =>
            go_wp2_with fail
            go_loopw [27, 28, 29, 30, 31, 105, 109, 115] (fun _ _ _ _ _ i _ _ w2 => ∃ j : Nat, j ≤ U.length ∧ i = .int .i64 j ∧ Ext wb w2) (fun _ _ _ _ _ i _ _ _ => U.length - (intOf i).toNat)
            case atStart => exact ⟨0, by omega, rfl, Ext.refl _⟩
            case round =>
              obtain ⟨j, hj, rfl, Ei⟩ := hrel
              by_cases hjl : j < U.length
              · obtain ⟨b6, o6, rfl, _, _, _, hc6⟩ := seg_cells s6 (by omega)
                have x6 := Ei.cell (hc6 j _ (cS_at0 U j hjl))
                have kb := KW.out _ (List.getElem_mem hjl)
                have hu := M2.out (by first | rfl | trivial) _ ((MW.out _).1 (List.getElem_mem hjl))
                clear hc6
                generalize U[j] = key at x6 kb hu
                have G1 := hid (get_ok _ X key _ (sa.ext Ei) oX.out kb (by omega))
                have G2 := fun w h => get_ok (.slice ab Y.length cb) Y key w h oY.out kb (by omega)
                rw [← hu] at G2
                have G2 := hid G2
                clear hu
                generalize valP X key = n at G1 G2
                go_wp2_with fail
                refine (G1.out).mono ?_
                rintro e wc ⟨rfl, Ec⟩
                go_wp2_with fail
                refine (G2.out _ ((sb.ext Ei).ext Ec)).mono ?_
                rintro e wd ⟨rfl, Ed⟩
                have qn : (n != n) = false := by simp
                go_wp2
                go_roundw
                case rel => exact ⟨j + 1, by omega, by go_num, (Ei.trans Ec).trans Ed⟩
                case measure => simp [intOf]; omega
              · go_wp2
                go_roundw
                case rel => exact ⟨k + 1, by omega, by go_num, Er.trans Ei⟩
                case measure => simp [intOf]; omega
    · go_wp2
      go_ret
      exact ⟨rfl, E.trans Er⟩
end Go.Proofs.Ytijcckhkofkenaa
