/- Contracts and lemmas for the proof of MergeOrder; each theorem states its own conditions. -/
import Derived.Test.YtijcckhkofkenaaQMergeOrderbz
import Derived.Test.YtijcckhkofkenaaQMergeOrderbo
set_option linter.unusedVariables false
set_option linter.unusedSimpArgs false
/- Contracts and lemmas for the proofs of this seat; each theorem states its own conditions. -/
namespace Go.Proofs.Ytijcckhkofkenaa
open Go.RowKit
theorem own_nat {w : World} {B n c g : Nat} {l : List Nat} (h : w.ownsRow B 3 1 (.slice (some ⟨g, 0, none⟩) n c) n (cN l)) {i : Nat} (hi : i < l.length) : w.cell? ⟨g, i, none⟩ = some (.int .i64 ((l[i] : Nat) : Int)) := by
  have hl : l.length = n := by have := h.1; simpa [cN] using this
  obtain ⟨_, _, he, _, _, _, hc⟩ := seg_cells (own_seg h) (by omega)
  injection he with he; injection he with he1 he2
  subst he1; subst he2
  have := hc i (.int .i64 ((l[i] : Nat) : Int)) (by simp [cN, hi])
  rw [Nat.zero_add] at this
  exact this
theorem ready_nodup (A : List Ops) (g : Nat → Bool) (n : Nat) : (readyL A g n).Nodup := List.Pairwise.filter _ List.nodup_range
theorem ready_inj {A : List Ops} {g : Nat → Bool} {n i j : Nat} {hi : i < (readyL A g n).length} {hj : j < (readyL A g n).length} (hne : i ≠ j) : (readyL A g n)[i] ≠ (readyL A g n)[j] := by
  rcases Nat.lt_or_ge i j with k | k
  · exact List.pairwise_iff_getElem.1 (ready_nodup A g n) i j hi hj k
  · exact Ne.symm (List.pairwise_iff_getElem.1 (ready_nodup A g n) j i hj hi (by omega))
theorem ready_none {A : List Ops} {g : Nat → Bool} {n : Nat} (h : liveN g n = 0) : readyL A g n = [] := by
  cases e : readyL A g n with
  | nil => rfl
  | cons a l =>
    have ha : a ∈ readyL A g n := by rw [e]; simp
    obtain ⟨a1, a2, _⟩ := ready_mem.1 ha
    rw [live_none h a a1] at a2; cases a2
theorem getD_at {D : List Ops} {i : Nat} (h : i < D.length) : D.getD i [] = D[i] := by simp [h]
set_option maxRecDepth 100000 in
set_option maxHeartbeats 2000000 in
theorem lapart_walk (vd v : Value) (ls : List (List Int)) (l : List Int) (w : World) (hvd : SegLL w vd ls) (hv : Seg w v 1 l.length (cI l)) :
    Calls Try.prog 9 #[vd, v] w fun e w' => e = .returned (.bool true) ∧ Ext w w' := by
  go_enter Try.func9, Try.ntmps9
  go_wp2_with fail
  refine (lockBegun_any _).mono ?_
  rintro e w1 ⟨rfl, E⟩
  replace hv := hv.ext E
  replace hvd := hvd.ext E
  go_wp2_with fail
  refine (deeds_any _ ls 20 _ hvd (by omega)).mono ?_
  rintro e w2 ⟨vD, us, D, rfl, hout, hds, hdg, hdl, E1⟩
  have hD := hds.seg hout
  obtain ⟨aD, cD, rfl⟩ := own_form hout
  have hl := hds.len
  replace hv := hv.ext E1
  replace E := Ext.trans E (E1)
  clear E1 hout hds hvd
  rw [hl] at hD
  have hus : us.length = D.length := hl
  have dok : ∀ d ∈ D, DeedOk d := fun d h => (hdg d h).ok
  have dsm : ∀ d ∈ D, ∀ o ∈ d, o.from_.size ≤ 9223372036854775807 := fun d h => (hdg d h).sm
  obtain ⟨_, _, eD, hc1, hc2, hcell⟩ := hD.form
  injection eD with eD1 _ eD3
  subst eD1; subst eD3
  have HC := hid hcell
  clear hcell hD hdg hl
  unfold maxLen at hc2
  obtain ⟨al, cl, rfl⟩ := seg_form hv
  go_wp2_with fail
  refine (lnew_ok _).mono ?_
  rintro e w3 ⟨bt, bk, bd, rfl, L0, E3⟩
  go_wp2_with fail
  go_loopw [8, 9, 10, 31] (fun _ _ _ i wr => ∃ (k : Nat) (F : ByteArray → Option SV) (G : Int → Option SV), k ≤ D.length ∧ i = .int .i64 k ∧ LockSt wr w2.heap.size bt bk bd (D.take k) (fun _ => false) F G ∧ TFr w2.heap.size bt bk bd w3 wr) (fun _ _ _ i _ => D.length - (intOf i).toNat)
  case atStart => exact ⟨0, _, _, Nat.zero_le _, rfl, L0, TFr.refl _⟩
  case round =>
    obtain ⟨wo, rfl⟩ : ∃ wo : World, wo = wr := ⟨_, rfl⟩
    obtain ⟨k, F, G, hk, rfl, hL, hT⟩ := hrel
    have Er := hT.low E3 (Nat.le_refl _)
    by_cases hlt : k < D.length
    · obtain ⟨b, off, rfl, hcc⟩ := HC.out (by omega)
      obtain ⟨x1, y1, c1, s1⟩ := hcc k D[k] (List.getElem?_eq_getElem hlt)
      replace c1 := Er.cell c1
      replace s1 := s1.ext Er
      have d1 := dok _ (List.getElem_mem hlt)
      have f1 := dsm _ (List.getElem_mem hlt)
      have hdt : D.take k ++ [D[k]] = D.take (k + 1) := (List.take_succ_eq_append_getElem hlt).symm
      have hlk : (D.take k).length = k := by rw [List.length_take]; omega
      clear hcc
      generalize D[k] = p at c1 s1 d1 f1 hdt
      have EA := (Ext.refl wo).alloc (.cells #[.slice x1 p.length y1] 52)
      have z1 := cell_of_one (heap_alloc_new wo (.cells #[.slice x1 p.length y1] 52))
      have AD := add_ok (hL.ext EA) (.slice x1 p.length y1) p (s1.ext EA) d1 f1 (by omega)
      rw [hdt, hlk] at AD
      have AD := hid AD
      have HT := hid ((hT.trans (TFr.of_ext EA)))
      clear hdt hlk hL hT
      go_wp2_with fail
      refine (AD.out).mono ?_
      rintro e w5 ⟨rfl, ⟨F', G', L5⟩, T5⟩
      go_wp2
      go_roundw
      case rel => exact ⟨k + 1, F', G', by omega, by go_num, L5, (HT.out).trans T5⟩
      case measure => simp [intOf] <;> omega
    · obtain rfl : k = D.length := by omega
      rw [List.take_of_length_le (Nat.le_refl _)] at hL
      have HL := hid hL
      obtain ⟨_, _, _, he, hl1, hl2, hl3⟩ := hv
      injection he with he1 _ he3
      subst he1; subst he3
      have HV := hid hl3
      unfold maxLen at hl2
      clear hl3 hL hT L0
      go_wp2_with fail
      go_loopw [11, 12, 13, 14, 16, 17, 18, 19, 20, 21, 22, 23, 63, 80, 123] (fun iv _ _ _ _ _ _ _ _ _ _ _ _ _ _ wr => ∃ (m : Nat) (g : Nat → Bool) (F : ByteArray → Option SV) (G : Int → Option SV), iv = .int .i64 m ∧ Hid (liveN g D.length = m) ∧ LockSt wr w2.heap.size bt bk bd D g F G ∧ Ext w2 wr) (fun iv _ _ _ _ _ _ _ _ _ _ _ _ _ _ _ => (intOf iv).toNat)
      case atStart => exact ⟨D.length, _, _, _, rfl, hid (live_all fun _ _ => rfl), HL.out, Er⟩
      case round =>
        clear Er HL
        obtain ⟨wp, rfl⟩ : ∃ wp : World, wp = wr := ⟨_, rfl⟩
        obtain ⟨m, g, F, G, rfl, hm, hL, Er⟩ := hrel
        have hmD : m ≤ D.length := by have := live_le g D.length; have := hm.out; omega
        rcases Nat.eq_zero_or_pos m with hm0 | hm0
        · subst hm0
          have LL := left_any hL
          rw [hm.out] at LL
          have RD := ready_any hL
          rw [ready_none hm.out] at RD
          have LL := hid LL
          have RD := hid RD
          clear hL
          go_wp2_with fail
          refine (LL.out).mono ?_
          rintro e w6 ⟨rfl, rfl⟩
          go_wp2_with fail
          refine (RD.out).mono ?_
          rintro e w7 ⟨v', rfl, ho, E7⟩
          obtain ⟨a7, c7, rfl⟩ := own_form ho
          go_wp2
          go_ret
          exact ⟨rfl, E.trans (Er.trans E7)⟩
        · have hne := ready_some (A := D) (g := g) (n := D.length) (by have := hm.out; omega)
          have hRl := ready_len D g D.length
          have hR0 : 0 < (readyL D g D.length).length := List.length_pos_iff.2 hne
          have HRM := hid (fun (i : Nat) (hi : i < (readyL D g D.length).length) => ready_mem.1 (List.getElem_mem hi))
          have HRI := hid (fun (i j : Nat) (hi : i < (readyL D g D.length).length) (hj : j < (readyL D g D.length).length) (hne : i ≠ j) => ready_inj (A := D) (g := g) (n := D.length) (hi := hi) (hj := hj) hne)
          have HRA := hid (fun (i j : Nat) (hi : i < (readyL D g D.length).length) (hj : j < (readyL D g D.length).length) (hne : i ≠ j) => ready_apart (List.getElem_mem hi) (List.getElem_mem hj) (ready_inj (A := D) (g := g) (n := D.length) (hi := hi) (hj := hj) hne))
          have RD := hid (ready_any hL)
          have HLp := hid hL
          generalize readyL D g D.length = R at hRl hR0 HRM HRI HRA RD
          clear hL hne
          go_wp2_with fail
          refine (RD.out).mono ?_
          rintro e w7 ⟨v7, rfl, ho, E7⟩
          have LL := left_any (HLp.out.ext E7)
          rw [hm.out] at LL
          have LL := hid LL
          obtain ⟨gR, cR, rfl, _, _⟩ := own_form_g ho hR0
          have Er7 := Er.trans E7
          have HL7 := hid (HLp.out.ext E7)
          have q0 : ((R.length : Int) == 0) = false := by simpa using (show R ≠ [] from List.length_pos_iff.1 hR0)
          have q0' : ¬ (R = []) := List.length_pos_iff.1 hR0
          have qm : ((m : Int) != (m : Int)) = false := by simp
          clear RD HLp E7
          obtain ⟨hc1, hc2⟩ : R.length ≤ cR ∧ cR ≤ maxLen := by
            obtain ⟨_, _, _, he, h1, h2, _⟩ := own_seg ho
            injection he with _ _ he3
            subst he3; exact ⟨h1, h2⟩
          unfold maxLen at hc2
          go_wp2_with fail
          refine (LL.out).mono ?_
          rintro e w8 ⟨rfl, rfl⟩
          go_wp2_with fail
          go_loopw [13, 14, 16, 17, 18, 63, 80] (fun _ _ _ _ _ iv _ wr => ∃ i : Nat, i ≤ R.length ∧ iv = .int .i64 i ∧ Ext w8 wr) (fun _ _ _ _ _ iv _ _ => R.length - (intOf iv).toNat)
          case atStart => exact ⟨0, Nat.zero_le _, rfl, Ext.refl _⟩
          case round =>
            obtain ⟨wq, rfl⟩ : ∃ wq : World, wq = wr := ⟨_, rfl⟩
            obtain ⟨i, hi, rfl, Ei⟩ := hrel
            by_cases hiR : i < R.length
            · have cA := own_nat (own_ext ho Ei) hiR
              obtain ⟨ha1, ha2, ha3⟩ := HRM.out i hiR
              have HA := hid (fun (j : Nat) (hj : j < R.length) (h : j < i) => HRA.out i j hiR hj (by omega))
              have hoi := own_ext ho Ei
              clear ha2 ha3
              generalize R[i] = av at cA ha1 HA
              have qa : ¬ ((av : Int) < 0) := by omega
              have qb : ¬ ((av : Int) ≥ (D.length : Int)) := by omega
              obtain ⟨bD, oD, rfl, hcc⟩ := HC.out (by omega)
              obtain ⟨x1, y1, c1, s1⟩ := hcc av D[av] (List.getElem?_eq_getElem ha1)
              replace c1 := Ei.cell (Er7.cell c1)
              replace s1 := (s1.ext Er7).ext Ei
              have d1 := dok _ (List.getElem_mem ha1)
              have f1 := dsm _ (List.getElem_mem ha1)
              have hp : D.getD av [] = D[av] := getD_at ha1
              generalize D[av] = p at c1 s1 d1 f1 hp
              have HP := hid hp
              clear hcc hp
              go_wp2_with fail
              go_loopw [16, 17, 18, 80] (fun _ _ _ iv wr => ∃ j : Nat, j ≤ i ∧ iv = .int .i64 j ∧ Ext wq wr) (fun _ _ _ iv _ => i - (intOf iv).toNat)
              case atStart => exact ⟨0, Nat.zero_le _, rfl, Ext.refl _⟩
              case round =>
                obtain ⟨wz, rfl⟩ : ∃ wz : World, wz = wr := ⟨_, rfl⟩
                obtain ⟨j, hj, rfl, Ej⟩ := hrel
                by_cases hji : j < i
                · have hjR : j < R.length := by omega
                  have cB := own_nat (own_ext hoi Ej) hjR
                  obtain ⟨hb1, _, _⟩ := HRM.out j hjR
                  have hcl := HA.out j hjR hji
                  generalize R[j] = bv at cB hb1 hcl
                  obtain ⟨_, _, he, hcc⟩ := HC.out (by omega)
                  injection he with he; injection he with he1 he2
                  subst he1; subst he2
                  obtain ⟨x2, y2, c2, s2⟩ := hcc bv D[bv] (List.getElem?_eq_getElem hb1)
                  replace c2 := Ej.cell (Ei.cell (Er7.cell c2))
                  replace s2 := ((s2.ext Er7).ext Ei).ext Ej
                  have d2 := dok _ (List.getElem_mem hb1)
                  have f2 := dsm _ (List.getElem_mem hb1)
                  rw [HP.out, getD_at hb1] at hcl
                  generalize D[bv] = q at c2 s2 d2 f2 hcl
                  have c1' := Ej.cell c1
                  have CL := fun w' (E : Ext wz w') => clash_ok (.slice x1 p.length y1) (.slice x2 q.length y2) p q w' ((s1.ext Ej).ext E) (s2.ext E) d1 d2 f1 f2
                  rw [hcl] at CL
                  have CL := hid CL
                  clear hcc hcl
                  go_wp2_with fail
                  refine wp_region_ph [.k (.slice (some ⟨bD, oD, none⟩) D.length cD), .k (.int .i64 av), .k (.pointer (some ⟨bD, oD + av, none⟩)), .k (.agg #[.slice x1 p.length y1]), .k (.slice (some ⟨bD, oD, none⟩) D.length cD), .k (.int .i64 bv), .k (.pointer (some ⟨bD, oD + bv, none⟩)), .k (.agg #[.slice x2 q.length y2]), .k (.tuple #[.bool false, .int .i64 0]), .k (.tuple #[.bool false, .int .i64 0]), .k (.bool false), .k (.int .i64 0), .k (.bool false), .k (.int .i64 0)] [] (by kernel_rfl) (by kernel_rfl) (by kernel_rfl) rfl rfl ?hs ?hC ?he
                  case hC =>
                    intro i hi
                    simp at hi
                  case hs =>
                    refine ⟨?_, ?_, ?_, ?_, ?_, ?_, ?_, ?_, ?_, ?_, ?_, ?_, ?_, ?_, trivial⟩
                    all_goals (
                      intro x w' hE hd
                      try simp [PhDeps, at_k, at_p, at_t, at_any, Region.binds] at hd
                      try ((with_reducible refine Exists.elim hd ?_); clear hd; intro y hd; obtain ⟨hd, hG⟩ := hd)
                      have e1 := hE.cell c1'
                      have e2 := hE.cell c2
                      first | simp only [frL, List.length_cons, List.length_nil, List.take_succ_cons, List.take_zero, Nat.reduceAdd, Nat.zero_add, List.setIfInBounds_toArray, List.set_cons_zero, List.set_cons_succ, hd] | simp only [frL, List.length_cons, List.length_nil, List.take_succ_cons, List.take_zero, Nat.reduceAdd, Nat.zero_add, List.setIfInBounds_toArray, List.set_cons_zero, List.set_cons_succ]
                      go_wp2_with (first | (go_at_call 50; refine (CL.out w' hE).mono ?_; rintro e wa ⟨rfl, hea⟩))
                      all_goals first
                        | ((with_reducible refine phK ?_ ?_); (focus rfl); (repeat (first | (with_reducible assumption) | (with_reducible exact Ext.refl _) | (with_reducible refine Ext.drew ?_) | (with_reducible refine Ext.drewN ?_ _) | (with_reducible refine Ext.alloc ?_ _) | (with_reducible refine Ext.trans ?_ (by with_reducible assumption)))))
                        | ((with_reducible refine phT rfl hG ?_); (repeat (first | (with_reducible assumption) | (with_reducible exact Ext.refl _) | (with_reducible refine Ext.drew ?_) | (with_reducible refine Ext.drewN ?_ _) | (with_reducible refine Ext.alloc ?_ _) | (with_reducible refine Ext.trans ?_ (by with_reducible assumption)))))
                        | ((with_reducible refine phU hG ?_); (repeat (first | (with_reducible assumption) | (with_reducible exact Ext.refl _) | (with_reducible refine Ext.drew ?_) | (with_reducible refine Ext.drewN ?_ _) | (with_reducible refine Ext.alloc ?_ _) | (with_reducible refine Ext.trans ?_ (by with_reducible assumption)))))
                        | (with_reducible exact phBox hE)
                        | (with_reducible exact phRow hE))
                  case he =>
                    intro x w6 E6 hd
                    simp [PhEnd, at_k, at_p, at_t, at_any] at hd
                    simp only [frL, List.length_cons, List.length_nil, List.take_succ_cons, List.take_zero, Nat.reduceAdd, Nat.zero_add, List.setIfInBounds_toArray, List.set_cons_zero, List.set_cons_succ, hd, List.length_cons, List.length_nil, List.drop_succ_cons, List.drop_zero]
                    clear hd
                    go_wp2
                    go_roundw
                    case rel => exact ⟨j + 1, by omega, by go_num, Ej.trans E6⟩
                    case measure => simp [intOf] <;> omega
                · obtain rfl : j = i := by omega
                  go_wp2
                  go_roundw
                  case rel => exact ⟨j + 1, by omega, by go_num, Ei.trans Ej⟩
                  case measure => simp [intOf] <;> omega
            · obtain rfl : i = R.length := by omega
              have hLq := HL7.out.ext Ei
              have hoq := own_ext ho Ei
              have Erq := Er7.trans Ei
              by_cases hq : m < l.length
              · obtain ⟨b1, o1, rfl, hc1⟩ := HV.out (by omega)
                have c0 := Erq.cell (hc1 m _ (cI_at0 l m hq))
                have WI := fun w => within_any l[m] R.length w (by omega) (by omega)
                obtain ⟨k, hk, hkR⟩ : ∃ k : Nat, wi l[m] R.length = k ∧ k < R.length := by
                  have g1 := wi_lo (k := l[m]) (n := R.length) (by omega)
                  have g2 := wi_hi (k := l[m]) (n := R.length) (by omega)
                  exact ⟨(wi l[m] R.length).toNat, by omega, by omega⟩
                rw [hk] at WI
                have WI := hid WI
                clear hk hc1
                generalize l[m] = x at c0 WI
                obtain ⟨hs, hg, hmy⟩ := HRM.out k hkR
                have FO := free_ok hLq R[k] hs hg hmy
                have ck := own_nat hoq hkR
                have hlg := (live_gone hg (n := D.length)).1 hs
                have HNE := hid (fun (i : Nat) (hi : i < R.length) (hne : i ≠ k) => HRI.out i k hi hkR hne)
                clear hg hmy
                obtain ⟨sv, hsv⟩ : ∃ sv, R[k] = sv := ⟨_, rfl⟩
                rw [hsv] at FO ck hlg HNE hs
                have HS := hid hsv
                have HLG := hid hlg
                have FO := hid FO
                clear hsv hlg
                go_wp2_with (first | (go_at_call 23; refine (WI.out _).mono ?_; rintro e wa ⟨rfl, rfl⟩))
                refine (FO.out).mono ?_
                rintro e w9 ⟨rfl, ⟨F', G', L9⟩, T9⟩
                have E9 := T9.low (Er7.trans Ei) (Nat.le_refl _)
                have o9 := T9.own hLq hoq (by decide) (by decide)
                have HL9 := hid L9
                clear FO hLq hoq L9 T9 ck
                go_wp2_with fail
                go_loopw [20, 21, 22, 23, 123] (fun _ _ _ _ iv wr => ∃ i : Nat, i ≤ R.length ∧ iv = .int .i64 i ∧ Ext w9 wr) (fun _ _ _ _ iv _ => R.length - (intOf iv).toNat)
                case atStart => exact ⟨0, Nat.zero_le _, rfl, Ext.refl _⟩
                case round =>
                  obtain ⟨wz, rfl⟩ : ∃ wz : World, wz = wr := ⟨_, rfl⟩
                  obtain ⟨i2, hi2, rfl, E2⟩ := hrel
                  by_cases h2 : i2 < R.length
                  · have cA := own_nat (own_ext o9 E2) h2
                    have L2 := HL9.out.ext E2
                    by_cases hik : i2 = k
                    · have hR2 : R[i2] = sv := by simp only [hik]; exact HS.out
                      have MN := hid (may_none L2 (sv : Int) (by omega) (fun n e1 e2 => by
                        have : n = sv := by omega
                        subst this; simp [goneW]))
                      have qk : ((i2 : Int) != (k : Int)) = false := by simp [hik]
                      rw [hR2] at cA
                      clear hik hR2 L2
                      go_wp2_with fail
                      refine (MN.out).mono ?_
                      rintro e wy ⟨rfl, Ey⟩
                      go_wp2
                      go_roundw
                      case rel => exact ⟨i2 + 1, by omega, by go_num, E2.trans Ey⟩
                      case measure => simp [intOf] <;> omega
                    · obtain ⟨q1, q2, q3⟩ := HRM.out i2 h2
                      have hne2 := HNE.out i2 h2 hik
                      have hg2 : goneW g sv R[i2] = false := by unfold goneW; rw [if_neg hne2]; exact q2
                      have MK := may_ok L2 R[i2] q1 hg2
                      rw [may_mono q3] at MK
                      have MK := hid MK
                      have qk : ((i2 : Int) != (k : Int)) = true := by simp; omega
                      clear hik L2 hg2 hne2 q2 q3
                      generalize R[i2] = a2 at cA MK q1
                      go_wp2_with fail
                      refine (MK.out).mono ?_
                      rintro e wy ⟨rfl, Ey⟩
                      go_wp2
                      go_roundw
                      case rel => exact ⟨i2 + 1, by omega, by go_num, E2.trans Ey⟩
                      case measure => simp [intOf] <;> omega
                  · obtain rfl : i2 = R.length := by omega
                    have HX := hid (show liveN (goneW g sv) D.length = m - 1 by have := HLG.out; have := hm.out; omega)
                    go_wp2
                    go_roundw
                    case rel => exact ⟨m - 1, goneW g sv, F', G', by rw [show ((m - 1 : Nat) : Int) = (m : Int) - 1 by omega], HX, HL9.out.ext E2, E9.trans E2⟩
                    case measure => simp [intOf] <;> omega
              · have hkR : 0 < R.length := hR0
                obtain ⟨hs, hg, hmy⟩ := HRM.out 0 hkR
                have FO := free_ok hLq R[0] hs hg hmy
                have ck := own_nat hoq hkR
                have hlg := (live_gone hg (n := D.length)).1 hs
                have HNE := hid (fun (i : Nat) (hi : i < R.length) (hne : i ≠ 0) => HRI.out i 0 hi hkR hne)
                clear hg hmy
                obtain ⟨sv, hsv⟩ : ∃ sv, R[0] = sv := ⟨_, rfl⟩
                rw [hsv] at FO ck hlg HNE hs
                have HS := hid hsv
                have HLG := hid hlg
                have FO := hid FO
                clear hsv hlg
                go_wp2_with fail
                refine (FO.out).mono ?_
                rintro e w9 ⟨rfl, ⟨F', G', L9⟩, T9⟩
                have E9 := T9.low (Er7.trans Ei) (Nat.le_refl _)
                have o9 := T9.own hLq hoq (by decide) (by decide)
                have HL9 := hid L9
                clear FO hLq hoq L9 T9 ck
                go_wp2_with fail
                go_loopw [20, 21, 22, 23, 123] (fun _ _ _ _ iv wr => ∃ i : Nat, i ≤ R.length ∧ iv = .int .i64 i ∧ Ext w9 wr) (fun _ _ _ _ iv _ => R.length - (intOf iv).toNat)
                case atStart => exact ⟨0, Nat.zero_le _, rfl, Ext.refl _⟩
                case round =>
                  obtain ⟨wz, rfl⟩ : ∃ wz : World, wz = wr := ⟨_, rfl⟩
                  obtain ⟨i2, hi2, rfl, E2⟩ := hrel
                  by_cases h2 : i2 < R.length
                  · have cA := own_nat (own_ext o9 E2) h2
                    have L2 := HL9.out.ext E2
                    by_cases hik : i2 = 0
                    · have hR2 : R[i2] = sv := by simp only [hik]; exact HS.out
                      have MN := hid (may_none L2 (sv : Int) (by omega) (fun n e1 e2 => by
                        have : n = sv := by omega
                        subst this; simp [goneW]))
                      have qk : ((i2 : Int) != 0) = false := by simp [hik]
                      rw [hR2] at cA
                      clear hik hR2 L2
                      go_wp2_with fail
                      refine (MN.out).mono ?_
                      rintro e wy ⟨rfl, Ey⟩
                      go_wp2
                      go_roundw
                      case rel => exact ⟨i2 + 1, by omega, by go_num, E2.trans Ey⟩
                      case measure => simp [intOf] <;> omega
                    · obtain ⟨q1, q2, q3⟩ := HRM.out i2 h2
                      have hne2 := HNE.out i2 h2 hik
                      have hg2 : goneW g sv R[i2] = false := by unfold goneW; rw [if_neg hne2]; exact q2
                      have MK := may_ok L2 R[i2] q1 hg2
                      rw [may_mono q3] at MK
                      have MK := hid MK
                      have qk : ((i2 : Int) != 0) = true := by simp; omega
                      clear hik L2 hg2 hne2 q2 q3
                      generalize R[i2] = a2 at cA MK q1
                      go_wp2_with fail
                      refine (MK.out).mono ?_
                      rintro e wy ⟨rfl, Ey⟩
                      go_wp2
                      go_roundw
                      case rel => exact ⟨i2 + 1, by omega, by go_num, E2.trans Ey⟩
                      case measure => simp [intOf] <;> omega
                  · obtain rfl : i2 = R.length := by omega
                    have HX := hid (show liveN (goneW g sv) D.length = m - 1 by have := HLG.out; have := hm.out; omega)
                    go_wp2
                    go_roundw
                    case rel => exact ⟨m - 1, goneW g sv, F', G', by rw [show ((m - 1 : Nat) : Int) = (m : Int) - 1 by omega], HX, HL9.out.ext E2, E9.trans E2⟩
                    case measure => simp [intOf] <;> omega
end Go.Proofs.Ytijcckhkofkenaa
