/- Contracts and lemmas for the proof of TopLog; each theorem states its own conditions. -/
import Derived.Test.YtddghaoejnbkaaaGreatDoorQTopLogbl
import Derived.Test.YtddghaoejnbkaaaGreatDoorQTopLogay
set_option linter.unusedVariables false
set_option linter.unusedSimpArgs false
/- Contracts and lemmas for the proofs of this seat; each theorem states its own conditions. -/
namespace Go.Proofs.YtddghaoejnbkaaaGreatDoor
open Go.RowKit
/-! parts.Do -/
theorem grown_ext {w w' : World} (E : Ext w w') (row : Option Nat) : w.grownBy w' row := ⟨E.os, E.tape, E.output, E.size, fun k hk _ => E.block k hk⟩
theorem grown_trans {a b c : World} {row : Option Nat} (h : a.grownBy b row) (k : b.grownBy c row) : a.grownBy c row :=
  ⟨k.os.trans h.os, k.tape.trans h.tape, k.output.trans h.output, Nat.le_trans h.size k.size, fun j hj hne => (k.block j (Nat.lt_of_lt_of_le hj h.size) hne).trans (h.block j hj hne)⟩
theorem rw_key {d : Ops} (h : DeedOk d) {k : ByteArray} (hk : k ∈ sortU (rds d) ++ sortU (wrs d)) : keyB k = true := by
  refine tch_key h (tchB_iff.2 ?_)
  rwa [List.mem_append, sortU_mem, sortU_mem] at hk
theorem rw_len {d : Ops} (h : DeedOk d) : (sortU (rds d)).length ≤ 16 ∧ (sortU (wrs d)).length ≤ 16 := by
  have h8 := h.hi
  have h1 := rds_len d d.length
  rw [List.take_length] at h1
  have h2 := sortU_len (rds d)
  have h3 := sortU_len (wrs d)
  omega
theorem run_no {l : Prs} {d : Ops} (h : runB l d = false) : runS l d = l := by
  unfold runB at h
  unfold runS
  cases e : runP l d with
  | none => rfl
  | some x => rw [e] at h; cases h
/-- what has been told of the first keys -/
def tldP (V : Vls) (K : List ByteArray) (j : Nat) : Prs := toldP V (K.take j).reverse
theorem tld_step (V : Vls) {K : List ByteArray} {j : Nat} (h : j < K.length) : withP (tldP V K j) K[j] (V K[j]) = tldP V K (j + 1) := by
  unfold tldP
  rw [List.take_succ_eq_append_getElem h, List.reverse_append]
  rfl
theorem tld_ok {V : Vls} (hV : ∀ k, -1000000000 ≤ V k ∧ V k ≤ 1000000000) {K : List ByteArray} (hK : ∀ k ∈ K, keyB k = true) (j : Nat) : StoreOk (tldP V K j) ∧ (tldP V K j).length ≤ K.length := by
  obtain ⟨h1, h2, _⟩ := told_ok hV (ks := (K.take j).reverse) fun k hk => hK k (List.mem_of_mem_take (List.mem_reverse.1 hk))
  refine ⟨h1, ?_⟩
  rw [List.length_reverse, List.length_take] at h2
  unfold tldP; omega
theorem tld_val {V : Vls} (hV : ∀ k, -1000000000 ≤ V k ∧ V k ≤ 1000000000) {K : List ByteArray} (hK : ∀ k ∈ K, keyB k = true) (x : ByteArray) : valP (tldP V K K.length) x = if memB K x = true then V x else 0 := by
  obtain ⟨_, _, h3⟩ := told_ok hV (ks := (K.take K.length).reverse) fun k hk => hK k (List.mem_of_mem_take (List.mem_reverse.1 hk))
  unfold tldP
  rw [h3 x]
  have : memB (K.take K.length).reverse x = memB K x := by
    rw [Bool.eq_iff_iff, memB_iff, memB_iff, List.mem_reverse, List.take_length]
  rw [this]
/-- what Do makes of the parts, in plain lists -/
theorem do_plain {S : Prs} (hS : StoreOk S) {d : Ops} (hd : DeedOk d) :
    let K := sortU (rds d) ++ sortU (wrs d)
    runB (tldP (valP S) K K.length) d = runB S d ∧ (runB S d = true → overV (valP S) (valP (runS (tldP (valP S) K K.length) d)) (sortU (wrs d)) = valP (runS S d)) := by
  intro K
  have hV := fun k => val_bd hS k
  have hK : ∀ k ∈ K, keyB k = true := fun k hk => rw_key hd hk
  obtain ⟨t1, _⟩ := tld_ok hV hK K.length
  obtain ⟨q1, q2⟩ := told_run (V := valP S) (ks := K) t1 hd.ops (fun x => tld_val hV hK x) (fun k hk => List.mem_append.2 (.inl ((sortU_mem _ _).2 hk)))
  obtain ⟨r1, r2, r3⟩ := run_val hS hd.ops
  refine ⟨by rw [q1, r3], fun h => ?_⟩
  rw [q2 (by rw [q1, ← r3]; exact h), r2]
theorem seg_22 {w : World} {b : Nat} {u v : Value} {t : TypeId} (h : w.heap[b]? = some (.cells #[u, v] t (0, 0))) : Seg w (.slice (some ⟨b, 0, none⟩) 2 2) 1 2 [u, v] :=
  seg_blk (xs := [u, v]) h rfl (Nat.le_refl _) (by simp [maxLen])
theorem concat2_Str (b : Nat) (u v : Value) (x y : List ByteArray) (w : World) (h : w.heap[b]? = some (.cells #[u, v] 32 (0, 0))) (hu : Seg w u 1 x.length (cS x)) (hv : Seg w v 1 y.length (cS y)) (hn : x.length + y.length ≤ 1000000000) :
    Calls Tryz.prog 129 #[.slice (some ⟨b, 0, none⟩) 2 2] w fun e w' => ∃ v', e = .returned v' ∧ w'.ownsRow w.heap.size 9 1 v' (x ++ y).length (cS (x ++ y)) ∧ Ext w w' := by
  have := concat_Str _ [u, v] [(x.length, cS x), (y.length, cS y)] w (seg_22 h) (Nat.le_refl _) (Nat.le_refl _) (fun i a p ha hp => by
    match i, ha, hp with
    | 0, ha, hp => simp at ha hp; subst ha; subst hp; exact hu
    | 1, ha, hp => simp at ha hp; subst ha; subst hp; exact hv) (by intro p hp; simp at hp; rcases hp with rfl | rfl <;> exact cS_one _) (by simp [totN]; omega)
  have e1 : totN [(x.length, cS x), (y.length, cS y)] = (x ++ y).length := by simp [totN]
  have e2 : totC [(x.length, cS x), (y.length, cS y)] = cS (x ++ y) := by simp [totC, cS]
  rw [e1, e2] at this
  exact this
set_option maxRecDepth 100000 in
set_option maxHeartbeats 4000000 in
theorem pdo_ok {w : World} {bt : Nat} {C : List ByteArray} {O : List Int} {S : Prs} {vc vo : Value} {pv : Nat → Value} (h : PartsSt w bt C O (parP C O S) vc vo pv) (hm : MapOk C O) (hS : StoreOk S) (hl : S.length ≤ 440000) (vd : Value) (d : Ops) (hvd : Seg w vd 4 d.length (cO d)) (hd : DeedOk d) (hf : ∀ o ∈ d, o.from_.size ≤ 9223372036854775807) :
    Calls Tryz.prog 74 #[.pointer (some ⟨bt, 0, none⟩), .agg #[vd]] w fun e w' => e = .returned (.tuple #[.bool (runB S d), .int .i64 0]) ∧ (∃ pv', PartsSt w' bt C O (parP C O (runS S d)) vc vo pv') ∧ w.grownBy w' (some bt) := by
  have E0 := (Ext.refl w).alloc (.cells #[vd] 40)
  have b0 := heap_alloc_new w (.cells #[vd] 40)
  obtain ⟨ad, cd, rfl⟩ := seg_form hvd
  have z0 := cell_of_one b0
  have few := hm.few
  have hbt := h.lt
  obtain ⟨hr16, hw16⟩ := rw_len hd
  obtain ⟨hp1, hp2⟩ := do_plain hS hd
  have hKk := hid (fun k (hk : k ∈ sortU (rds d) ++ sortU (wrs d)) => rw_key hd hk)
  have hWk := hid (fun k (hk : k ∈ sortU (wrs d)) => rw_key hd (List.mem_append.2 (.inr hk)))
  have KY := hid (keys_ok (.slice ad d.length cd) d _ (hvd.ext E0) hd hf)
  have HD0 := hid (hvd.ext E0)
  have HZ0 := hid b0
  have h0 := h.ext E0
  have HP0 := hid h0
  have hKl : (sortU (rds d) ++ sortU (wrs d)).length = (sortU (rds d)).length + (sortU (wrs d)).length := List.length_append
  generalize hKe : sortU (rds d) ++ sortU (wrs d) = K at hp1 hp2 hKk hKl
  have HKE := hid hKe
  generalize sortU (rds d) = RS' at hr16 KY hKl HKE hKe
  generalize sortU (wrs d) = WS at hw16 hp2 hWk KY hKl HKE hKe
  clear hKe h h0 b0 hvd
  have HP1 := hid hp1
  have HP2 := hid hp2
  clear hp1 hp2
  have hK32 : K.length ≤ 32 := by omega
  clear hKl
  go_enter Tryz.func74, Tryz.ntmps74
  go_wp2_with fail
  refine (KY.out).mono ?_
  rintro e w1 ⟨v1, v2, rfl, o1, o2, E1⟩
  have s1 := own_seg o1
  have s2 := own_seg o2
  obtain ⟨a1, c1, rfl⟩ := own_form o1
  obtain ⟨a2, c2, rfl⟩ := own_form o2
  have b1 := heap_alloc_new w1 (.cells #[.slice a1 RS'.length c1, .slice a2 WS.length c2] 32)
  have E2 := (Ext.refl w1).alloc (.cells #[.slice a1 RS'.length c1, .slice a2 WS.length c2] 32)
  have CC := concat2_Str w1.heap.size (.slice a1 RS'.length c1) (.slice a2 WS.length c2) RS' WS _ b1 (s1.ext E2) (s2.ext E2) (by omega)
  rw [HKE.out] at CC
  have CC := hid CC
  have HW2 := hid (own_base (B' := w.heap.size) o2 (E0.size'))
  have E02 := hid ((E1.trans E2))
  have HE2 := hid E2
  clear o1 o2 s1 s2 b1 KY E1 E2 z0
  go_wp2_with fail
  refine (CC.out).mono ?_
  rintro e w2 ⟨v3, rfl, o3, E3⟩
  have s3 := own_seg o3
  obtain ⟨a3, c3, rfl⟩ := own_form o3
  have E13 := hid (E02.out.trans E3)
  have HW3 := hid (own_ext HW2.out (HE2.out.trans E3))
  have HV := hid (fun k => val_bd hS k)
  have HP2' := HP0.out.ext E13.out
  have HPP := hid HP2'
  have HS3 := hid s3
  have HZ2 := hid (E13.out.heap HZ0.out)
  have HM := hid hm
  clear CC o3 s3 E3 E02 HP2'
  go_wp2_with fail
  go_loopw [9, 11, 31] (fun ov _ jv wr => ∃ j : Nat, j ≤ K.length ∧ jv = .int .i64 j ∧ Seg wr ov 2 (tldP (valP S) K j).length (cP (tldP (valP S) K j)) ∧ Ext w2 wr) (fun _ _ jv _ => K.length - (intOf jv).toNat)
  case atStart => exact ⟨0, Nat.zero_le _, rfl, Seg.nil _ _, Ext.refl _⟩
  case round =>
    obtain ⟨wo, rfl⟩ : ∃ wo : World, wo = wr := ⟨_, rfl⟩
    obtain ⟨j, hj, rfl, ho, Eo⟩ := hrel
    obtain ⟨ot, oc, rfl⟩ := seg_form ho
    by_cases hjK : j < K.length
    · obtain ⟨b3, f3, rfl, _, m1, m2, h3⟩ := seg_cells HS3.out (by omega)
      unfold maxLen at m2
      have ck := Eo.cell (h3 j (.string K[j]) (by simp [cS, hjK]))
      have hkb := hKk.out _ (List.getElem_mem hjK)
      obtain ⟨t1, t2⟩ := tld_ok HV.out hKk.out j
      have hst := tld_step (valP S) hjK
      have hP := HPP.out.ext Eo
      obtain ⟨q, hq4, hqw, hqv⟩ : ∃ q : Nat, q < 4 ∧ whose C O K[j] = (q : Int) ∧ valP (parP C O S q) K[j] = valP S K[j] := by
        obtain ⟨g1, g2⟩ := whose_rng hm K[j]
        refine ⟨(whose C O K[j]).toNat, by omega, by omega, ?_⟩
        rw [par_val hS, if_pos (by omega)]
      generalize K[j] = key at ck hkb hst hqw hqv
      generalize valP S key = nv at hst hqv
      have hpo := par_ok hS C O q
      have hpl := par_len C O S q
      have hrw := own_seg (hP.rows q hq4)
      obtain ⟨ai, ci, hpe⟩ := own_form (hP.rows q hq4)
      obtain ⟨ce, fe⟩ := hP.cellI hq4
      rw [hpe] at ce hrw
      generalize parP C O S q = L at hqv hpo hpl hrw ce
      obtain ⟨x0, x1⟩ := hP.cell0
      have OF := fun w' (E : Ext wo w') => of_any (.agg #[vc, vo]) C O key w' (hP.is.ext E) hm.srt hm.len (by omega)
      rw [hqw] at OF
      have AT := fun w' (E : Ext wo w') => sat_any (.slice ai L.length ci) L key w' (hrw.ext E) hpo.srt (by omega)
      rw [hqv] at AT
      have WI := fun w' (E : Ext wo w') => with_any (.slice ot (tldP (valP S) K j).length oc) (tldP (valP S) K j) key nv w' (ho.ext E) t1.srt (by omega)
      rw [hst] at WI
      have OF := hid OF
      have AT := hid AT
      have WI := hid WI
      generalize (tldP (valP S) K j).length = tl at ho WI t2
      clear h3 hst hqw hqv hpe hrw ho t1 hP
      go_wp2_with fail
      refine wp_region_ph [.k (.slice ot tl oc), .k (.string key), .k (.pointer (some ⟨bt, 0, none⟩)), .k (.pointer (some ⟨bt, 0, none⟩)), .k (.pointer (some ⟨bt, 0, none⟩)), .k (.pointer (some ⟨bt, 0, none⟩)), .k (.agg #[vc, vo]), .k (.string key), .k (.int .i64 q), .k (.pointer (some ⟨bt, 0, none⟩)), .k (.pointer (some ⟨bt, 2, none⟩)), .k (.pointer (some ⟨bt, 2 + q, none⟩)), .k (.slice ai L.length ci), .k (.string key), .k (.int .i64 nv)] [] (by kernel_rfl) (by kernel_rfl) (by kernel_rfl) rfl rfl ?hs ?hC ?he
      case hC =>
        intro i hi
        simp at hi
      case hs =>
        refine ⟨?_, ?_, ?_, ?_, ?_, ?_, ?_, ?_, ?_, ?_, ?_, ?_, ?_, ?_, ?_, trivial⟩
        all_goals (
          intro x w' hE hd
          try simp [PhDeps, at_k, at_p, at_t, at_any, Region.binds] at hd
          try ((with_reducible refine Exists.elim hd ?_); clear hd; intro y hd; obtain ⟨hd, hG⟩ := hd)
          have d0 := hE.cell x0
          have d1 := hE.cell x1
          have d2 := hE.cell ce
          first | simp only [frL, List.length_cons, List.length_nil, List.take_succ_cons, List.take_zero, Nat.reduceAdd, Nat.zero_add, List.setIfInBounds_toArray, List.set_cons_zero, List.set_cons_succ, hd] | simp only [frL, List.length_cons, List.length_nil, List.take_succ_cons, List.take_zero, Nat.reduceAdd, Nat.zero_add, List.setIfInBounds_toArray, List.set_cons_zero, List.set_cons_succ]
          go_wp2_with (first | (go_at_call 130; refine (OF.out _ hE).mono ?_; rintro e wa ⟨rfl, hea⟩) | (go_at_call 134; refine (AT.out _ hE).mono ?_; rintro e wa ⟨rfl, hea⟩))
          all_goals first
            | ((with_reducible refine phK ?_ ?_); (focus rfl); (repeat (first | (with_reducible assumption) | (with_reducible exact Ext.refl _) | (with_reducible refine Ext.drew ?_) | (with_reducible refine Ext.drewN ?_ _) | (with_reducible refine Ext.alloc ?_ _) | (with_reducible refine Ext.trans ?_ (by with_reducible assumption)))))
            | ((with_reducible refine phT rfl hG ?_); (repeat (first | (with_reducible assumption) | (with_reducible exact Ext.refl _) | (with_reducible refine Ext.drew ?_) | (with_reducible refine Ext.drewN ?_ _) | (with_reducible refine Ext.alloc ?_ _) | (with_reducible refine Ext.trans ?_ (by with_reducible assumption)))))
            | ((with_reducible refine phU hG ?_); (repeat (first | (with_reducible assumption) | (with_reducible exact Ext.refl _) | (with_reducible refine Ext.drew ?_) | (with_reducible refine Ext.drewN ?_ _) | (with_reducible refine Ext.alloc ?_ _) | (with_reducible refine Ext.trans ?_ (by with_reducible assumption)))))
            | (with_reducible exact phBox hE)
            | (with_reducible exact phRow hE))
      case he =>
        intro x w4 E4 hd
        simp [PhEnd, at_k, at_p, at_t, at_any] at hd
        simp only [frL, List.length_cons, List.length_nil, List.take_succ_cons, List.take_zero, Nat.reduceAdd, Nat.zero_add, List.setIfInBounds_toArray, List.set_cons_zero, List.set_cons_succ, hd, List.length_cons, List.length_nil, List.drop_succ_cons, List.drop_zero]
        clear hd
        go_wp2_with fail
        refine (WI.out _ E4).mono ?_
        rintro e w5 ⟨v5, rfl, o5, E5⟩
        have HS5 := hid (own_seg o5)
        clear o5 WI AT OF
        go_wp2
        go_roundw
        case rel => exact ⟨j + 1, by omega, by go_num, HS5.out, (Eo.trans E4).trans E5⟩
        case measure => simp [intOf] <;> omega
    · obtain rfl : j = K.length := by omega
      obtain ⟨t1, t2⟩ := tld_ok HV.out hKk.out K.length
      generalize tldP (valP S) K K.length = T at ho t1 t2 HP1 HP2
      have z0 := cell_of_one (Eo.heap HZ2.out)
      have RN := hid (run_ok (.slice ot T.length oc) (.slice ad d.length cd) T d wo ho ((HD0.out.ext E13.out).ext Eo) t1 hd hf (by omega))
      have hun := (run_val t1 hd.ops).1
      rw [HP1.out] at RN
      obtain ⟨ob, hob⟩ : ∃ ob, runB S d = ob := ⟨_, rfl⟩
      have HOB := hid hob
      have hno := hid (fun h => run_no (l := S) (d := d) h)
      rw [hob] at RN HP2 hno
      have RN := hid RN
      have hul : (runS T d).length ≤ 100 := by have h1 := run_len T d; have h2 := hd.hi; omega
      generalize runS T d = U at RN hun hul HP2
      generalize T.length = tl at ho RN t2
      clear hob ho t1
      go_wp2_with fail
      refine (RN.out).mono ?_
      rintro e w5 ⟨v5, rfl, o5, E5⟩
      obtain ⟨a5, c5, rfl⟩ := own_form o5
      have P5 := hid ((HPP.out.ext Eo).ext E5)
      have EA := hid (E0.trans (E13.out.trans (Eo.trans E5)))
      have O5 := hid (own_base (B' := w.heap.size) o5 (E0.trans (E13.out.trans Eo)).size')
      have W5 := hid (own_ext HW3.out (Eo.trans E5))
      clear RN o5 z0
      cases ob with
      | false =>
        have P5' := P5.out
        rw [show parP C O S = parP C O (runS S d) by rw [hno.out rfl]] at P5'
        have P6 := hid P5'
        clear P5'
        go_wp2
        go_ret2
        exact ⟨rT2 (vB HOB.out.symm) rfl, ⟨_, P6.out⟩, grown_ext EA.out _⟩
      | true =>
        have hend := hid (HP2.out rfl)
        have P50 := hid P5.out
        have OK0 := hid (show PartsOk C O (overV (valP S) (valP U) (WS.take 0)) (parP C O S) S.length by rw [List.take_zero, over_nil]; exact parts_new hS)
        clear P5 HPP HP0
        go_wp2_with fail
        go_loopw [15, 16, 68] (fun _ _ jv wr => ∃ (j : Nat) (P : Nat → Prs) (pv' : Nat → Value), j ≤ WS.length ∧ jv = .int .i64 j ∧ PartsSt wr bt C O P vc vo pv' ∧ Hid (PartsOk C O (overV (valP S) (valP U) (WS.take j)) P (S.length + j)) ∧ w5.grownBy wr (some bt)) (fun _ _ jv _ => WS.length - (intOf jv).toNat)
        case atStart => exact ⟨0, _, _, Nat.zero_le _, rfl, P50.out, OK0, World.grownBy.refl _ _⟩
        case round =>
          clear OK0 P50
          obtain ⟨wq, rfl⟩ : ∃ wq : World, wq = wr := ⟨_, rfl⟩
          obtain ⟨j, P, pv', hj, rfl, hP, hOK, hG⟩ := hrel
          by_cases hjW : j < WS.length
          · have hWq := grown_own hG W5.out (.inr (fun e => by have := own_ge W5.out _ e; omega))
            have hUq := own_seg (grown_own hG O5.out (.inr (fun e => by have := own_ge O5.out _ e; omega)))
            obtain ⟨b2, f2, rfl, _, m1, m2, h2⟩ := seg_cells (own_seg hWq) (by omega)
            unfold maxLen at m2
            have ck := h2 j (.string WS[j]) (by simp [cS, hjW])
            have hkb := hWk.out _ (List.getElem_mem hjW)
            have hns := val_bd hun WS[j]
            have htk : WS.take j ++ [WS[j]] = WS.take (j + 1) := (List.take_succ_eq_append_getElem hjW).symm
            obtain ⟨q, hq4, hqw⟩ : ∃ q : Nat, q < 4 ∧ whose C O WS[j] = (q : Int) := by
              obtain ⟨g1, g2⟩ := whose_rng hm WS[j]
              exact ⟨(whose C O WS[j]).toNat, by omega, by omega⟩
            have hOK2 := hOK.out.put hq4 hqw hkb hns
            rw [over_step, htk] at hOK2
            have HOK2 := hid hOK2
            generalize WS[j] = key at ck hkb hns hqw HOK2
            clear hOK2 htk h2 hWq
            have AT := fun w' (E : Ext wq w') => sat_any (.slice a5 U.length c5) U key w' (hUq.ext E) hun.srt (by omega)
            generalize valP U key = nv at hns HOK2 AT
            have AT := hid AT
            have hpo := hOK.out.ok q hq4
            have hpl := hOK.out.len q hq4
            have hrw := own_seg (hP.rows q hq4)
            obtain ⟨ai, ci, hpe⟩ := own_form (hP.rows q hq4)
            obtain ⟨ce, fe⟩ := hP.cellI hq4
            rw [hpe] at ce hrw
            obtain ⟨x0, x1⟩ := hP.cell0
            have OF := of_any (.agg #[vc, vo]) C O key wq hP.is hm.srt hm.len (by omega)
            rw [hqw] at OF
            have OF := hid OF
            have WI := hid (fun w' (E : Ext wq w') => with_any (.slice ai (P q).length ci) (P q) key nv w' (hrw.ext E) hpo.srt (by omega))
            have HP := hid hP
            clear hP hpe hrw
            go_wp2_with fail
            refine (OF.out).mono ?_
            rintro e w6 ⟨rfl, E6⟩
            replace ce := E6.cell ce
            clear OF x0 x1
            go_wp2_with fail
            refine wp_region_ph [.k (.pointer (some ⟨bt, 0, none⟩)), .k (.int .i64 q), .k (.pointer (some ⟨bt, 0, none⟩)), .k (.int .i64 q), .k (.pointer (some ⟨bt, 0, none⟩)), .k (.pointer (some ⟨bt, 2, none⟩)), .k (.pointer (some ⟨bt, 2 + q, none⟩)), .k (.slice ai (P q).length ci), .k (.string key), .k (.slice a5 U.length c5), .k (.string key), .k (.int .i64 nv), .p (fun v w' => w'.ownsRow w6.heap.size 62 2 v (withP (P q) key nv).length (cP (withP (P q) key nv))), .k (.pointer (some ⟨bt, 0, none⟩)), .k (.pointer (some ⟨bt, 2, none⟩)), .k (.pointer (some ⟨bt, 2 + q, none⟩))] [] (by kernel_rfl) (by kernel_rfl) (by kernel_rfl) rfl rfl ?hs ?hC ?he
            case hC =>
              intro i hi
              simp at hi
            case hs =>
              refine ⟨?_, ?_, ?_, ?_, ?_, ?_, ?_, ?_, ?_, ?_, ?_, ?_, ?_, ?_, ?_, ?_, trivial⟩
              all_goals (
                intro x w' hE hd
                try simp [PhDeps, at_k, at_p, at_t, at_any, Region.binds] at hd
                try ((with_reducible refine Exists.elim hd ?_); clear hd; intro y hd; obtain ⟨hd, hG⟩ := hd)
                have d2 := hE.cell ce
                first | simp only [frL, List.length_cons, List.length_nil, List.take_succ_cons, List.take_zero, Nat.reduceAdd, Nat.zero_add, List.setIfInBounds_toArray, List.set_cons_zero, List.set_cons_succ, hd] | simp only [frL, List.length_cons, List.length_nil, List.take_succ_cons, List.take_zero, Nat.reduceAdd, Nat.zero_add, List.setIfInBounds_toArray, List.set_cons_zero, List.set_cons_succ]
                go_wp2_with (first | (go_at_call 134; refine (AT.out _ (E6.trans hE)).mono ?_; rintro e wa ⟨rfl, hea⟩) | (go_at_call 133; refine (WI.out _ (E6.trans hE)).mono ?_; rintro e wa ⟨y, rfl, hy, hea⟩))
                all_goals first
                  | ((with_reducible refine phK ?_ ?_); (focus rfl); (repeat (first | (with_reducible assumption) | (with_reducible exact Ext.refl _) | (with_reducible refine Ext.drew ?_) | (with_reducible refine Ext.drewN ?_ _) | (with_reducible refine Ext.alloc ?_ _) | (with_reducible refine Ext.trans ?_ (by with_reducible assumption)))))
                  | (exact phN (own_base hy hE.size') hE hea)
                  | ((with_reducible refine phT rfl hG ?_); (repeat (first | (with_reducible assumption) | (with_reducible exact Ext.refl _) | (with_reducible refine Ext.drew ?_) | (with_reducible refine Ext.drewN ?_ _) | (with_reducible refine Ext.alloc ?_ _) | (with_reducible refine Ext.trans ?_ (by with_reducible assumption)))))
                  | ((with_reducible refine phU hG ?_); (repeat (first | (with_reducible assumption) | (with_reducible exact Ext.refl _) | (with_reducible refine Ext.drew ?_) | (with_reducible refine Ext.drewN ?_ _) | (with_reducible refine Ext.alloc ?_ _) | (with_reducible refine Ext.trans ?_ (by with_reducible assumption)))))
                  | (with_reducible exact phBox hE)
                  | (with_reducible exact phRow hE))
            case he =>
              intro x w7 E7 hd
              simp [PhEnd, at_k, at_p, at_t] at hd
              obtain ⟨e0, e1, e2, e3, e4, e5, e6, e7, e8, e9, e10, e11, ⟨w8, _, g2, hX⟩, e13, e14, e15⟩ := hd
              have oX := own_ext hX g2
              obtain ⟨aX, cX, e12⟩ := own_form oX
              rw [e12] at oX
              have HP7 := HP.out.ext (E6.trans E7)
              obtain ⟨ce7, fi⟩ := HP7.cellI hq4
              have HPN := hid (HP7.set hq4 (own_base oX (Nat.zero_le _)))
              have HGN := hid (grown_trans (grown_trans hG (grown_ext (E6.trans E7) (some bt))) (grown_cell' w7 bt (2 + q) (.slice aX (withP (P q) key nv).length cX)))
              simp only [frL, List.length_cons, List.length_nil, List.take_succ_cons, List.take_zero, Nat.reduceAdd, Nat.zero_add, List.setIfInBounds_toArray, List.set_cons_zero, List.set_cons_succ, e0, e1, e2, e3, e4, e5, e6, e7, e8, e9, e10, e11, e12, e13, e14, e15, List.length_cons, List.length_nil, List.drop_succ_cons, List.drop_zero]
              clear e0 e1 e2 e3 e4 e5 e6 e7 e8 e9 e10 e11 e12 e13 e14 e15 oX hX g2 HP7 HP AT WI hG hOK
              go_wp2
              go_roundw
              case rel => exact ⟨j + 1, _, _, by omega, by go_num, HPN.out, HOK2, HGN.out⟩
              case measure => simp [intOf] <;> omega
          · obtain rfl : j = WS.length := by omega
            have hOKe := hOK.out
            rw [List.take_length, hend.out] at hOKe
            have hPe := hid (hP.congr (P' := parP C O (runS S d)) (fun i hi => hOKe.eq (run_val hS hd.ops).1 hi))
            have HG := hid (grown_trans (grown_ext EA.out (some bt)) hG)
            clear hP hG hOKe
            go_wp2
            go_ret2
            exact ⟨rT2 (vB HOB.out.symm) rfl, ⟨_, hPe.out⟩, HG.out⟩
end Go.Proofs.YtddghaoejnbkaaaGreatDoor
