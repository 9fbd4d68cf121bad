/- Contracts and lemmas for the proof of TopLog; each theorem states its own conditions. -/
import Derived.Test.YtddghaoejnbkaaaGreatDoorQTopLogax
import Derived.Test.YtddghaoejnbkaaaGreatDoorQTopLogbj
import Derived.Test.YtddghaoejnbkaaaGreatDoorQTopLogay
set_option linter.unusedVariables false
set_option linter.unusedSimpArgs false
/- Contracts and lemmas for the proofs of this seat; each theorem states its own conditions. -/
namespace Go.Proofs.YtddghaoejnbkaaaGreatDoor
open Go.RowKit
/-! deed.Keys -/
theorem infoStr : (Tryz.prog.info? 9).map (fun i => (i.zero, i.size, i.bytes)) = some (some (.string ⟨#[]⟩), 1, 16) := by kernel_rfl
theorem one_str (k : ByteArray) : ∀ u ∈ [Value.string k], u.oneCell' = true := by
  intro u hu; simp at hu; subst hu; rfl
theorem two_str (k j : ByteArray) : ∀ u ∈ [Value.string k, Value.string j], u.oneCell' = true := by
  intro u hu; simp at hu; rcases hu with rfl | rfl <;> rfl
theorem cS_app (a b : List ByteArray) : cS (a ++ b) = cS a ++ cS b := by simp [cS]
/-- where Keys' loop stands -/
def KRel (w : World) (R W : List ByteArray) (vr vw : Value) (wr : World) : Prop :=
  wr.ownsRow w.heap.size 9 1 vr R.length (cS R) ∧ wr.ownsRow w.heap.size 9 1 vw W.length (cS W) ∧ (∀ k, vr.ownBlock = some k → vw.ownBlock ≠ some k) ∧ Ext w wr
theorem ext_of_gf {G : Nat → Option (Nat × List Value)} {w W w' : World} (E : Ext w W) (h : GF G W w') (hG : ∀ k, k < w.heap.size → G k = none) : Ext w w' := by
  have hs := E.size'
  refine ⟨h.1.trans E.os, h.2.1.trans E.tape, h.2.2.1.trans E.output, Nat.le_trans hs h.2.2.2.1, fun k hk => ?_⟩
  rcases h.2.2.2.2 k (by omega) with e | ⟨_, _, _, _, e, _⟩
  · exact e.trans (Below.block E k hk)
  · rw [hG k hk] at e; cases e
theorem g2_low {r u : Value} {n m B : Nat} {ns ms : List Value} (hr : ∀ k, r.ownBlock = some k → B ≤ k) (hu : ∀ k, u.ownBlock = some k → B ≤ k) : ∀ k, k < B → G2 r n ns u m ms k = none := fun k hk => by
  have h1 : r.ownBlock ≠ some k := fun e => by have := hr k e; omega
  have h2 : u.ownBlock ≠ some k := fun e => by have := hu k e; omega
  simp [G2, h1, h2]
/-- what a round with one append leaves -/
theorem krel_w {w W w' : World} {R Ws : List ByteArray} {vr vw v' : Value} {k : ByteArray} {ob : Obj} (h : KRel w R Ws vr vw W) (hg : GF (G2 vr R.length [] vw Ws.length [.string k]) (W.alloc ob) w') (ho : OwnG (G2 vr R.length [] vw Ws.length [.string k]) w.heap.size 9 1 v' (Ws.length + 1) (cS Ws ++ [.string k]) w')
    (hb : ∀ j, v'.ownBlock = some j → vw.ownBlock = some j ∨ (W.alloc ob).heap.size ≤ j) : KRel w R (Ws ++ [k]) vr v' w' := by
  obtain ⟨h1, h2, h3, h4⟩ := h
  refine ⟨(OwnG.st hg (g2_own_fst (h1.alloc ob))).1, ?_, fun j hj e => ?_, ext_of_gf (h4.alloc ob) hg (g2_low (own_ge h1) (own_ge h2))⟩
  · rw [List.length_append, cS_app]; exact ho.1
  · rcases hb j e with e' | e'
    · exact h3 j hj e'
    · have := (h1.lt j hj).2
      simp at e'; omega
theorem krel_r {w W w' : World} {R Ws : List ByteArray} {vr vw v' : Value} {k : ByteArray} {ob : Obj} (h : KRel w R Ws vr vw W) (hg : GF (G2 vr R.length [.string k] vw Ws.length []) (W.alloc ob) w') (ho : OwnG (G2 vr R.length [.string k] vw Ws.length []) w.heap.size 9 1 v' (R.length + 1) (cS R ++ [.string k]) w')
    (hb : ∀ j, v'.ownBlock = some j → vr.ownBlock = some j ∨ (W.alloc ob).heap.size ≤ j) : KRel w (R ++ [k]) Ws v' vw w' := by
  obtain ⟨h1, h2, h3, h4⟩ := h
  refine ⟨?_, (OwnG.st hg (g2_own_snd h3 (h2.alloc ob))).1, fun j hj e => ?_, ext_of_gf (h4.alloc ob) hg (g2_low (own_ge h1) (own_ge h2))⟩
  · rw [List.length_append, cS_app]; exact ho.1
  · rcases hb j hj with e' | e'
    · exact h3 j e' e
    · have := (h2.lt j e).2
      simp at e'; omega
/-- what an append in a round asks -/
theorem app_prep {w W : World} {R Ws : List ByteArray} {vr vw : Value} {sz : Nat} (k : ByteArray) (h : KRel w R Ws vr vw W) (hs : W.heap.size = sz) :
    Seg (W.alloc (.cells #[.string k] 9)) (.slice (some ⟨sz, 0, none⟩) 1 1) 1 1 [.string k] ∧ (W.alloc (.cells #[.string k] 9)).ownsRow w.heap.size 9 1 vr R.length (cS R) ∧ (W.alloc (.cells #[.string k] 9)).ownsRow w.heap.size 9 1 vw Ws.length (cS Ws) ∧
    w.heap.size ≤ (W.alloc (.cells #[.string k] 9)).heap.size ∧ (∀ n ns m ms i, (W.alloc (.cells #[.string k] 9)).heap.size ≤ i → G2 vr n ns vw m ms i = none) := by
  subst hs
  obtain ⟨h1, h2, h3, h4⟩ := h
  have := h4.size'
  refine ⟨seg_one (heap_alloc_new W _), h1.alloc _, h2.alloc _, by simp; omega, fun n ns m ms i hi => g2_none (N := W.heap.size) (fun k hk => (h1.lt k hk).2) (fun k hk => (h2.lt k hk).2) i (by simp at hi; omega)⟩
/-- and with two -/
theorem krel_two {w W w' : World} {R Ws ks js : List ByteArray} {vr vw v1 v2 : Value} {m : Nat} (h : KRel w R Ws vr vw W) (hks : ks.length = m) (hjs : js.length = m)
    (hg : GF (G2 vr R.length (cS ks) vw Ws.length (cS js)) W w')
    (h1 : PR.Up (GF (G2 vr R.length (cS ks) vw Ws.length (cS js))) W w' (App1 (G2 vr R.length (cS ks) vw Ws.length (cS js)) W.heap.size w.heap.size 9 vr (R.length + m) (cS R ++ cS ks) v1))
    (h2 : PR.Up (GF (G2 vr R.length (cS ks) vw Ws.length (cS js))) W w' (App2 (G2 vr R.length (cS ks) vw Ws.length (cS js)) W.heap.size w.heap.size 9 vw (Ws.length + m) (cS Ws ++ cS js) [v1] v2)) :
    KRel w (R ++ ks) (Ws ++ js) v1 v2 w' := by
  obtain ⟨q1, q2, q3, q4⟩ := h
  have a1 := h1.now (fun a b => App1.st a b)
  have a2 := h2.now (fun a b => App2.st a b)
  refine ⟨?_, ?_, fun k hk => a2.2.2 v1 (by simp) k hk, ext_of_gf q4 hg (g2_low (own_ge q1) (own_ge q2))⟩
  · rw [List.length_append, hks, cS_app]; exact a1.1.1
  · rw [List.length_append, hjs, cS_app]; exact a2.1.1
theorem krel_sort1 {w wr wa w2 : World} {R Ws : List ByteArray} {vr vw v1 : Value} {n : Nat} {xs : List Value} (h : KRel w R Ws vr vw wr) (hg1 : wr.grownBy wa vr.ownBlock) (Ea : Ext wa w2) (o1 : w2.ownsRow wr.heap.size 9 1 v1 n xs) :
    w2.ownsRow w.heap.size 9 1 vw Ws.length (cS Ws) ∧ Ext w w2 ∧ (v1.ownBlock = none ∨ v1.ownBlock ≠ vw.ownBlock) ∧ ∀ k, vw.ownBlock = some k → w.heap.size ≤ k := by
  obtain ⟨hr, hw, hap, E⟩ := h
  have hrw : vw.ownBlock = none ∨ vw.ownBlock ≠ vr.ownBlock := by
    cases e : vw.ownBlock with
    | none => exact .inl rfl
    | some j => exact .inr fun e' => hap j e'.symm e
  refine ⟨own_ext (grown_own hg1 hw hrw) Ea, (E.grown hg1 (fun k hk => own_ge hr k hk)).trans Ea, ?_, own_ge hw⟩
  cases e : v1.ownBlock with
  | none => exact .inl rfl
  | some j =>
    refine .inr fun e' => ?_
    have a := own_ge o1 j e
    have b := (hw.lt j e'.symm).2
    omega
theorem rds_take {d : Ops} {k : Nat} (hk : k < d.length) : rds (d.take (k + 1)) = rds (d.take k) ++ rdO d[k] ∧ wrs (d.take (k + 1)) = wrs (d.take k) ++ wrO d[k] := by
  rw [List.take_succ_eq_append_getElem hk]; exact ⟨by simp only [rds, List.flatMap_append, List.flatMap_cons, List.flatMap_nil, List.append_nil], by simp only [wrs, List.flatMap_append, List.flatMap_cons, List.flatMap_nil, List.append_nil]⟩
theorem rdO_len (o : GOp) : (rdO o).length ≤ 2 ∧ (wrO o).length ≤ 2 := by
  unfold rdO wrO
  refine ⟨?_, ?_⟩
  · split <;> (try split) <;> (try split) <;> (try split) <;> simp
  · split <;> (try split) <;> (try split) <;> (try split) <;> simp
theorem rds_len (d : Ops) : ∀ k, (rds (d.take k)).length ≤ 2 * k ∧ (wrs (d.take k)).length ≤ 2 * k
  | 0 => by simp [rds, wrs]
  | k + 1 => by
    obtain ⟨h1, h2⟩ := rds_len d k
    by_cases hk : k < d.length
    · rw [(rds_take hk).1, (rds_take hk).2]
      have := rdO_len d[k]
      simp only [List.length_append]; omega
    · rw [List.take_of_length_le (by omega)]
      rw [List.take_of_length_le (by omega)] at h1 h2
      omega
set_option maxRecDepth 100000 in
set_option maxHeartbeats 1000000 in
theorem keys_ok (vd : Value) (d : Ops) (w : World) (hvd : Seg w vd 4 d.length (cO d)) (hd : DeedOk d) (hf : ∀ o ∈ d, o.from_.size ≤ 9223372036854775807) :
    Calls Tryz.prog 128 #[.agg #[vd]] w fun e w' => ∃ v1 v2, e = .returned (.tuple #[v1, v2, .int .i64 0]) ∧ w'.ownsRow w.heap.size 9 1 v1 (sortU (rds d)).length (cS (sortU (rds d))) ∧ w'.ownsRow w.heap.size 9 1 v2 (sortU (wrs d)).length (cS (sortU (wrs d))) ∧ Ext w w' := by
  have hd8 := hd.hi
  have E0 := (Ext.refl w).alloc (.cells #[vd] 40)
  have b0 := heap_alloc_new w (.cells #[vd] 40)
  obtain ⟨h0, x, cap, rfl, h1, h2, h3⟩ := hvd
  have hvd : Seg w (.slice x d.length cap) 4 d.length (cO d) := ⟨h0, x, cap, rfl, h1, h2, h3⟩
  clear h0
  unfold maxLen at h2
  have c0 := cell_of_one b0
  have C := dcheck_any (.slice x d.length cap) d (w.alloc (.cells #[.slice x d.length cap] 40)) (hvd.ext E0) (opsSm_ok hd hf)
  rw [deedE_ok hd] at C
  have C := hid C
  have H3 := hid h3
  clear h3
  go_enter Tryz.func128, Tryz.ntmps128
  go_wp2_with fail
  refine (C.out).mono ?_
  rintro e w1 ⟨rfl, E1⟩
  have c1 := cell_of_one (E1.heap b0)
  have E := E0.trans E1
  clear C b0 c0 E0 E1 hvd
  go_wp2_with fail
  go_loopw [6, 7, 9, 18, 24, 31, 43, 55, 62] (fun vr vw _ i _ _ _ _ _ wr => ∃ k : Nat, k ≤ d.length ∧ i = .int .i64 k ∧ KRel w (rds (d.take k)) (wrs (d.take k)) vr vw wr) (fun _ _ _ i _ _ _ _ _ _ => d.length - (intOf i).toNat)
  case atStart => exact ⟨0, Nat.zero_le _, rfl, World.ownsRow_nil _ _ _ _, World.ownsRow_nil _ _ _ _, by simp [Value.ownBlock], E⟩
  case round =>
    clear c1 E
    obtain ⟨k, hk, rfl, hK⟩ := hrel
    by_cases hlt : k < d.length
    · obtain ⟨b, off, rfl, hc⟩ := H3.out (by omega)
      have E := hK.2.2.2
      obtain ⟨y0, y1, y2, y3⟩ := seg_op (fun j u hu => E.cell (hc j u hu)) hlt
      obtain ⟨t1, t2⟩ := rds_take hlt
      obtain ⟨l1, l2⟩ := rds_len d k
      have oo := hd.ops d[k] (List.getElem_mem hlt)
      clear hc
      generalize rds (d.take k) = R at hK t1 l1
      generalize wrs (d.take k) = Ws at hK t2 l2
      generalize d[k] = o at y0 y1 y2 y3 t1 t2 oo
      have hkd := kinds oo
      clear oo
      obtain ⟨kd, key, fr, n⟩ := o
      dsimp only at y0 y1 y2 y3 hkd
      have T1 := hid t1
      have T2 := hid t2
      clear t1 t2
      obtain ⟨hr, hw, hap, _⟩ := id hK
      obtain ⟨ar, cr, rfl⟩ := own_form hr
      obtain ⟨aw, cw, rfl⟩ := own_form hw
      have EW := (Ext.refl wr).alloc (.cells #[.int .i64 kd, .string key, .string fr, .int .i64 n] 125)
      have kW : KRel w R Ws (.slice ar R.length cr) (.slice aw Ws.length cw) (wr.alloc (.cells #[.int .i64 kd, .string key, .string fr, .int .i64 n] 125)) := ⟨own_ext hr EW, own_ext hw EW, hap, E.trans EW⟩
      have gW := heap_alloc_new wr (.cells #[.int .i64 kd, .string key, .string fr, .int .i64 n] 125)
      have sW : (wr.alloc (.cells #[.int .i64 kd, .string key, .string fr, .int .i64 n] 125)).heap.size = wr.heap.size + 1 := by simp
      obtain ⟨W, hW⟩ : ∃ W, wr.alloc (.cells #[.int .i64 kd, .string key, .string fr, .int .i64 n] 125) = W := ⟨_, rfl⟩
      rw [hW] at EW kW gW sW
      have xW := blk4 gW
      have rlt : ∀ k, (Value.slice ar R.length cr).ownBlock = some k → k < wr.heap.size := fun k h => (hr.lt k h).2
      have wlt : ∀ k, (Value.slice aw Ws.length cw).ownBlock = some k → k < wr.heap.size := fun k h => (hw.lt k h).2
      have bW := kW.2.2.2.size'
      rcases hkd with rfl | rfl | rfl | rfl | rfl
      · obtain ⟨p1, p2, p3, p4, p5⟩ := app_prep key kW sW
        go_wp2_with (first | (at_builtin; refine (wpList_appG rfl _ _ 32 rfl w.heap.size 9 (.string ⟨#[]⟩) 1 16 Tryz.underlying32 infoStr rfl (by decide) _ Ws.length (cS Ws) rfl p3 _ 1 [.string key] rfl (by decide) p1 (one_str _) (by omega) (by unfold maxLen; omega) p4 (G2 (.slice ar R.length cr) R.length [] (.slice aw Ws.length cw) Ws.length [.string key]) (g2_snd1 hap) (p5 _ _ _ _) ?_); intro v' w9 o1 o2 o3))
        go_roundw
        case rel => exact ⟨k + 1, by omega, by go_num, by rw [T1.out, T2.out]; simpa [rdO, wrO] using krel_w kW o2 o1 o3⟩
        case measure => simp [intOf]; omega
      · have sW' : wr.heap.size < W.heap.size := by omega
        clear sW
        go_wp2_with fail
        refine PR.wp_region_ph (gf_fr (G2 (.slice ar R.length cr) R.length [.string key] (.slice aw Ws.length cw) Ws.length [.string key])) [PR.RS.k (.slice ar R.length cr), PR.RS.k (.pointer (some ⟨wr.heap.size, 1, none⟩)), PR.RS.k (.string key), PR.RS.p (NewB W.heap.size #[.string key] 9 1), PR.RS.p (App1 (G2 (.slice ar R.length cr) R.length [.string key] (.slice aw Ws.length cw) Ws.length [.string key]) W.heap.size w.heap.size 9 (.slice ar R.length cr) (R.length + 1) (cS R ++ [.string key])), PR.RS.k (.slice aw Ws.length cw), PR.RS.k (.pointer (some ⟨wr.heap.size, 1, none⟩)), PR.RS.k (.string key), PR.RS.p (NewB W.heap.size #[.string key] 9 1), PR.RS.d [4] (App2 (G2 (.slice ar R.length cr) R.length [.string key] (.slice aw Ws.length cw) Ws.length [.string key]) W.heap.size w.heap.size 9 (.slice aw Ws.length cw) (Ws.length + 1) (cS Ws ++ [.string key]))] [[], [], [], [], [], [], [], [], [], [4]] [] (by kernel_rfl) (by kernel_rfl) (by kernel_rfl) rfl rfl rfl (by kernel_rfl) ?hs ?hC ?he
        case hC =>
          intro i hi
          simp at hi
        case hs =>
          refine ⟨?_, ?_, ?_, ?_, ?_, ?_, ?_, ?_, ?_, ?_, trivial⟩
          all_goals (
            intro x w' hE hd
            try simp [PR.PhDeps, PR.at_k, PR.at_p, PR.at_d, PR.at_any, Region.binds] at hd
            have hr' := OwnG.st hE (g2_own_fst kW.1)
            have hw' := OwnG.st hE (g2_own_snd hap kW.2.1)
            have gx := gf_heap hE gW (g2_none rlt wlt _ (Nat.le_refl _))
            have xx := blk4 gx
            have sz := gf_size hE
            first | simp only [frL, List.length_cons, List.length_nil, List.take_succ_cons, List.take_zero, Nat.reduceAdd, Nat.zero_add, List.setIfInBounds_toArray, List.set_cons_zero, List.set_cons_succ, hd] | simp only [frL, List.length_cons, List.length_nil, List.take_succ_cons, List.take_zero, Nat.reduceAdd, Nat.zero_add, List.setIfInBounds_toArray, List.set_cons_zero, List.set_cons_succ]
            go_wp2_with (first | (at_builtin; refine (wpList_appG rfl _ _ 32 rfl w.heap.size 9 (.string ⟨#[]⟩) 1 16 Tryz.underlying32 infoStr rfl (by decide) _ R.length (cS R) rfl hr'.1 _ 1 [.string key] rfl (by decide) ((hd.2.now (fun a b => NewB.st (g2_none (N := W.heap.size) (fun k h => by have := rlt k h; omega) (fun k h => by have := wlt k h; omega)) a b)).seg rfl (by decide)) (one_str _) (by omega) (by unfold maxLen; omega) (by omega) (G2 (.slice ar R.length cr) R.length [.string key] (.slice aw Ws.length cw) Ws.length [.string key]) g2_fst1 (g2_none (fun k h => by have := rlt k h; omega) (fun k h => by have := wlt k h; omega)) ?_); intro v' w'' o1 o2 o3) | (at_builtin; refine (wpList_appG rfl _ _ 32 rfl w.heap.size 9 (.string ⟨#[]⟩) 1 16 Tryz.underlying32 infoStr rfl (by decide) _ Ws.length (cS Ws) rfl hw'.1 _ 1 [.string key] rfl (by decide) ((hd.2.1.now (fun a b => NewB.st (g2_none (N := W.heap.size) (fun k h => by have := rlt k h; omega) (fun k h => by have := wlt k h; omega)) a b)).seg rfl (by decide)) (one_str _) (by omega) (by unfold maxLen; omega) (by omega) (G2 (.slice ar R.length cr) R.length [.string key] (.slice aw Ws.length cw) Ws.length [.string key]) (g2_snd1 hap) (g2_none (fun k h => by have := rlt k h; omega) (fun k h => by have := wlt k h; omega)) ?_); intro v' w'' o1 o2 o3))
            all_goals first
              | ((with_reducible refine PR.phK ?_ ?_); (focus rfl); exact gf_ext (by (repeat (first | (with_reducible assumption) | (with_reducible exact Ext.refl _) | (with_reducible refine Ext.drew ?_) | (with_reducible refine Ext.drewN ?_ _) | (with_reducible refine Ext.alloc ?_ _) | (with_reducible refine Ext.trans ?_ (by with_reducible assumption))))))
              | (exact PR.phN (gf_fr _) (app1_mk (by omega) o1 o3) hE o2)
              | (exact PR.phD (gf_fr _) (app2_mk (by omega) (fun k h => by have := rlt k h; omega) (fun k h => by have := wlt k h; omega) hap hd.2.2 o1 o3) hE o2)
              | (with_reducible exact phNew hE))
        case he =>
          intro x w9 hF hd
          simp [PR.PhEnd, PR.at_k, PR.at_p, PR.at_d] at hd
          obtain ⟨e0, e1, e2, u3, u4, e5, e6, e7, u8, u9⟩ := hd
          have K := krel_two (ks := [key]) (js := [key]) (m := 1) kW rfl rfl hF u4 u9
          simp only [frL, List.length_cons, List.length_nil, List.take_succ_cons, List.take_zero, Nat.reduceAdd, Nat.zero_add, List.setIfInBounds_toArray, List.set_cons_zero, List.set_cons_succ, e0, e1, e2, e5, e6, e7, List.length_cons, List.length_nil, List.drop_succ_cons, List.drop_zero]
          clear e0 e1 e2 u3 u4 e5 e6 e7 u8 u9 hW
          generalize x 4 = v1 at K ⊢
          generalize x 9 = v2 at K ⊢
          go_wp2
          go_roundw
          case rel => exact ⟨k + 1, by omega, by go_num, by rw [T1.out, T2.out]; simpa [rdO, wrO] using K⟩
          case measure => simp [intOf]; omega
      · have sW' : wr.heap.size < W.heap.size := by omega
        clear sW
        go_wp2_with fail
        refine PR.wp_region_ph (gf_fr (G2 (.slice ar R.length cr) R.length [.string fr] (.slice aw Ws.length cw) Ws.length [.string key])) [PR.RS.k (.slice ar R.length cr), PR.RS.k (.pointer (some ⟨wr.heap.size, 2, none⟩)), PR.RS.k (.string fr), PR.RS.p (NewB W.heap.size #[.string fr] 9 1), PR.RS.p (App1 (G2 (.slice ar R.length cr) R.length [.string fr] (.slice aw Ws.length cw) Ws.length [.string key]) W.heap.size w.heap.size 9 (.slice ar R.length cr) (R.length + 1) (cS R ++ [.string fr])), PR.RS.k (.slice aw Ws.length cw), PR.RS.k (.pointer (some ⟨wr.heap.size, 1, none⟩)), PR.RS.k (.string key), PR.RS.p (NewB W.heap.size #[.string key] 9 1), PR.RS.d [4] (App2 (G2 (.slice ar R.length cr) R.length [.string fr] (.slice aw Ws.length cw) Ws.length [.string key]) W.heap.size w.heap.size 9 (.slice aw Ws.length cw) (Ws.length + 1) (cS Ws ++ [.string key]))] [[], [], [], [], [], [], [], [], [], [4]] [] (by kernel_rfl) (by kernel_rfl) (by kernel_rfl) rfl rfl rfl (by kernel_rfl) ?hs ?hC ?he
        case hC =>
          intro i hi
          simp at hi
        case hs =>
          refine ⟨?_, ?_, ?_, ?_, ?_, ?_, ?_, ?_, ?_, ?_, trivial⟩
          all_goals (
            intro x w' hE hd
            try simp [PR.PhDeps, PR.at_k, PR.at_p, PR.at_d, PR.at_any, Region.binds] at hd
            have hr' := OwnG.st hE (g2_own_fst kW.1)
            have hw' := OwnG.st hE (g2_own_snd hap kW.2.1)
            have gx := gf_heap hE gW (g2_none rlt wlt _ (Nat.le_refl _))
            have xx := blk4 gx
            have sz := gf_size hE
            first | simp only [frL, List.length_cons, List.length_nil, List.take_succ_cons, List.take_zero, Nat.reduceAdd, Nat.zero_add, List.setIfInBounds_toArray, List.set_cons_zero, List.set_cons_succ, hd] | simp only [frL, List.length_cons, List.length_nil, List.take_succ_cons, List.take_zero, Nat.reduceAdd, Nat.zero_add, List.setIfInBounds_toArray, List.set_cons_zero, List.set_cons_succ]
            go_wp2_with (first | (at_builtin; refine (wpList_appG rfl _ _ 32 rfl w.heap.size 9 (.string ⟨#[]⟩) 1 16 Tryz.underlying32 infoStr rfl (by decide) _ R.length (cS R) rfl hr'.1 _ 1 [.string fr] rfl (by decide) ((hd.2.now (fun a b => NewB.st (g2_none (N := W.heap.size) (fun k h => by have := rlt k h; omega) (fun k h => by have := wlt k h; omega)) a b)).seg rfl (by decide)) (one_str _) (by omega) (by unfold maxLen; omega) (by omega) (G2 (.slice ar R.length cr) R.length [.string fr] (.slice aw Ws.length cw) Ws.length [.string key]) g2_fst1 (g2_none (fun k h => by have := rlt k h; omega) (fun k h => by have := wlt k h; omega)) ?_); intro v' w'' o1 o2 o3) | (at_builtin; refine (wpList_appG rfl _ _ 32 rfl w.heap.size 9 (.string ⟨#[]⟩) 1 16 Tryz.underlying32 infoStr rfl (by decide) _ Ws.length (cS Ws) rfl hw'.1 _ 1 [.string key] rfl (by decide) ((hd.2.1.now (fun a b => NewB.st (g2_none (N := W.heap.size) (fun k h => by have := rlt k h; omega) (fun k h => by have := wlt k h; omega)) a b)).seg rfl (by decide)) (one_str _) (by omega) (by unfold maxLen; omega) (by omega) (G2 (.slice ar R.length cr) R.length [.string fr] (.slice aw Ws.length cw) Ws.length [.string key]) (g2_snd1 hap) (g2_none (fun k h => by have := rlt k h; omega) (fun k h => by have := wlt k h; omega)) ?_); intro v' w'' o1 o2 o3))
            all_goals first
              | ((with_reducible refine PR.phK ?_ ?_); (focus rfl); exact gf_ext (by (repeat (first | (with_reducible assumption) | (with_reducible exact Ext.refl _) | (with_reducible refine Ext.drew ?_) | (with_reducible refine Ext.drewN ?_ _) | (with_reducible refine Ext.alloc ?_ _) | (with_reducible refine Ext.trans ?_ (by with_reducible assumption))))))
              | (exact PR.phN (gf_fr _) (app1_mk (by omega) o1 o3) hE o2)
              | (exact PR.phD (gf_fr _) (app2_mk (by omega) (fun k h => by have := rlt k h; omega) (fun k h => by have := wlt k h; omega) hap hd.2.2 o1 o3) hE o2)
              | (with_reducible exact phNew hE))
        case he =>
          intro x w9 hF hd
          simp [PR.PhEnd, PR.at_k, PR.at_p, PR.at_d] at hd
          obtain ⟨e0, e1, e2, u3, u4, e5, e6, e7, u8, u9⟩ := hd
          have K := krel_two (ks := [fr]) (js := [key]) (m := 1) kW rfl rfl hF u4 u9
          simp only [frL, List.length_cons, List.length_nil, List.take_succ_cons, List.take_zero, Nat.reduceAdd, Nat.zero_add, List.setIfInBounds_toArray, List.set_cons_zero, List.set_cons_succ, e0, e1, e2, e5, e6, e7, List.length_cons, List.length_nil, List.drop_succ_cons, List.drop_zero]
          clear e0 e1 e2 u3 u4 e5 e6 e7 u8 u9 hW
          generalize x 4 = v1 at K ⊢
          generalize x 9 = v2 at K ⊢
          go_wp2
          go_roundw
          case rel => exact ⟨k + 1, by omega, by go_num, by rw [T1.out, T2.out]; simpa [rdO, wrO] using K⟩
          case measure => simp [intOf]; omega
      · obtain ⟨p1, p2, p3, p4, p5⟩ := app_prep key kW sW
        go_wp2_with (first | (at_builtin; refine (wpList_appG rfl _ _ 32 rfl w.heap.size 9 (.string ⟨#[]⟩) 1 16 Tryz.underlying32 infoStr rfl (by decide) _ R.length (cS R) rfl p2 _ 1 [.string key] rfl (by decide) p1 (one_str _) (by omega) (by unfold maxLen; omega) p4 (G2 (.slice ar R.length cr) R.length [.string key] (.slice aw Ws.length cw) Ws.length []) g2_fst1 (p5 _ _ _ _) ?_); intro v' w9 o1 o2 o3))
        go_roundw
        case rel => exact ⟨k + 1, by omega, by go_num, by rw [T1.out, T2.out]; simpa [rdO, wrO] using krel_r kW o2 o1 o3⟩
        case measure => simp [intOf]; omega
      · have sW' : wr.heap.size < W.heap.size := by omega
        clear sW
        go_wp2_with fail
        refine PR.wp_region_ph (gf_fr (G2 (.slice ar R.length cr) R.length [.string key, .string fr] (.slice aw Ws.length cw) Ws.length [.string key, .string fr])) [PR.RS.k (.slice ar R.length cr), PR.RS.k (.pointer (some ⟨wr.heap.size, 1, none⟩)), PR.RS.k (.string key), PR.RS.k (.pointer (some ⟨wr.heap.size, 2, none⟩)), PR.RS.k (.string fr), PR.RS.p (NewB W.heap.size #[.string key, .string fr] 9 2), PR.RS.p (App1 (G2 (.slice ar R.length cr) R.length [.string key, .string fr] (.slice aw Ws.length cw) Ws.length [.string key, .string fr]) W.heap.size w.heap.size 9 (.slice ar R.length cr) (R.length + 2) (cS R ++ [.string key, .string fr])), PR.RS.k (.slice aw Ws.length cw), PR.RS.k (.pointer (some ⟨wr.heap.size, 1, none⟩)), PR.RS.k (.string key), PR.RS.k (.pointer (some ⟨wr.heap.size, 2, none⟩)), PR.RS.k (.string fr), PR.RS.p (NewB W.heap.size #[.string key, .string fr] 9 2), PR.RS.d [6] (App2 (G2 (.slice ar R.length cr) R.length [.string key, .string fr] (.slice aw Ws.length cw) Ws.length [.string key, .string fr]) W.heap.size w.heap.size 9 (.slice aw Ws.length cw) (Ws.length + 2) (cS Ws ++ [.string key, .string fr]))] [[], [], [], [], [], [], [], [], [], [], [], [], [], [6]] [] (by kernel_rfl) (by kernel_rfl) (by kernel_rfl) rfl rfl rfl (by kernel_rfl) ?hs ?hC ?he
        case hC =>
          intro i hi
          simp at hi
        case hs =>
          refine ⟨?_, ?_, ?_, ?_, ?_, ?_, ?_, ?_, ?_, ?_, ?_, ?_, ?_, ?_, trivial⟩
          all_goals (
            intro x w' hE hd
            try simp [PR.PhDeps, PR.at_k, PR.at_p, PR.at_d, PR.at_any, Region.binds] at hd
            have hr' := OwnG.st hE (g2_own_fst kW.1)
            have hw' := OwnG.st hE (g2_own_snd hap kW.2.1)
            have gx := gf_heap hE gW (g2_none rlt wlt _ (Nat.le_refl _))
            have xx := blk4 gx
            have sz := gf_size hE
            first | simp only [frL, List.length_cons, List.length_nil, List.take_succ_cons, List.take_zero, Nat.reduceAdd, Nat.zero_add, List.setIfInBounds_toArray, List.set_cons_zero, List.set_cons_succ, hd] | simp only [frL, List.length_cons, List.length_nil, List.take_succ_cons, List.take_zero, Nat.reduceAdd, Nat.zero_add, List.setIfInBounds_toArray, List.set_cons_zero, List.set_cons_succ]
            go_wp2_with (first | (at_builtin; refine (wpList_appG rfl _ _ 32 rfl w.heap.size 9 (.string ⟨#[]⟩) 1 16 Tryz.underlying32 infoStr rfl (by decide) _ R.length (cS R) rfl hr'.1 _ 2 [.string key, .string fr] rfl (by decide) ((hd.2.now (fun a b => NewB.st (g2_none (N := W.heap.size) (fun k h => by have := rlt k h; omega) (fun k h => by have := wlt k h; omega)) a b)).seg rfl (by decide)) (two_str _ _) (by omega) (by unfold maxLen; omega) (by omega) (G2 (.slice ar R.length cr) R.length [.string key, .string fr] (.slice aw Ws.length cw) Ws.length [.string key, .string fr]) g2_fst1 (g2_none (fun k h => by have := rlt k h; omega) (fun k h => by have := wlt k h; omega)) ?_); intro v' w'' o1 o2 o3) | (at_builtin; refine (wpList_appG rfl _ _ 32 rfl w.heap.size 9 (.string ⟨#[]⟩) 1 16 Tryz.underlying32 infoStr rfl (by decide) _ Ws.length (cS Ws) rfl hw'.1 _ 2 [.string key, .string fr] rfl (by decide) ((hd.2.1.now (fun a b => NewB.st (g2_none (N := W.heap.size) (fun k h => by have := rlt k h; omega) (fun k h => by have := wlt k h; omega)) a b)).seg rfl (by decide)) (two_str _ _) (by omega) (by unfold maxLen; omega) (by omega) (G2 (.slice ar R.length cr) R.length [.string key, .string fr] (.slice aw Ws.length cw) Ws.length [.string key, .string fr]) (g2_snd1 hap) (g2_none (fun k h => by have := rlt k h; omega) (fun k h => by have := wlt k h; omega)) ?_); intro v' w'' o1 o2 o3))
            all_goals first
              | ((with_reducible refine PR.phK ?_ ?_); (focus rfl); exact gf_ext (by (repeat (first | (with_reducible assumption) | (with_reducible exact Ext.refl _) | (with_reducible refine Ext.drew ?_) | (with_reducible refine Ext.drewN ?_ _) | (with_reducible refine Ext.alloc ?_ _) | (with_reducible refine Ext.trans ?_ (by with_reducible assumption))))))
              | (exact PR.phN (gf_fr _) (app1_mk (by omega) o1 o3) hE o2)
              | (exact PR.phD (gf_fr _) (app2_mk (by omega) (fun k h => by have := rlt k h; omega) (fun k h => by have := wlt k h; omega) hap hd.2.2 o1 o3) hE o2)
              | (with_reducible exact phNew hE))
        case he =>
          intro x w9 hF hd
          simp [PR.PhEnd, PR.at_k, PR.at_p, PR.at_d] at hd
          obtain ⟨e0, e1, e2, e3, e4, u5, u6, e7, e8, e9, e10, e11, u12, u13⟩ := hd
          have K := krel_two (ks := [key, fr]) (js := [key, fr]) (m := 2) kW rfl rfl hF u6 u13
          simp only [frL, List.length_cons, List.length_nil, List.take_succ_cons, List.take_zero, Nat.reduceAdd, Nat.zero_add, List.setIfInBounds_toArray, List.set_cons_zero, List.set_cons_succ, e0, e1, e2, e3, e4, e7, e8, e9, e10, e11, List.length_cons, List.length_nil, List.drop_succ_cons, List.drop_zero]
          clear e0 e1 e2 e3 e4 u5 u6 e7 e8 e9 e10 e11 u12 u13 hW
          generalize x 6 = v1 at K ⊢
          generalize x 13 = v2 at K ⊢
          go_wp2
          go_roundw
          case rel => exact ⟨k + 1, by omega, by go_num, by rw [T1.out, T2.out]; simpa [rdO, wrO] using K⟩
          case measure => simp [intOf]; omega
    · obtain rfl : k = d.length := by omega
      rw [List.take_of_length_le (Nat.le_refl _)] at hK
      obtain ⟨l1, l2⟩ := rds_len d d.length
      rw [List.take_of_length_le (Nat.le_refl _)] at l1 l2
      have hE := hK.2.2.2.size'
      have S1 := hid (sorted_any w.heap.size _ (rds d) wr hK.1 hE (by omega))
      go_wp2_with fail
      refine (S1.out).mono ?_
      rintro e w2 ⟨v1, rfl, o1, wa, hg1, Ea⟩
      obtain ⟨hw2, E2, n12, hlow⟩ := krel_sort1 hK hg1 Ea o1
      have S2 := hid (sorted_any w.heap.size _ (wrs d) w2 hw2 E2.size' (by omega))
      clear S1
      go_wp2_with fail
      refine (S2.out).mono ?_
      rintro e w3 ⟨v2, rfl, o2, wb, hg2, Eb⟩
      have o1' := own_ext (grown_own hg2 o1 n12) Eb
      have E3 := (E2.grown hg2 hlow).trans Eb
      clear S2
      go_wp2
      go_ret3
      exact ⟨v1, v2, rfl, own_base o1' hE, own_base o2 E2.size', E3⟩
end Go.Proofs.YtddghaoejnbkaaaGreatDoor
