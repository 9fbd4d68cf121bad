/- Contracts and lemmas for the proof of TopMoves; each theorem states its own conditions. -/
import Derived.Test.YtnepdfpooobmcaaGreatQTopMovesbk
set_option linter.unusedVariables false
set_option linter.unusedSimpArgs false
/- Contracts and lemmas for the proofs of this seat; each theorem states its own conditions. -/
namespace Go.Proofs.YtnepdfpooobmcaaGreat
open Go.RowKit
/-! parts.Turn -/
/-- the parts of a new map, once so many pairs have gone over -/
def gone' (C' : List ByteArray) (O' : List Int) (l : Prs) (a : Nat) : Prs := foldW [] (toP C' O' l a)
theorem gone_step (C' : List ByteArray) (O' : List Int) (l : Prs) (x : ByteArray × Int) {q : Nat} (hq : whose C' O' x.1 = (q : Int)) : (fun a => if a = q then withP (gone' C' O' l q) x.1 x.2 else gone' C' O' l a) = gone' C' O' (l ++ [x]) := by
  funext a
  unfold gone'
  rw [toP_add, hq]
  by_cases e : a = q
  · subst e; rw [if_pos rfl, if_pos rfl, foldW_app, foldW_one]
  · rw [if_neg e, if_neg (by omega)]
theorem gone_ok {C' : List ByteArray} {O' : List Int} {l : Prs} (h : ∀ x ∈ l, keyB x.1 = true ∧ -1000000000 ≤ x.2 ∧ x.2 ≤ 1000000000) (a : Nat) : StoreOk (gone' C' O' l a) ∧ (gone' C' O' l a).length ≤ l.length := by
  obtain ⟨h1, h2, _⟩ := foldW_ok (l := toP C' O' l a) storeOk_nil (fun x hx => h x (List.mem_filter.1 hx).1)
  have h3 : (toP C' O' l a).length ≤ l.length := List.length_filter_le _ _
  have e : ([] : Prs).length = 0 := rfl
  exact ⟨h1, by unfold gone'; omega⟩
theorem gone_nil (C' : List ByteArray) (O' : List Int) : gone' C' O' [] = untilP (fun _ => []) 0 := by
  funext a; unfold gone' untilP; rw [if_neg (by omega)]; rfl
theorem parts_store {w : World} {bt : Nat} {C C' : List ByteArray} {O O' : List Int} {P P' : Nat → Prs} {vc vo vc' vo' : Value} {pv pv' : Nat → Value} {bn : Nat} (h : PartsSt w bt C O P vc vo pv) (h' : PartsSt w bn C' O' P' vc' vo' pv') :
    PartsSt ((((((w.setCell ⟨bt, 0, none⟩ vc').setCell ⟨bt, 1, none⟩ vo').setCell ⟨bt, 2, none⟩ (pv' 0)).setCell ⟨bt, 3, none⟩ (pv' 1)).setCell ⟨bt, 4, none⟩ (pv' 2)).setCell ⟨bt, 5, none⟩ (pv' 3)) bt C' O' P' vc' vo' pv' ∧
    w.grownBy ((((((w.setCell ⟨bt, 0, none⟩ vc').setCell ⟨bt, 1, none⟩ vo').setCell ⟨bt, 2, none⟩ (pv' 0)).setCell ⟨bt, 3, none⟩ (pv' 1)).setCell ⟨bt, 4, none⟩ (pv' 2)).setCell ⟨bt, 5, none⟩ (pv' 3)) (some bt) := by
  have hg := grown_trans (grown_trans (grown_trans (grown_trans (grown_trans (grown_cell' w bt 0 vc') (grown_cell' _ bt 1 vo')) (grown_cell' _ bt 2 (pv' 0))) (grown_cell' _ bt 3 (pv' 1))) (grown_cell' _ bt 4 (pv' 2))) (grown_cell' _ bt 5 (pv' 3))
  refine ⟨⟨?_, kept_ne hg h'.cuts (own_ne h'.cuts h.box (by decide)), kept_ne hg h'.owners (own_ne h'.owners h.box (by decide)), fun i hi => kept_ne hg (h'.rows i hi) (own_ne (h'.rows i hi) h.box (by decide))⟩, hg⟩
  have hb := h.box
  simp [World.setCell, Array.getElem?_modify, hb]
theorem PartsSt.frz {w : World} {bt : Nat} {C : List ByteArray} {O : List Int} {P : Nat → Prs} {vc vo : Value} {pv : Nat → Value} (h : PartsSt w bt C O P vc vo pv) : w.frozen? ⟨bt, 0, none⟩ = false ∧ w.frozen? ⟨bt, 1, none⟩ = false ∧ w.frozen? ⟨bt, 2, none⟩ = false ∧ w.frozen? ⟨bt, 3, none⟩ = false ∧ w.frozen? ⟨bt, 4, none⟩ = false ∧ w.frozen? ⟨bt, 5, none⟩ = false := by
  have hb := h.box
  simp [World.frozen?, hb]
set_option maxRecDepth 100000 in
set_option maxHeartbeats 4000000 in
theorem pturn_ok' {w : World} {bt : Nat} {C : List ByteArray} {O : List Int} {S : Prs} {vc vo : Value} {pv : Nat → Value} (h : PartsSt w bt C O (parP C O S) vc vo pv) (hm : MapOk C O) (hS : StoreOk S) (hl : S.length ≤ 440000) (vm : Value) (C' : List ByteArray) (O' : List Int) (hm' : IsMap w vm C' O') (ok' : MapOk C' O') (hk' : ∀ k ∈ C', k.size ≤ 9223372036854775807) :
    Calls Tryz.prog 61 #[.pointer (some ⟨bt, 0, none⟩), vm] w fun e w' => e = .returned (.tuple #[.int .i64 (movedN C C' O O' S : Nat), .int .i64 0]) ∧ (∃ vc' vo' pv', PartsSt w' bt C' O' (parP C' O' S) vc' vo' pv' ∧ ∀ k, vo'.ownBlock = some k → w.heap.size ≤ k) ∧ w.grownBy w' (some bt) := by
  obtain ⟨a1, k1, a2, k2, rfl, m1, m2⟩ := hm'.unpack
  have xb := heap_alloc_new w (.cells #[.slice a1 C'.length k1, .slice a2 O'.length k2] 33)
  have E0 := (Ext.refl w).alloc (.cells #[.slice a1 C'.length k1, .slice a2 O'.length k2] 33)
  have x := blk2 xb
  have few := ok'.few
  have hlO : O'.length < 1000000000 := by have := ok'.len; omega
  have hbt := h.lt
  have MC := hid (mcheck_any (.agg #[.slice a1 C'.length k1, .slice a2 O'.length k2]) C' O' _ (hm'.ext E0) hk')
  have e0 := hid (mapErr_ok ok')
  have hm0 := hm'.ext E0
  have h0 := hid (h.ext E0)
  clear m1 m2 hm' h
  go_enter Tryz.func61, Tryz.ntmps61
  go_wp2_with fail
  refine (MC.out).mono ?_
  rw [e0.out]
  rintro e w1 ⟨rfl, E1⟩
  have E02 := hid (E0.trans E1)
  have x' := blk2 (E1.heap xb)
  have hm2 := hid (hm0.ext E1)
  have xb2 := hid (E1.heap xb)
  have h1 := hid (h0.out.ext E1)
  clear xb x E0 hm0 MC E1 h0
  go_wp2_with fail
  refine (copied_any _ C' O' _ hm2.out (by omega) (by omega)).mono ?_
  rintro e w3 ⟨v3, rfl, hO3, E3⟩
  obtain ⟨vc', vo', rfl, o1, o2⟩ := hO3
  have HNO := hid (fun k (hk : vo'.ownBlock = some k) => Nat.le_trans E02.out.size' (own_ge o2 k hk))
  have E4 := (Ext.refl w3).alloc (.cells #[vc', vo', .slice none 0 0, .slice none 0 0, .slice none 0 0, .slice none 0 0] 157)
  have P0 := parts_empty (P := fun _ => []) (heap_alloc_new w3 _) (own_ext o1 E4) (own_ext o2 E4)
  rw [← gone_nil C' O'] at P0
  have P0 := hid P0
  have hm4 := hid (hm2.out.ext E3)
  have xb4 := hid (E3.heap xb2.out)
  have E04 := hid (E02.out.trans (E3.trans E4))
  have E34 := hid E4
  have h4 := h1.out.ext (E3.trans E4)
  have h3 := hid (h1.out.ext E3)
  have hwn : w.heap.size ≤ w3.heap.size := (E02.out.trans E3).size'
  obtain ⟨bn, hbe⟩ : ∃ bn, w3.heap.size = bn := ⟨_, rfl⟩
  rw [hbe] at P0 hwn
  have hb3 : w3.heap.size ≤ bn := by omega
  have hbn : bt < bn := by omega
  obtain ⟨a3, k3, rfl⟩ := own_form o1
  obtain ⟨a4, k4, rfl⟩ := own_form o2
  obtain ⟨y2, y3, y4, y5⟩ := h4.cell4
  clear o1 o2 E3 E4 E02 hm2 xb2 x' h1 h4
  obtain ⟨wN, hwN⟩ : ∃ wN, w3.alloc (.cells #[.slice a3 C'.length k3, .slice a4 O'.length k4, .slice none 0 0, .slice none 0 0, .slice none 0 0, .slice none 0 0] 157) = wN := ⟨_, rfl⟩
  rw [hwN] at P0 E04 E34 y2 y3 y4 y5
  obtain ⟨xs, hxs⟩ : ∃ xs : Array Value, #[pv 0, pv 1, pv 2, pv 3] = xs := ⟨_, rfl⟩
  have HAT := hid (fun (i : Nat) (hi : i < 4) => (by
    rw [← hxs]
    have : i = 0 ∨ i = 1 ∨ i = 2 ∨ i = 3 := by omega
    rcases this with rfl | rfl | rfl | rfl <;> rfl : xs[i]? = some (pv i)))
  have hpr := hid (fun i => all_pr (C := C) (O := O) hS (i := i))
  have hln := hid (fun i => all_len C O S i)
  have hpl := hid (fun i => par_len C O S i)
  have hpo := hid (fun i => par_ok hS C O i)
  go_wp2_with fail
  clear y2 y3 y4 y5
  go_loopw [7, 9, 10, 12, 13, 27, 33] (fun nv _ _ _ _ iv _ wr => ∃ (i : Nat) (pv' : Nat → Value), i ≤ 4 ∧ iv = .int .i64 i ∧ nv = .int .i64 (movedN C C' O O' (allP (parP C O S) i) : Nat) ∧ PartsSt wr bn C' O' (gone' C' O' (allP (parP C O S) i)) (.slice a3 C'.length k3) (.slice a4 O'.length k4) pv' ∧ Ext w3 wr ∧ Ext w wr) (fun _ _ _ _ _ iv _ _ => 4 - (intOf iv).toNat)
  case atStart => exact ⟨0, _, by omega, rfl, rfl, P0.out, E34.out, E04.out⟩
  case round =>
    clear P0 E34 E04
    obtain ⟨wo, rfl⟩ : ∃ wo : World, wo = wr := ⟨_, rfl⟩
    obtain ⟨i, pv', hi, rfl, rfl, hP, E3o, E⟩ := hrel
    by_cases hi4 : i < 4
    · have hi4' : ((i : Int) < 4) := by omega
      have xi := fun w => idx4 hi4 (HAT.out i hi4) w
      have hrow := own_seg (h3.out.rows i hi4)
      obtain ⟨ai, ci, hpe⟩ := own_form (h3.out.rows i hi4)
      rw [hpe] at hrow xi
      have hmem := hid (fun x (hx : x ∈ parP C O S i) => (par_mem hx).1)
      have hli := hpl.out i
      have hoi := hpo.out i
      have hal : (allP (parP C O S) i).length ≤ 450000 := by
        have h1 := hln.out i
        omega
      have hap := hid (hpr.out i)
      have hst : allP (parP C O S) (i + 1) = allP (parP C O S) i ++ parP C O S i := rfl
      have HST := hid hst
      clear hst hpe
      generalize parP C O S i = L at hrow xi hmem hli hoi HST
      generalize allP (parP C O S) i = A at hP hal hap HST
      have HSI := hid hrow
      have HP := hid hP
      have hAp : ∀ k, ∀ x ∈ A ++ L.take k, keyB x.1 = true ∧ -1000000000 ≤ x.2 ∧ x.2 ≤ 1000000000 := fun k x hx => by
        rcases List.mem_append.1 hx with hx | hx
        · exact hap.out x hx
        · exact ⟨hoi.key x (List.mem_of_mem_take hx), (hoi.val x (List.mem_of_mem_take hx)).2⟩
      have HAP := hid hAp
      clear hrow hP hAp
      go_wp2_with fail
      go_loopw [7, 12, 13, 33] (fun nv _ _ kv wr => ∃ (k : Nat) (pv' : Nat → Value), k ≤ L.length ∧ kv = .int .i64 k ∧ nv = .int .i64 (movedN C C' O O' (A ++ L.take k) : Nat) ∧ PartsSt wr bn C' O' (gone' C' O' (A ++ L.take k)) (.slice a3 C'.length k3) (.slice a4 O'.length k4) pv' ∧ Ext w3 wr ∧ Ext w wr) (fun _ _ _ kv _ => L.length - (intOf kv).toNat)
      case atStart => exact ⟨0, _, Nat.zero_le _, rfl, by rw [List.take_zero, List.append_nil], by rw [List.take_zero, List.append_nil]; exact HP.out, E3o, E⟩
      case round =>
        clear HP E3o E
        obtain ⟨wz, rfl⟩ : ∃ wz : World, wz = wr := ⟨_, rfl⟩
        obtain ⟨k, pv', hk, rfl, rfl, hP, E3z, Ez⟩ := hrel
        by_cases hkl : k < L.length
        · obtain ⟨b, off, rfl, _, m1, m2, hc⟩ := seg_cells HSI.out (by omega)
          unfold maxLen at m2
          have c := seg_pair hc hkl
          have c0 := (E3z.cell c.1)
          have c1 := (E3z.cell c.2)
          have hpairs := HAP.out k
          have hBl : (A ++ L.take k).length ≤ 900000 := by rw [List.length_append, List.length_take]; omega
          have hwi := hmem.out L[k] (List.getElem_mem hkl)
          have hkx := hoi.key L[k] (List.getElem_mem hkl)
          have htk : A ++ L.take (k + 1) = (A ++ L.take k) ++ [L[k]] := by rw [List.append_assoc, List.take_succ_eq_append_getElem hkl]
          have hmv : movedN C C' O O' (A ++ L.take (k + 1)) = movedN C C' O O' (A ++ L.take k) + (if whose C' O' L[k].1 = whose C O L[k].1 then 0 else 1) := by rw [htk, moved_app, moved_one]
          rw [hwi] at hmv
          obtain ⟨q, hq4, hqw⟩ : ∃ q : Nat, q < 4 ∧ whose C' O' L[k].1 = (q : Int) := by
            obtain ⟨g1, g2⟩ := whose_rng ok' L[k].1
            exact ⟨(whose C' O' L[k].1).toNat, by omega, by omega⟩
          have hgs := gone_step C' O' (A ++ L.take k) L[k] hqw
          rw [← htk] at hgs
          rw [hqw] at hmv
          have hmb : movedN C C' O O' (A ++ L.take k) ≤ 1000000 := by
            have h1 := moved_le C C' O O' (A ++ L.take k)
            rw [List.length_append, List.length_take] at h1
            omega
          have HTK := hid htk
          have HMV := hid hmv
          clear hwi htk hmv hc
          generalize htk' : A ++ L.take (k + 1) = B1 at hgs HTK HMV
          generalize A ++ L.take k = B0 at hgs HTK HMV hP hpairs hmb hBl
          generalize L[k] = xx at c0 c1 hkx hqw hgs HTK
          obtain ⟨kx, nx⟩ := xx
          dsimp only at c0 c1 hkx hqw hgs
          have EA := (Ext.refl wz).alloc (.cells #[.string kx, .int .i64 nx] 60)
          have xp := blk2 (heap_alloc_new wz (.cells #[.string kx, .int .i64 nx] 60))
          have xm := blk2 (EA.heap (E3z.heap xb4.out))
          have hPA := hP.ext EA
          have OF := of_any (.agg #[.slice a1 C'.length k1, .slice a2 O'.length k2]) C' O' kx _ ((hm4.out.ext E3z).ext EA) ok'.srt ok'.len (by omega)
          rw [hqw] at OF
          have OF := hid OF
          obtain ⟨hgo, hgl⟩ := gone_ok (C' := C') (O' := O') hpairs q
          have hrw := own_seg (hPA.rows q hq4)
          obtain ⟨ai', ci', hpe⟩ := own_form (hPA.rows q hq4)
          obtain ⟨ce, fe⟩ := hPA.cellI hq4
          rw [hpe] at ce hrw
          have WI := fun w' (E : Ext (wz.alloc (.cells #[.string kx, .int .i64 nx] 60)) w') => with_any (.slice ai' (gone' C' O' B0 q).length ci') (gone' C' O' B0 q) kx nx w' (hrw.ext E) hgo.srt (by omega)
          generalize hgle : (gone' C' O' B0 q).length = gl at ce WI
          have WI := hid WI
          have HPA := hid hPA
          have HGS := hid hgs
          have HMV2 := hid HMV.out
          have HTK2 := hid htk'
          clear hgs hpe hrw hPA hP hgle
          go_wp2_with fail
          refine (OF.out).mono ?_
          rintro e w6 ⟨rfl, E6⟩
          replace ce := E6.cell ce
          have p1 := E6.cell xp.1
          have p2 := E6.cell xp.2.1
          clear OF xm c0 c1 xp
          by_cases hqi : (q : Int) = (i : Int)
          · have hqn : ((q : Int) != (i : Int)) = false := by simp [hqi]
            have hmv1 := HMV2.out
            rw [if_pos hqi, Nat.add_zero] at hmv1
            have HM1 := hid hmv1
            clear hmv1 hqi
            go_wp2_with fail
            refine wp_region_ph [.k (.pointer (some ⟨bn, 0, none⟩)), .k (.int .i64 q), .k (.pointer (some ⟨bn, 0, none⟩)), .k (.int .i64 q), .k (.pointer (some ⟨bn, 0, none⟩)), .k (.pointer (some ⟨bn, 2, none⟩)), .k (.pointer (some ⟨bn, 2 + q, none⟩)), .k (.slice ai' gl ci'), .k (.pointer (some ⟨wz.heap.size, 0, none⟩)), .k (.string kx), .k (.pointer (some ⟨wz.heap.size, 1, none⟩)), .k (.int .i64 nx), .p (fun v w' => w'.ownsRow w6.heap.size 60 2 v (withP (gone' C' O' B0 q) kx nx).length (cP (withP (gone' C' O' B0 q) kx nx))), .k (.pointer (some ⟨bn, 0, none⟩)), .k (.pointer (some ⟨bn, 2, none⟩)), .k (.pointer (some ⟨bn, 2 + q, none⟩))] [] (by kernel_rfl) (by kernel_rfl) (by kernel_rfl) rfl rfl ?hs ?hC ?he
            case hC =>
              intro i hi
              simp at hi
            case hs =>
              refine ⟨?_, ?_, ?_, ?_, ?_, ?_, ?_, ?_, ?_, ?_, ?_, ?_, ?_, ?_, ?_, ?_, trivial⟩
              all_goals (
                intro x w' hE hd
                try simp [PhDeps, at_k, at_p, at_t, at_any, Region.binds] at hd
                try ((with_reducible refine Exists.elim hd ?_); clear hd; intro y hd; obtain ⟨hd, hG⟩ := hd)
                have d0 := hE.cell ce
                have d1 := hE.cell p1
                have d2 := hE.cell p2
                first | simp only [frL, List.length_cons, List.length_nil, List.take_succ_cons, List.take_zero, Nat.reduceAdd, Nat.zero_add, List.setIfInBounds_toArray, List.set_cons_zero, List.set_cons_succ, hd] | simp only [frL, List.length_cons, List.length_nil, List.take_succ_cons, List.take_zero, Nat.reduceAdd, Nat.zero_add, List.setIfInBounds_toArray, List.set_cons_zero, List.set_cons_succ]
                go_wp2_with (first | (go_at_call 68; refine (WI.out _ (E6.trans hE)).mono ?_; rintro e wa ⟨y, rfl, hy, hea⟩))
                all_goals first
                  | ((with_reducible refine phK ?_ ?_); (focus rfl); (repeat (first | (with_reducible assumption) | (with_reducible exact Ext.refl _) | (with_reducible refine Ext.drew ?_) | (with_reducible refine Ext.drewN ?_ _) | (with_reducible refine Ext.alloc ?_ _) | (with_reducible refine Ext.trans ?_ (by with_reducible assumption)))))
                  | (exact phN (own_base hy hE.size') hE hea)
                  | ((with_reducible refine phT rfl hG ?_); (repeat (first | (with_reducible assumption) | (with_reducible exact Ext.refl _) | (with_reducible refine Ext.drew ?_) | (with_reducible refine Ext.drewN ?_ _) | (with_reducible refine Ext.alloc ?_ _) | (with_reducible refine Ext.trans ?_ (by with_reducible assumption)))))
                  | ((with_reducible refine phU hG ?_); (repeat (first | (with_reducible assumption) | (with_reducible exact Ext.refl _) | (with_reducible refine Ext.drew ?_) | (with_reducible refine Ext.drewN ?_ _) | (with_reducible refine Ext.alloc ?_ _) | (with_reducible refine Ext.trans ?_ (by with_reducible assumption)))))
                  | (with_reducible exact phBox hE)
                  | (with_reducible exact phRow hE))
            case he =>
              intro x w7 E7 hd
              simp [PhEnd, at_k, at_p, at_t] at hd
              obtain ⟨e0, e1, e2, e3, e4, e5, e6, e7, e8, e9, e10, e11, ⟨w8, _, g2, hX⟩, e13, e14, e15⟩ := hd
              have oX := own_ext hX g2
              obtain ⟨aX, cX, e12⟩ := own_form oX
              rw [e12] at oX
              have HP7 := HPA.out.ext (E6.trans E7)
              obtain ⟨ce7, fi⟩ := HP7.cellI hq4
              have HPN0 := HP7.set hq4 (own_base oX (Nat.zero_le _))
              rw [HGS.out] at HPN0
              have HPN := hid HPN0
              have F3 := hid (((E3z.trans EA).trans (E6.trans E7)).setCell (p := ⟨bn, 2 + q, none⟩) hb3 (.slice aX (withP (gone' C' O' B0 q) kx nx).length cX))
              have FW := hid (((Ez.trans EA).trans (E6.trans E7)).setCell (p := ⟨bn, 2 + q, none⟩) hwn (.slice aX (withP (gone' C' O' B0 q) kx nx).length cX))
              simp only [frL, List.length_cons, List.length_nil, List.take_succ_cons, List.take_zero, Nat.reduceAdd, Nat.zero_add, List.setIfInBounds_toArray, List.set_cons_zero, List.set_cons_succ, e0, e1, e2, e3, e4, e5, e6, e7, e8, e9, e10, e11, e12, e13, e14, e15, List.length_cons, List.length_nil, List.drop_succ_cons, List.drop_zero]
              clear e0 e1 e2 e3 e4 e5 e6 e7 e8 e9 e10 e11 e12 e13 e14 e15 oX hX g2 HP7 HPA WI HPN0
              go_wp2
              go_roundw
              case rel => exact ⟨k + 1, _, by omega, by go_num, by rw [HTK2.out, HM1.out], by rw [HTK2.out]; exact HPN.out, F3.out, FW.out⟩
              case measure => simp [intOf] <;> omega
          · have hqn : ((q : Int) != (i : Int)) = true := by simp [hqi]
            have hmv1 := HMV2.out
            rw [if_neg hqi] at hmv1
            have HM1 := hid hmv1
            clear hmv1 hqi
            go_wp2_with fail
            refine wp_region_ph [.k (.pointer (some ⟨bn, 0, none⟩)), .k (.int .i64 q), .k (.pointer (some ⟨bn, 0, none⟩)), .k (.int .i64 q), .k (.pointer (some ⟨bn, 0, none⟩)), .k (.pointer (some ⟨bn, 2, none⟩)), .k (.pointer (some ⟨bn, 2 + q, none⟩)), .k (.slice ai' gl ci'), .k (.pointer (some ⟨wz.heap.size, 0, none⟩)), .k (.string kx), .k (.pointer (some ⟨wz.heap.size, 1, none⟩)), .k (.int .i64 nx), .p (fun v w' => w'.ownsRow w6.heap.size 60 2 v (withP (gone' C' O' B0 q) kx nx).length (cP (withP (gone' C' O' B0 q) kx nx))), .k (.pointer (some ⟨bn, 0, none⟩)), .k (.pointer (some ⟨bn, 2, none⟩)), .k (.pointer (some ⟨bn, 2 + q, none⟩))] [] (by kernel_rfl) (by kernel_rfl) (by kernel_rfl) rfl rfl ?hs ?hC ?he
            case hC =>
              intro i hi
              simp at hi
            case hs =>
              refine ⟨?_, ?_, ?_, ?_, ?_, ?_, ?_, ?_, ?_, ?_, ?_, ?_, ?_, ?_, ?_, ?_, trivial⟩
              all_goals (
                intro x w' hE hd
                try simp [PhDeps, at_k, at_p, at_t, at_any, Region.binds] at hd
                try ((with_reducible refine Exists.elim hd ?_); clear hd; intro y hd; obtain ⟨hd, hG⟩ := hd)
                have d0 := hE.cell ce
                have d1 := hE.cell p1
                have d2 := hE.cell p2
                first | simp only [frL, List.length_cons, List.length_nil, List.take_succ_cons, List.take_zero, Nat.reduceAdd, Nat.zero_add, List.setIfInBounds_toArray, List.set_cons_zero, List.set_cons_succ, hd] | simp only [frL, List.length_cons, List.length_nil, List.take_succ_cons, List.take_zero, Nat.reduceAdd, Nat.zero_add, List.setIfInBounds_toArray, List.set_cons_zero, List.set_cons_succ]
                go_wp2_with (first | (go_at_call 68; refine (WI.out _ (E6.trans hE)).mono ?_; rintro e wa ⟨y, rfl, hy, hea⟩))
                all_goals first
                  | ((with_reducible refine phK ?_ ?_); (focus rfl); (repeat (first | (with_reducible assumption) | (with_reducible exact Ext.refl _) | (with_reducible refine Ext.drew ?_) | (with_reducible refine Ext.drewN ?_ _) | (with_reducible refine Ext.alloc ?_ _) | (with_reducible refine Ext.trans ?_ (by with_reducible assumption)))))
                  | (exact phN (own_base hy hE.size') hE hea)
                  | ((with_reducible refine phT rfl hG ?_); (repeat (first | (with_reducible assumption) | (with_reducible exact Ext.refl _) | (with_reducible refine Ext.drew ?_) | (with_reducible refine Ext.drewN ?_ _) | (with_reducible refine Ext.alloc ?_ _) | (with_reducible refine Ext.trans ?_ (by with_reducible assumption)))))
                  | ((with_reducible refine phU hG ?_); (repeat (first | (with_reducible assumption) | (with_reducible exact Ext.refl _) | (with_reducible refine Ext.drew ?_) | (with_reducible refine Ext.drewN ?_ _) | (with_reducible refine Ext.alloc ?_ _) | (with_reducible refine Ext.trans ?_ (by with_reducible assumption)))))
                  | (with_reducible exact phBox hE)
                  | (with_reducible exact phRow hE))
            case he =>
              intro x w7 E7 hd
              simp [PhEnd, at_k, at_p, at_t] at hd
              obtain ⟨e0, e1, e2, e3, e4, e5, e6, e7, e8, e9, e10, e11, ⟨w8, _, g2, hX⟩, e13, e14, e15⟩ := hd
              have oX := own_ext hX g2
              obtain ⟨aX, cX, e12⟩ := own_form oX
              rw [e12] at oX
              have HP7 := HPA.out.ext (E6.trans E7)
              obtain ⟨ce7, fi⟩ := HP7.cellI hq4
              have HPN0 := HP7.set hq4 (own_base oX (Nat.zero_le _))
              rw [HGS.out] at HPN0
              have HPN := hid HPN0
              have F3 := hid (((E3z.trans EA).trans (E6.trans E7)).setCell (p := ⟨bn, 2 + q, none⟩) hb3 (.slice aX (withP (gone' C' O' B0 q) kx nx).length cX))
              have FW := hid (((Ez.trans EA).trans (E6.trans E7)).setCell (p := ⟨bn, 2 + q, none⟩) hwn (.slice aX (withP (gone' C' O' B0 q) kx nx).length cX))
              simp only [frL, List.length_cons, List.length_nil, List.take_succ_cons, List.take_zero, Nat.reduceAdd, Nat.zero_add, List.setIfInBounds_toArray, List.set_cons_zero, List.set_cons_succ, e0, e1, e2, e3, e4, e5, e6, e7, e8, e9, e10, e11, e12, e13, e14, e15, List.length_cons, List.length_nil, List.drop_succ_cons, List.drop_zero]
              clear e0 e1 e2 e3 e4 e5 e6 e7 e8 e9 e10 e11 e12 e13 e14 e15 oX hX g2 HP7 HPA WI HPN0
              go_wp2
              go_roundw
              case rel => exact ⟨k + 1, _, by omega, by go_num, by rw [HTK2.out, HM1.out]; simp, by rw [HTK2.out]; exact HPN.out, F3.out, FW.out⟩
              case measure => simp [intOf] <;> omega
        · obtain rfl : k = L.length := by omega
          rw [List.take_length, ← HST.out] at hP
          simp only [List.take_length, ← HST.out]
          have HP := hid hP
          clear hP
          go_wp2
          go_roundw
          case rel => exact ⟨i + 1, _, by omega, by go_num, rfl, HP.out, E3z, Ez⟩
          case measure => simp [intOf] <;> omega
    · obtain rfl : i = 4 := by omega
      have hmv := moved_all hm C' O' S
      rw [hmv]
      have hP' := hP.congr (P' := parP C' O' S) (fun a _ => turn_store hm hS a)
      have hPo := h3.out.ext E3o
      obtain ⟨y0, y1⟩ := hP'.cell0
      obtain ⟨y2, y3, y4, y5⟩ := hP'.cell4
      obtain ⟨z0, z1⟩ := hPo.cell0
      obtain ⟨z2, z3, z4, z5⟩ := hPo.cell4
      obtain ⟨f0, f1, f2, f3, f4, f5⟩ := hPo.frz
      have hend := parts_store hPo hP'
      obtain ⟨b0, d0, q0⟩ := own_form (hP'.rows 0 (by omega))
      obtain ⟨b1, d1, q1⟩ := own_form (hP'.rows 1 (by omega))
      obtain ⟨b2, d2, q2⟩ := own_form (hP'.rows 2 (by omega))
      obtain ⟨b3, d3, q3⟩ := own_form (hP'.rows 3 (by omega))
      rw [q0] at y2 hend
      rw [q1] at y3 hend
      rw [q2] at y4 hend
      rw [q3] at y5 hend
      have hend := hid hend
      clear q0 q1 q2 q3
      have HG := hid (grown_ext E (some bt))
      clear hP hP' hPo hmv
      go_wp2
      go_ret2
      exact ⟨rT2 rfl rfl, ⟨_, _, _, hend.out.1, HNO.out⟩, grown_trans HG.out hend.out.2⟩
end Go.Proofs.YtnepdfpooobmcaaGreat
