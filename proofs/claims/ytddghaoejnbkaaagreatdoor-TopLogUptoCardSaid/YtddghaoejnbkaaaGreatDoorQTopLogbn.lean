/- Contracts and lemmas for the proof of TopLog; each theorem states its own conditions. -/
import Derived.Test.YtddghaoejnbkaaaGreatDoorQTopLogbm
import Derived.Test.YtddghaoejnbkaaaGreatDoorQTopLogbh
import Derived.Test.YtddghaoejnbkaaaGreatDoorQTopLogbl
import Derived.Test.YtddghaoejnbkaaaGreatDoorQTopLogay
set_option linter.unusedVariables false
set_option linter.unusedSimpArgs false
/- Contracts and lemmas for the proofs of this seat; each theorem states its own conditions. -/
namespace Go.Proofs.YtddghaoejnbkaaaGreatDoor
open Go.RowKit
/-! parts.Turn -/
/-- the parts of a new map, once so many pairs have gone over -/
def gone' (C' : List ByteArray) (O' : List Int) (l : Prs) (a : Nat) : Prs := foldW [] (toP C' O' l a)
theorem gone_step (C' : List ByteArray) (O' : List Int) (l : Prs) (x : ByteArray × Int) {q : Nat} (hq : whose C' O' x.1 = (q : Int)) : (fun a => if a = q then withP (gone' C' O' l q) x.1 x.2 else gone' C' O' l a) = gone' C' O' (l ++ [x]) := by
  funext a
  unfold gone'
  rw [toP_add, hq]
  by_cases e : a = q
  · subst e; rw [if_pos rfl, if_pos rfl, foldW_app, foldW_one]
  · rw [if_neg e, if_neg (by omega)]
theorem gone_ok {C' : List ByteArray} {O' : List Int} {l : Prs} (h : ∀ x ∈ l, keyB x.1 = true ∧ -1000000000 ≤ x.2 ∧ x.2 ≤ 1000000000) (a : Nat) : StoreOk (gone' C' O' l a) ∧ (gone' C' O' l a).length ≤ l.length := by
  obtain ⟨h1, h2, _⟩ := foldW_ok (l := toP C' O' l a) storeOk_nil (fun x hx => h x (List.mem_filter.1 hx).1)
  have h3 : (toP C' O' l a).length ≤ l.length := List.length_filter_le _ _
  have e : ([] : Prs).length = 0 := rfl
  exact ⟨h1, by unfold gone'; omega⟩
theorem gone_nil (C' : List ByteArray) (O' : List Int) : gone' C' O' [] = untilP (fun _ => []) 0 := by
  funext a; unfold gone' untilP; rw [if_neg (by omega)]; rfl
theorem parts_store {w : World} {bt : Nat} {C C' : List ByteArray} {O O' : List Int} {P P' : Nat → Prs} {vc vo vc' vo' : Value} {pv pv' : Nat → Value} {bn : Nat} (h : PartsSt w bt C O P vc vo pv) (h' : PartsSt w bn C' O' P' vc' vo' pv') :
    PartsSt ((((((w.setCell ⟨bt, 0, none⟩ vc').setCell ⟨bt, 1, none⟩ vo').setCell ⟨bt, 2, none⟩ (pv' 0)).setCell ⟨bt, 3, none⟩ (pv' 1)).setCell ⟨bt, 4, none⟩ (pv' 2)).setCell ⟨bt, 5, none⟩ (pv' 3)) bt C' O' P' vc' vo' pv' ∧
    w.grownBy ((((((w.setCell ⟨bt, 0, none⟩ vc').setCell ⟨bt, 1, none⟩ vo').setCell ⟨bt, 2, none⟩ (pv' 0)).setCell ⟨bt, 3, none⟩ (pv' 1)).setCell ⟨bt, 4, none⟩ (pv' 2)).setCell ⟨bt, 5, none⟩ (pv' 3)) (some bt) := by
  have hg := grown_trans (grown_trans (grown_trans (grown_trans (grown_trans (grown_cell' w bt 0 vc') (grown_cell' _ bt 1 vo')) (grown_cell' _ bt 2 (pv' 0))) (grown_cell' _ bt 3 (pv' 1))) (grown_cell' _ bt 4 (pv' 2))) (grown_cell' _ bt 5 (pv' 3))
  refine ⟨⟨?_, kept_ne hg h'.cuts (own_ne h'.cuts h.box (by decide)), kept_ne hg h'.owners (own_ne h'.owners h.box (by decide)), fun i hi => kept_ne hg (h'.rows i hi) (own_ne (h'.rows i hi) h.box (by decide))⟩, hg⟩
  have hb := h.box
  simp [World.setCell, Array.getElem?_modify, hb]
theorem PartsSt.frz {w : World} {bt : Nat} {C : List ByteArray} {O : List Int} {P : Nat → Prs} {vc vo : Value} {pv : Nat → Value} (h : PartsSt w bt C O P vc vo pv) : w.frozen? ⟨bt, 0, none⟩ = false ∧ w.frozen? ⟨bt, 1, none⟩ = false ∧ w.frozen? ⟨bt, 2, none⟩ = false ∧ w.frozen? ⟨bt, 3, none⟩ = false ∧ w.frozen? ⟨bt, 4, none⟩ = false ∧ w.frozen? ⟨bt, 5, none⟩ = false := by
  have hb := h.box
  simp [World.frozen?, hb]
set_option maxRecDepth 100000 in
set_option maxHeartbeats 4000000 in
theorem pturn_ok' {w : World} {bt : Nat} {C : List ByteArray} {O : List Int} {S : Prs} {vc vo : Value} {pv : Nat → Value} (h : PartsSt w bt C O (parP C O S) vc vo pv) (hm : MapOk C O) (hS : StoreOk S) (hl : S.length ≤ 440000) (vm : Value) (C' : List ByteArray) (O' : List Int) (hm' : IsMap w vm C' O') (ok' : MapOk C' O') (hk' : ∀ k ∈ C', k.size ≤ 9223372036854775807) :
    Calls Tryz.prog 81 #[.pointer (some ⟨bt, 0, none⟩), vm] w fun e w' => e = .returned (.tuple #[.int .i64 (movedN C C' O O' S : Nat), .int .i64 0]) ∧ (∃ vc' vo' pv', PartsSt w' bt C' O' (parP C' O' S) vc' vo' pv' ∧ ∀ k, vo'.ownBlock = some k → w.heap.size ≤ k) ∧ w.grownBy w' (some bt) := by
  obtain ⟨a1, k1, a2, k2, rfl, m1, m2⟩ := hm'.unpack
  have xb := heap_alloc_new w (.cells #[.slice a1 C'.length k1, .slice a2 O'.length k2] 34)
  have E0 := (Ext.refl w).alloc (.cells #[.slice a1 C'.length k1, .slice a2 O'.length k2] 34)
  have x := blk2 xb
  have few := ok'.few
  have hlO : O'.length < 1000000000 := by have := ok'.len; omega
  have hbt := h.lt
  have MC := hid (mcheck_any (.agg #[.slice a1 C'.length k1, .slice a2 O'.length k2]) C' O' _ (hm'.ext E0) hk')
  have e0 := hid (mapErr_ok ok')
  have hm0 := hm'.ext E0
  have h0 := hid (h.ext E0)
  clear m1 m2 hm' h
  go_enter Tryz.func81, Tryz.ntmps81
  go_wp2_with fail
  refine (MC.out).mono ?_
  rw [e0.out]
  rintro e w1 ⟨rfl, E1⟩
  have E02 := hid (E0.trans E1)
  have x' := blk2 (E1.heap xb)
  have hm2 := hid (hm0.ext E1)
  have xb2 := hid (E1.heap xb)
  have h1 := hid (h0.out.ext E1)
  clear xb x E0 hm0 MC E1 h0
  go_wp2_with fail
  refine (copied_any _ C' O' _ hm2.out (by omega) (by omega)).mono ?_
  rintro e w3 ⟨v3, rfl, hO3, E3⟩
  obtain ⟨vc', vo', rfl, o1, o2⟩ := hO3
  have HNO := hid (fun k (hk : vo'.ownBlock = some k) => Nat.le_trans E02.out.size' (own_ge o2 k hk))
  have E4 := (Ext.refl w3).alloc (.cells #[vc', vo', .slice none 0 0, .slice none 0 0, .slice none 0 0, .slice none 0 0] 182)
  have P0 := parts_empty (P := fun _ => []) (heap_alloc_new w3 _) (own_ext o1 E4) (own_ext o2 E4)
  rw [← gone_nil C' O'] at P0
  have P0 := hid P0
  have hm4 := hid (hm2.out.ext E3)
  have xb4 := hid (E3.heap xb2.out)
  have E04 := hid (E02.out.trans (E3.trans E4))
  have E34 := hid E4
  have h4 := h1.out.ext (E3.trans E4)
  have h3 := hid (h1.out.ext E3)
  have hwn : w.heap.size ≤ w3.heap.size := (E02.out.trans E3).size'
  obtain ⟨bn, hbe⟩ : ∃ bn, w3.heap.size = bn := ⟨_, rfl⟩
  rw [hbe] at P0 hwn
  have hb3 : w3.heap.size ≤ bn := by omega
  have hbn : bt < bn := by omega
  obtain ⟨a3, k3, rfl⟩ := own_form o1
  obtain ⟨a4, k4, rfl⟩ := own_form o2
  obtain ⟨y2, y3, y4, y5⟩ := h4.cell4
  clear o1 o2 E3 E4 E02 hm2 xb2 x' h1 h4
  obtain ⟨wN, hwN⟩ : ∃ wN, w3.alloc (.cells #[.slice a3 C'.length k3, .slice a4 O'.length k4, .slice none 0 0, .slice none 0 0, .slice none 0 0, .slice none 0 0] 182) = wN := ⟨_, rfl⟩
  rw [hwN] at P0 E04 E34 y2 y3 y4 y5
  obtain ⟨xs, hxs⟩ : ∃ xs : Array Value, #[pv 0, pv 1, pv 2, pv 3] = xs := ⟨_, rfl⟩
  have HAT := hid (fun (i : Nat) (hi : i < 4) => (by
    rw [← hxs]
    have : i = 0 ∨ i = 1 ∨ i = 2 ∨ i = 3 := by omega
    rcases this with rfl | rfl | rfl | rfl <;> rfl : xs[i]? = some (pv i)))
  have hpr := hid (fun i => all_pr (C := C) (O := O) hS (i := i))
  have hln := hid (fun i => all_len C O S i)
  have hpl := hid (fun i => par_len C O S i)
  have hpo := hid (fun i => par_ok hS C O i)
  go_wp2_with fail
  clear y2 y3 y4 y5
  go_loopw [7, 9, 10, 12, 13, 27, 33] (fun nv _ _ _ _ iv _ wr => ∃ (i : Nat) (pv' : Nat → Value), i ≤ 4 ∧ iv = .int .i64 i ∧ nv = .int .i64 (movedN C C' O O' (allP (parP C O S) i) : Nat) ∧ PartsSt wr bn C' O' (gone' C' O' (allP (parP C O S) i)) (.slice a3 C'.length k3) (.slice a4 O'.length k4) pv' ∧ Ext w3 wr ∧ Ext w wr) (fun _ _ _ _ _ iv _ _ => 4 - (intOf iv).toNat)
  case atStart => exact ⟨0, _, by omega, rfl, rfl, P0.out, E34.out, E04.out⟩
  case round =>
    clear P0 E34 E04
    obtain ⟨wo, rfl⟩ : ∃ wo : World, wo = wr := ⟨_, rfl⟩
    obtain ⟨i, pv', hi, rfl, rfl, hP, E3o, E⟩ := hrel
    by_cases hi4 : i < 4
    · have hi4' : ((i : Int) < 4) := by omega
      have xi := fun w => idx4 hi4 (HAT.out i hi4) w
      have hrow := own_seg (h3.out.rows i hi4)
      obtain ⟨ai, ci, hpe⟩ := own_form (h3.out.rows i hi4)
      rw [hpe] at hrow xi
      have hmem := hid (fun x (hx : x ∈ parP C O S i) => (par_mem hx).1)
      have hli := hpl.out i
      have hoi := hpo.out i
      have hal : (allP (parP C O S) i).length ≤ 450000 := by
        have h1 := hln.out i
        omega
      have hap := hid (hpr.out i)
      have hst : allP (parP C O S) (i + 1) = allP (parP C O S) i ++ parP C O S i := rfl
      have HST := hid hst
      clear hst hpe
      generalize parP C O S i = L at hrow xi hmem hli hoi HST
      generalize allP (parP C O S) i = A at hP hal hap HST
      have HSI := hid hrow
      have HP := hid hP
      have hAp : ∀ k, ∀ x ∈ A ++ L.take k, keyB x.1 = true ∧ -1000000000 ≤ x.2 ∧ x.2 ≤ 1000000000 := fun k x hx => by
        rcases List.mem_append.1 hx with hx | hx
        · exact hap.out x hx
        · exact ⟨hoi.key x (List.mem_of_mem_take hx), (hoi.val x (List.mem_of_mem_take hx)).2⟩
      have HAP := hid hAp
      clear hrow hP hAp
      go_wp2_with fail
      go_loopw [7, 12, 13, 33] (fun nv _ _ kv wr => ∃ (k : Nat) (pv' : Nat → Value), k ≤ L.length ∧ kv = .int .i64 k ∧ nv = .int .i64 (movedN C C' O O' (A ++ L.take k) : Nat) ∧ PartsSt wr bn C' O' (gone' C' O' (A ++ L.take k)) (.slice a3 C'.length k3) (.slice a4 O'.length k4) pv' ∧ Ext w3 wr ∧ Ext w wr) (fun _ _ _ kv _ => L.length - (intOf kv).toNat)
      case atStart => exact ⟨0, _, Nat.zero_le _, rfl, by rw [List.take_zero, List.append_nil], by rw [List.take_zero, List.append_nil]; exact HP.out, E3o, E⟩
      case round =>
        clear HP E3o E
        obtain ⟨wz, rfl⟩ : ∃ wz : World, wz = wr := ⟨_, rfl⟩
        obtain ⟨k, pv', hk, rfl, rfl, hP, E3z, Ez⟩ := hrel
        by_cases hkl : k < L.length
        · obtain ⟨b, off, rfl, _, m1, m2, hc⟩ := seg_cells HSI.out (by omega)
          unfold maxLen at m2
          have c := seg_pair hc hkl
          have c0 := (E3z.cell c.1)
          have c1 := (E3z.cell c.2)
          have hpairs := HAP.out k
          have hBl : (A ++ L.take k).length ≤ 900000 := by rw [List.length_append, List.length_take]; omega
          have hwi := hmem.out L[k] (List.getElem_mem hkl)
          have hkx := hoi.key L[k] (List.getElem_mem hkl)
          have htk : A ++ L.take (k + 1) = (A ++ L.take k) ++ [L[k]] := by rw [List.append_assoc, List.take_succ_eq_append_getElem hkl]
          have hmv : movedN C C' O O' (A ++ L.take (k + 1)) = movedN C C' O O' (A ++ L.take k) + (if whose C' O' L[k].1 = whose C O L[k].1 then 0 else 1) := by rw [htk, moved_app, moved_one]
          rw [hwi] at hmv
          obtain ⟨q, hq4, hqw⟩ : ∃ q : Nat, q < 4 ∧ whose C' O' L[k].1 = (q : Int) := by
            obtain ⟨g1, g2⟩ := whose_rng ok' L[k].1
            exact ⟨(whose C' O' L[k].1).toNat, by omega, by omega⟩
          have hgs := gone_step C' O' (A ++ L.take k) L[k] hqw
          rw [← htk] at hgs
          rw [hqw] at hmv
          have hmb : movedN C C' O O' (A ++ L.take k) ≤ 1000000 := by
            have h1 := moved_le C C' O O' (A ++ L.take k)
            rw [List.length_append, List.length_take] at h1
            omega
          have HTK := hid htk
          have HMV := hid hmv
          clear hwi htk hmv hc
          generalize htk' : A ++ L.take (k + 1) = B1 at hgs HTK HMV
          generalize A ++ L.take k = B0 at hgs HTK HMV hP hpairs hmb hBl
          generalize L[k] = xx at c0 c1 hkx hqw hgs HTK
          obtain ⟨kx, nx⟩ := xx
          dsimp only at c0 c1 hkx hqw hgs
          have EA := (Ext.refl wz).alloc (.cells #[.string kx, .int .i64 nx] 62)
          have xp := blk2 (heap_alloc_new wz (.cells #[.string kx, .int .i64 nx] 62))
          have xm := blk2 (EA.heap (E3z.heap xb4.out))
          have hPA := hP.ext EA
          have OF := of_any (.agg #[.slice a1 C'.length k1, .slice a2 O'.length k2]) C' O' kx _ ((hm4.out.ext E3z).ext EA) ok'.srt ok'.len (by omega)
          rw [hqw] at OF
          have OF := hid OF
          obtain ⟨hgo, hgl⟩ := gone_ok (C' := C') (O' := O') hpairs q
          have hrw := own_seg (hPA.rows q hq4)
          obtain ⟨ai', ci', hpe⟩ := own_form (hPA.rows q hq4)
          obtain ⟨ce, fe⟩ := hPA.cellI hq4
          rw [hpe] at ce hrw
          have WI := fun w' (E : Ext (wz.alloc (.cells #[.string kx, .int .i64 nx] 62)) w') => with_any (.slice ai' (gone' C' O' B0 q).length ci') (gone' C' O' B0 q) kx nx w' (hrw.ext E) hgo.srt (by omega)
          generalize hgle : (gone' C' O' B0 q).length = gl at ce WI
          have WI := hid WI
          have HPA := hid hPA
          have HGS := hid hgs
          have HMV2 := hid HMV.out
          have HTK2 := hid htk'
          clear hgs hpe hrw hPA hP hgle
          go_wp2_with fail
          refine (OF.out).mono ?_
          rintro e w6 ⟨rfl, E6⟩
          replace ce := E6.cell ce
          have p1 := E6.cell xp.1
          have p2 := E6.cell xp.2.1
          clear OF xm c0 c1 xp
          by_cases hqi : (q : Int) = (i : Int)
          · have hqn : ((q : Int) != (i : Int)) = false := by simp [hqi]
            have hmv1 := HMV2.out
            rw [if_pos hqi, Nat.add_zero] at hmv1
            have HM1 := hid hmv1
            clear hmv1 hqi
            go_wp2_with fail
            refine wp_region_ph [.k (.pointer (some ⟨bn, 0, none⟩)), .k (.int .i64 q), .k (.pointer (some ⟨bn, 0, none⟩)), .k (.int .i64 q), .k (.pointer (some ⟨bn, 0, none⟩)), .k (.pointer (some ⟨bn, 2, none⟩)), .k (.pointer (some ⟨bn, 2 + q, none⟩)), .k (.slice ai' gl ci'), .k (.pointer (some ⟨wz.heap.size, 0, none⟩)), .k (.string kx), .k (.pointer (some ⟨wz.heap.size, 1, none⟩)), .k (.int .i64 nx), .p (fun v w' => w'.ownsRow w6.heap.size 62 2 v (withP (gone' C' O' B0 q) kx nx).length (cP (withP (gone' C' O' B0 q) kx nx))), .k (.pointer (some ⟨bn, 0, none⟩)), .k (.pointer (some ⟨bn, 2, none⟩)), .k (.pointer (some ⟨bn, 2 + q, none⟩))] [] (by kernel_rfl) (by kernel_rfl) (by kernel_rfl) rfl rfl ?hs ?hC ?he
            case hC =>
              intro i hi
              simp at hi
            case hs =>
              refine ⟨?_, ?_, ?_, ?_, ?_, ?_, ?_, ?_, ?_, ?_, ?_, ?_, ?_, ?_, ?_, ?_, trivial⟩
              all_goals (
                intro x w' hE hd
                try simp [PhDeps, at_k, at_p, at_t, at_any, Region.binds] at hd
                try ((with_reducible refine Exists.elim hd ?_); clear hd; intro y hd; obtain ⟨hd, hG⟩ := hd)
                have d0 := hE.cell ce
                have d1 := hE.cell p1
                have d2 := hE.cell p2
                first | simp only [frL, List.length_cons, List.length_nil, List.take_succ_cons, List.take_zero, Nat.reduceAdd, Nat.zero_add, List.setIfInBounds_toArray, List.set_cons_zero, List.set_cons_succ, hd] | simp only [frL, List.length_cons, List.length_nil, List.take_succ_cons, List.take_zero, Nat.reduceAdd, Nat.zero_add, List.setIfInBounds_toArray, List.set_cons_zero, List.set_cons_succ]
                go_wp2_with (first | (go_at_call 133; refine (WI.out _ (E6.trans hE)).mono ?_; rintro e wa ⟨y, rfl, hy, hea⟩))
                all_goals first
                  | ((with_reducible refine phK ?_ ?_); (focus rfl); (repeat (first | (with_reducible assumption) | (with_reducible exact Ext.refl _) | (with_reducible refine Ext.drew ?_) | (with_reducible refine Ext.drewN ?_ _) | (with_reducible refine Ext.alloc ?_ _) | (with_reducible refine Ext.trans ?_ (by with_reducible assumption)))))
                  | (exact phN (own_base hy hE.size') hE hea)
                  | ((with_reducible refine phT rfl hG ?_); (repeat (first | (with_reducible assumption) | (with_reducible exact Ext.refl _) | (with_reducible refine Ext.drew ?_) | (with_reducible refine Ext.drewN ?_ _) | (with_reducible refine Ext.alloc ?_ _) | (with_reducible refine Ext.trans ?_ (by with_reducible assumption)))))
                  | ((with_reducible refine phU hG ?_); (repeat (first | (with_reducible assumption) | (with_reducible exact Ext.refl _) | (with_reducible refine Ext.drew ?_) | (with_reducible refine Ext.drewN ?_ _) | (with_reducible refine Ext.alloc ?_ _) | (with_reducible refine Ext.trans ?_ (by with_reducible assumption)))))
                  | (with_reducible exact phBox hE)
                  | (with_reducible exact phRow hE))
            case he =>
              intro x w7 E7 hd
              simp [PhEnd, at_k, at_p, at_t] at hd
              obtain ⟨e0, e1, e2, e3, e4, e5, e6, e7, e8, e9, e10, e11, ⟨w8, _, g2, hX⟩, e13, e14, e15⟩ := hd
              have oX := own_ext hX g2
              obtain ⟨aX, cX, e12⟩ := own_form oX
              rw [e12] at oX
              have HP7 := HPA.out.ext (E6.trans E7)
              obtain ⟨ce7, fi⟩ := HP7.cellI hq4
              have HPN0 := HP7.set hq4 (own_base oX (Nat.zero_le _))
              rw [HGS.out] at HPN0
              have HPN := hid HPN0
              have F3 := hid (((E3z.trans EA).trans (E6.trans E7)).setCell (p := ⟨bn, 2 + q, none⟩) hb3 (.slice aX (withP (gone' C' O' B0 q) kx nx).length cX))
              have FW := hid (((Ez.trans EA).trans (E6.trans E7)).setCell (p := ⟨bn, 2 + q, none⟩) hwn (.slice aX (withP (gone' C' O' B0 q) kx nx).length cX))
              simp only [frL, List.length_cons, List.length_nil, List.take_succ_cons, List.take_zero, Nat.reduceAdd, Nat.zero_add, List.setIfInBounds_toArray, List.set_cons_zero, List.set_cons_succ, e0, e1, e2, e3, e4, e5, e6, e7, e8, e9, e10, e11, e12, e13, e14, e15, List.length_cons, List.length_nil, List.drop_succ_cons, List.drop_zero]
              clear e0 e1 e2 e3 e4 e5 e6 e7 e8 e9 e10 e11 e12 e13 e14 e15 oX hX g2 HP7 HPA WI HPN0
              go_wp2
              go_roundw
              case rel => exact ⟨k + 1, _, by omega, by go_num, by rw [HTK2.out, HM1.out], by rw [HTK2.out]; exact HPN.out, F3.out, FW.out⟩
              case measure => simp [intOf] <;> omega
          · have hqn : ((q : Int) != (i : Int)) = true := by simp [hqi]
            have hmv1 := HMV2.out
            rw [if_neg hqi] at hmv1
            have HM1 := hid hmv1
            clear hmv1 hqi
            go_wp2_with fail
            refine wp_region_ph [.k (.pointer (some ⟨bn, 0, none⟩)), .k (.int .i64 q), .k (.pointer (some ⟨bn, 0, none⟩)), .k (.int .i64 q), .k (.pointer (some ⟨bn, 0, none⟩)), .k (.pointer (some ⟨bn, 2, none⟩)), .k (.pointer (some ⟨bn, 2 + q, none⟩)), .k (.slice ai' gl ci'), .k (.pointer (some ⟨wz.heap.size, 0, none⟩)), .k (.string kx), .k (.pointer (some ⟨wz.heap.size, 1, none⟩)), .k (.int .i64 nx), .p (fun v w' => w'.ownsRow w6.heap.size 62 2 v (withP (gone' C' O' B0 q) kx nx).length (cP (withP (gone' C' O' B0 q) kx nx))), .k (.pointer (some ⟨bn, 0, none⟩)), .k (.pointer (some ⟨bn, 2, none⟩)), .k (.pointer (some ⟨bn, 2 + q, none⟩))] [] (by kernel_rfl) (by kernel_rfl) (by kernel_rfl) rfl rfl ?hs ?hC ?he
            case hC =>
              intro i hi
              simp at hi
            case hs =>
              refine ⟨?_, ?_, ?_, ?_, ?_, ?_, ?_, ?_, ?_, ?_, ?_, ?_, ?_, ?_, ?_, ?_, trivial⟩
              all_goals (
                intro x w' hE hd
                try simp [PhDeps, at_k, at_p, at_t, at_any, Region.binds] at hd
                try ((with_reducible refine Exists.elim hd ?_); clear hd; intro y hd; obtain ⟨hd, hG⟩ := hd)
                have d0 := hE.cell ce
                have d1 := hE.cell p1
                have d2 := hE.cell p2
                first | simp only [frL, List.length_cons, List.length_nil, List.take_succ_cons, List.take_zero, Nat.reduceAdd, Nat.zero_add, List.setIfInBounds_toArray, List.set_cons_zero, List.set_cons_succ, hd] | simp only [frL, List.length_cons, List.length_nil, List.take_succ_cons, List.take_zero, Nat.reduceAdd, Nat.zero_add, List.setIfInBounds_toArray, List.set_cons_zero, List.set_cons_succ]
                go_wp2_with (first | (go_at_call 133; refine (WI.out _ (E6.trans hE)).mono ?_; rintro e wa ⟨y, rfl, hy, hea⟩))
                all_goals first
                  | ((with_reducible refine phK ?_ ?_); (focus rfl); (repeat (first | (with_reducible assumption) | (with_reducible exact Ext.refl _) | (with_reducible refine Ext.drew ?_) | (with_reducible refine Ext.drewN ?_ _) | (with_reducible refine Ext.alloc ?_ _) | (with_reducible refine Ext.trans ?_ (by with_reducible assumption)))))
                  | (exact phN (own_base hy hE.size') hE hea)
                  | ((with_reducible refine phT rfl hG ?_); (repeat (first | (with_reducible assumption) | (with_reducible exact Ext.refl _) | (with_reducible refine Ext.drew ?_) | (with_reducible refine Ext.drewN ?_ _) | (with_reducible refine Ext.alloc ?_ _) | (with_reducible refine Ext.trans ?_ (by with_reducible assumption)))))
                  | ((with_reducible refine phU hG ?_); (repeat (first | (with_reducible assumption) | (with_reducible exact Ext.refl _) | (with_reducible refine Ext.drew ?_) | (with_reducible refine Ext.drewN ?_ _) | (with_reducible refine Ext.alloc ?_ _) | (with_reducible refine Ext.trans ?_ (by with_reducible assumption)))))
                  | (with_reducible exact phBox hE)
                  | (with_reducible exact phRow hE))
            case he =>
              intro x w7 E7 hd
              simp [PhEnd, at_k, at_p, at_t] at hd
              obtain ⟨e0, e1, e2, e3, e4, e5, e6, e7, e8, e9, e10, e11, ⟨w8, _, g2, hX⟩, e13, e14, e15⟩ := hd
              have oX := own_ext hX g2
              obtain ⟨aX, cX, e12⟩ := own_form oX
              rw [e12] at oX
              have HP7 := HPA.out.ext (E6.trans E7)
              obtain ⟨ce7, fi⟩ := HP7.cellI hq4
              have HPN0 := HP7.set hq4 (own_base oX (Nat.zero_le _))
              rw [HGS.out] at HPN0
              have HPN := hid HPN0
              have F3 := hid (((E3z.trans EA).trans (E6.trans E7)).setCell (p := ⟨bn, 2 + q, none⟩) hb3 (.slice aX (withP (gone' C' O' B0 q) kx nx).length cX))
              have FW := hid (((Ez.trans EA).trans (E6.trans E7)).setCell (p := ⟨bn, 2 + q, none⟩) hwn (.slice aX (withP (gone' C' O' B0 q) kx nx).length cX))
              simp only [frL, List.length_cons, List.length_nil, List.take_succ_cons, List.take_zero, Nat.reduceAdd, Nat.zero_add, List.setIfInBounds_toArray, List.set_cons_zero, List.set_cons_succ, e0, e1, e2, e3, e4, e5, e6, e7, e8, e9, e10, e11, e12, e13, e14, e15, List.length_cons, List.length_nil, List.drop_succ_cons, List.drop_zero]
              clear e0 e1 e2 e3 e4 e5 e6 e7 e8 e9 e10 e11 e12 e13 e14 e15 oX hX g2 HP7 HPA WI HPN0
              go_wp2
              go_roundw
              case rel => exact ⟨k + 1, _, by omega, by go_num, by rw [HTK2.out, HM1.out]; simp, by rw [HTK2.out]; exact HPN.out, F3.out, FW.out⟩
              case measure => simp [intOf] <;> omega
        · obtain rfl : k = L.length := by omega
          rw [List.take_length, ← HST.out] at hP
          simp only [List.take_length, ← HST.out]
          have HP := hid hP
          clear hP
          go_wp2
          go_roundw
          case rel => exact ⟨i + 1, _, by omega, by go_num, rfl, HP.out, E3z, Ez⟩
          case measure => simp [intOf] <;> omega
    · obtain rfl : i = 4 := by omega
      have hmv := moved_all hm C' O' S
      rw [hmv]
      have hP' := hP.congr (P' := parP C' O' S) (fun a _ => turn_store hm hS a)
      have hPo := h3.out.ext E3o
      obtain ⟨y0, y1⟩ := hP'.cell0
      obtain ⟨y2, y3, y4, y5⟩ := hP'.cell4
      obtain ⟨z0, z1⟩ := hPo.cell0
      obtain ⟨z2, z3, z4, z5⟩ := hPo.cell4
      obtain ⟨f0, f1, f2, f3, f4, f5⟩ := hPo.frz
      have hend := parts_store hPo hP'
      obtain ⟨b0, d0, q0⟩ := own_form (hP'.rows 0 (by omega))
      obtain ⟨b1, d1, q1⟩ := own_form (hP'.rows 1 (by omega))
      obtain ⟨b2, d2, q2⟩ := own_form (hP'.rows 2 (by omega))
      obtain ⟨b3, d3, q3⟩ := own_form (hP'.rows 3 (by omega))
      rw [q0] at y2 hend
      rw [q1] at y3 hend
      rw [q2] at y4 hend
      rw [q3] at y5 hend
      have hend := hid hend
      clear q0 q1 q2 q3
      have HG := hid (grown_ext E (some bt))
      clear hP hP' hPo hmv
      go_wp2
      go_ret2
      exact ⟨rT2 rfl rfl, ⟨_, _, _, hend.out.1, HNO.out⟩, grown_trans HG.out hend.out.2⟩
end Go.Proofs.YtddghaoejnbkaaaGreatDoor

/- Contracts and lemmas for the proofs of this seat; each theorem states its own conditions. -/
namespace Go.Proofs.YtddghaoejnbkaaaGreatDoor
open Go.RowKit
/-! copies, in plain lists and in memory -/
structure Cop where
  C : List ByteArray
  O : List Int
  S : Prs
  dn : Nat
  ok : List Bool
/-- an entry, done -/
def doE (c : Cop) (x : Ent) : Cop := if x.im = true then ⟨x.cuts, x.own, c.S, c.dn + 1, c.ok ++ [true]⟩ else ⟨c.C, c.O, runS c.S x.ops, c.dn + 1, c.ok ++ [runB c.S x.ops]⟩
def okE (c : Cop) (x : Ent) : Bool := if x.im = true then true else runB c.S x.ops
structure CopOk (N : Nat) (c : Cop) : Prop where
  map : MapOk c.C c.O
  sm : ∀ k ∈ c.C, k.size ≤ 9223372036854775807
  sto : StoreOk c.S
  len : c.S.length ≤ N + 32 * c.dn
  okl : c.ok.length = c.dn
theorem CopOk.do {N : Nat} {c : Cop} (h : CopOk N c) {x : Ent} (hx : EntOk x) : CopOk N (doE c x) := by
  unfold doE
  have he := hx.ok
  unfold entE at he
  by_cases q : x.im = true
  · rw [if_pos q] at he ⊢
    exact ⟨ok_of_mapErr he, hx.sz.cuts, h.sto, by have := h.len; simp only; omega, by simp [h.okl]⟩
  · rw [if_neg q] at he ⊢
    have dok := deed_ok he
    obtain ⟨r1, _, _⟩ := run_val h.sto dok.ops
    refine ⟨h.map, h.sm, r1, ?_, by simp [h.okl]⟩
    have h1 := run_len c.S x.ops
    have h2 := dok.hi
    have := h.len
    simp only; omega
theorem far_own {w w' : World} {g : Nat} {cs : Array Value} {t : TypeId} {fr : Nat × Nat} (hb : w.heap[g]? = some (.cells cs t fr)) (hg : w.grownBy w' (some g)) {B e sz n : Nat} {v : Value} {xs : List Value} (ho : w.ownsRow B e sz v n xs) (hne : e ≠ t ∨ g < B) : w'.ownsRow B e sz v n xs := by
  refine grown_own hg ho (.inr ?_)
  rcases hne with h | h
  · exact own_ne ho hb h
  · intro e; have := own_ge ho g e; omega
theorem far_ne {w : World} {g k : Nat} {cs cs' : Array Value} {t t' : TypeId} {fr fr' : Nat × Nat} (hb : w.heap[g]? = some (.cells cs t fr)) (hk : w.heap[k]? = some (.cells cs' t' fr')) (h : t ≠ t') : (some g : Option Nat) ≠ some k := fun e => by
  injection e with e; subst e; rw [hb] at hk; injection hk with hk; injection hk with _ hk; exact h hk
/-- a merge, when a block turns that is none of its own -/
theorem MergeG.far {eB : Nat} {w w' : World} {S : Nat → Prop} {bm bc bo : Nat} {vc vo : Nat → Value} {cl : List (List Bat)} {op : List Bat} (h : MergeG eB w S bm bc bo vc vo cl op) {g : Nat} {cs : Array Value} {t : TypeId} {fr : Nat × Nat} (hb : w.heap[g]? = some (.cells cs t fr))
    (ht : t ∉ mTy ∧ 125 ≠ t ∧ 9 ≠ t) (hi : 3 ≠ t ∨ g < eB) (hg : w.grownBy w' (some g)) : MergeG eB w' S bm bc bo vc vo cl op := by
  have hm : ∀ e, e ∈ mTy → e ≠ t := fun e he q => ht.1 (q ▸ he)
  have ent : ∀ {e : EV} {x : Ent}, EntSt eB w e x → EntSt eB w' e x := fun q => ⟨far_own hb hg q.ops (.inl ht.2.1), q.im, far_own hb hg q.cuts (.inl ht.2.2), far_own hb hg q.own hi⟩
  have bat : ∀ {u : Value} {b : Bat}, BatSt eB w S u b → BatSt eB w' S u b := by
    rintro u b ⟨es, a, k, i⟩
    exact ⟨es, ⟨a.1, fun j e x p q => ent (a.2 j e x p q)⟩, far_own hb hg k (.inl (hm _ (by decide))), i⟩
  refine ⟨h.n0, h.n4, h.ln, ?_, h.sm, h.sc, h.so, grown_heap hg h.box (far_ne hb h.box (fun e => hm _ (by decide) e.symm)), grown_heap hg h.crow (far_ne hb h.crow (fun e => hm _ (by decide) e.symm)), grown_heap hg h.orow (far_ne hb h.orow (fun e => hm _ (by decide) e.symm)), ?_, fun i hi => bat (h.opn i hi), h.clz, h.cbo, h.opz, Nat.le_trans h.bs hg.size⟩
  · intro k hk
    obtain ⟨cs', e, hc, hx⟩ := h.ty k hk
    exact ⟨cs', e, grown_heap hg hc (far_ne hb hc (fun q => hm _ hx q.symm)), hx⟩
  · intro i hi'
    obtain ⟨us, a1, a2, a3, a4⟩ := h.cls i hi'
    exact ⟨us, a1, far_own hb hg a2 (.inl (hm _ (by decide))), a3, fun j u b p q => ⟨bat (a4 j u b p q).1, (a4 j u b p q).2⟩⟩
theorem MergeSt.far {eB : Nat} {w w' : World} {S : Nat → Prop} {bm : Nat} {cl : List (List Bat)} {op : List Bat} (h : MergeSt eB w S bm cl op) {g : Nat} {cs : Array Value} {t : TypeId} {fr : Nat × Nat} (hb : w.heap[g]? = some (.cells cs t fr))
    (ht : t ∉ mTy ∧ 125 ≠ t ∧ 9 ≠ t) (hi : 3 ≠ t ∨ g < eB) (hg : w.grownBy w' (some g)) : MergeSt eB w' S bm cl op := by
  obtain ⟨bc, bo, vc, vo, h⟩ := h
  exact ⟨bc, bo, vc, vo, h.far hb ht hi hg⟩
/-- a merge in which nothing is, under any base -/
theorem MergeSt.rebase {w : World} {S : Nat → Prop} {bm n e0 : Nat} (h : MergeSt e0 w S bm (List.replicate n []) (List.replicate n [])) {eB : Nat} (hB : eB ≤ w.heap.size) : MergeSt eB w S bm (List.replicate n []) (List.replicate n []) := by
  obtain ⟨bc, bo, vc, vo, h⟩ := h
  refine ⟨bc, bo, vc, vo, h.n0, h.n4, h.ln, h.ty, h.sm, h.sc, h.so, h.box, h.crow, h.orow, fun i hi => ?_, fun i hi => ?_, h.clz, h.cbo, h.opz, hB⟩
  · obtain ⟨us, a1, a2, a3, a4⟩ := h.cls i hi
    refine ⟨us, a1, a2, a3, fun j u b p q => ?_⟩
    rw [getD_repl] at q; simp at q
  · obtain ⟨es, a1, a2, a3⟩ := h.opn i hi
    refine ⟨es, ⟨a1.1, fun j e x p q => ?_⟩, a2, a3⟩
    rw [getD_repl'] at q; simp at q
theorem PartsSt.far {w w' : World} {bt : Nat} {C : List ByteArray} {O : List Int} {P : Nat → Prs} {vc vo : Value} {pv : Nat → Value} (h : PartsSt w bt C O P vc vo pv) {g : Nat} {cs : Array Value} {t : TypeId} {fr : Nat × Nat} (hb : w.heap[g]? = some (.cells cs t fr)) (hne : g ≠ bt) (h1 : 9 ≠ t) (h2 : 62 ≠ t) (h3 : 3 ≠ t ∨ vo.ownBlock ≠ some g) (hg : w.grownBy w' (some g)) : PartsSt w' bt C O P vc vo pv := by
  refine ⟨grown_heap hg h.box (fun e => by injection e with e; exact hne e), far_own hb hg h.cuts (.inl h1), ?_, fun i hi => far_own hb hg (h.rows i hi) (.inl h2)⟩
  rcases h3 with e | e
  · exact far_own hb hg h.owners (.inl e)
  · exact grown_own hg h.owners (.inr e)
/-- the types of what copies turn -/
def cTy : List Nat := mTy ++ [50, 105, 3, 83, 4, 182]
theorem op_cTy : 125 ∉ cTy ∧ 9 ∉ cTy ∧ 62 ∉ cTy ∧ 40 ∉ cTy := by decide
/-- where copies lie -/
structure CopA where
  bm : Nat
  bd : Nat
  bo : Nat
  lv : Value
  vo : Nat → Value
  bt : Nat → Nat
  vc : Nat → Value
  vs : Nat → Value
  pv : Nat → Nat → Value
  S : Nat → Prop
  eB : Nat
  Z : Nat → Prop
def copZ : Cop := ⟨[], [], [], 0, []⟩
def ptrsC (A : CopA) (n : Nat) : List Value := rowV n fun i => .pointer (some ⟨A.bt i, 0, none⟩)
def dnsC (K : List Cop) : List Value := rowV K.length fun i => .int .i64 ((K.getD i copZ).dn : Nat)
structure CopG0 (w : World) (F : Nat → Prop) (b : Nat) (A : CopA) (cl : List (List Bat)) (op : List Bat) (K : List Cop) : Prop where
  k0 : 0 < K.length
  k4 : K.length ≤ 4
  box : w.heap[b]? = some (.cells #[.pointer (some ⟨A.bm, 0, none⟩), A.lv, .slice (some ⟨A.bd, 0, none⟩) K.length K.length, .slice (some ⟨A.bo, 0, none⟩) K.length K.length] 50 (0, 0))
  mer : MergeSt A.eB w A.S A.bm cl op
  lrow : w.ownsRow 0 105 1 A.lv K.length (ptrsC A K.length)
  drow : w.heap[A.bd]? = some (.cells (dnsC K).toArray 3 (0, 0))
  orow : w.heap[A.bo]? = some (.cells (rowV K.length A.vo).toArray 83 (0, 0))
  parts : ∀ i, i < K.length → PartsSt w (A.bt i) (K.getD i copZ).C (K.getD i copZ).O (parP (K.getD i copZ).C (K.getD i copZ).O (K.getD i copZ).S) (A.vc i) (A.vs i) (A.pv i)
  oks : ∀ i, i < K.length → w.ownsRow 0 4 1 (A.vo i) (K.getD i copZ).ok.length ((K.getD i copZ).ok.map Value.bool)
  far : ∀ i, i < K.length → ∀ k, (A.vs i).ownBlock = some k → ¬ A.Z k
  okz : ∀ i j, i < K.length → j < K.length → i ≠ j → Apart (A.vo i) (A.vo j)
  btz : ∀ i j, i < K.length → j < K.length → i ≠ j → A.bt i ≠ A.bt j
  zd : A.Z A.bd
  zb : ∀ k, A.Z k → k < w.heap.size
  zl : A.bd < A.eB
  fi : ∀ k cs fr, F k → w.heap[k]? = some (.cells cs 3 fr) → k = A.bd
  ty : TyS w F cTy
  fb : F b
  fd : F A.bd
  fo : F A.bo
  fl : InS F A.lv
  ft : ∀ i, i < K.length → F (A.bt i)
  fv : ∀ i, i < K.length → InS F (A.vo i)
theorem CopG0.ext {w w' : World} {F : Nat → Prop} {b : Nat} {A : CopA} {cl : List (List Bat)} {op : List Bat} {K : List Cop} (h : CopG0 w F b A cl op K) (E : Ext w w') : CopG0 w' F b A cl op K :=
  { h with box := E.heap h.box, mer := h.mer.ext E, lrow := own_ext h.lrow E, drow := E.heap h.drow, orow := E.heap h.orow, parts := fun i hi => (h.parts i hi).ext E, oks := fun i hi => own_ext (h.oks i hi) E, ty := h.ty.ext E, zb := fun k hk => Nat.lt_of_lt_of_le (h.zb k hk) E.size', fi := fun k cs fr hk hc => h.fi k cs fr hk (by
    obtain ⟨cs', e, hc', _⟩ := h.ty k hk
    rw [E.heap hc'] at hc
    injection hc with hc; injection hc with h1 h2 h3
    subst h1; subst h2; subst h3; exact hc') }
/-- copies whose merge turns with them -/
structure CopG (w : World) (F : Nat → Prop) (b : Nat) (A : CopA) (cl : List (List Bat)) (op : List Bat) (K : List Cop) : Prop extends CopG0 w F b A cl op K where
  fS : ∀ k, A.S k → F k
theorem CopG.ext {w w' : World} {F : Nat → Prop} {b : Nat} {A : CopA} {cl : List (List Bat)} {op : List Bat} {K : List Cop} (h : CopG w F b A cl op K) (E : Ext w w') : CopG w' F b A cl op K := ⟨h.toCopG0.ext E, h.fS⟩
theorem CopG0.lt {w : World} {F : Nat → Prop} {b : Nat} {A : CopA} {cl : List (List Bat)} {op : List Bat} {K : List Cop} (h : CopG0 w F b A cl op K) : A.bd < A.eB := h.zl
theorem CopG0.farD {w : World} {F : Nat → Prop} {b : Nat} {A : CopA} {cl : List (List Bat)} {op : List Bat} {K : List Cop} (h : CopG0 w F b A cl op K) {i : Nat} (hi : i < K.length) : (A.vs i).ownBlock ≠ some A.bd := fun e => h.far i hi _ e h.zd
/-- copies, wherever they lie -/
def CopSt (w : World) (F : Nat → Prop) (b : Nat) (cl : List (List Bat)) (op : List Bat) (K : List Cop) : Prop := ∃ A, CopG w F b A cl op K
theorem CopSt.ext {w w' : World} {F : Nat → Prop} {b : Nat} {cl : List (List Bat)} {op : List Bat} {K : List Cop} (h : CopSt w F b cl op K) (E : Ext w w') : CopSt w' F b cl op K := by
  obtain ⟨A, h⟩ := h
  exact ⟨A, h.ext E⟩
theorem CopG0.cells {w : World} {F : Nat → Prop} {b : Nat} {A : CopA} {cl : List (List Bat)} {op : List Bat} {K : List Cop} (h : CopG0 w F b A cl op K) :
    w.cell? ⟨b, 0, none⟩ = some (.pointer (some ⟨A.bm, 0, none⟩)) ∧ w.cell? ⟨b, 1, none⟩ = some A.lv ∧ w.cell? ⟨b, 2, none⟩ = some (.slice (some ⟨A.bd, 0, none⟩) K.length K.length) ∧ w.cell? ⟨b, 3, none⟩ = some (.slice (some ⟨A.bo, 0, none⟩) K.length K.length) := by
  have hb := h.box
  simp [World.cell?, hb]
theorem CopG0.cellD {w : World} {F : Nat → Prop} {b : Nat} {A : CopA} {cl : List (List Bat)} {op : List Bat} {K : List Cop} (h : CopG0 w F b A cl op K) {i : Nat} (hi : i < K.length) :
    w.cell? ⟨A.bd, i, none⟩ = some (.int .i64 ((K.getD i copZ).dn : Nat)) ∧ w.frozen? ⟨A.bd, i, none⟩ = false := by
  have hb := h.drow
  refine ⟨cells_of hb i _ (rowV_at _ hi), ?_⟩
  simp [World.frozen?, hb]
theorem CopG0.cellO {w : World} {F : Nat → Prop} {b : Nat} {A : CopA} {cl : List (List Bat)} {op : List Bat} {K : List Cop} (h : CopG0 w F b A cl op K) {i : Nat} (hi : i < K.length) :
    w.cell? ⟨A.bo, i, none⟩ = some (A.vo i) ∧ w.frozen? ⟨A.bo, i, none⟩ = false := by
  have hb := h.orow
  refine ⟨cells_of hb i _ (rowV_at _ hi), ?_⟩
  simp [World.frozen?, hb]
theorem CopG0.lform {w : World} {F : Nat → Prop} {b : Nat} {A : CopA} {cl : List (List Bat)} {op : List Bat} {K : List Cop} (h : CopG0 w F b A cl op K) : ∃ g c, A.lv = .slice (some ⟨g, 0, none⟩) K.length c ∧ K.length ≤ c ∧ c ≤ maxLen ∧ F g ∧ ∃ cur, w.heap[g]? = some (.cells cur 105 (0, 0)) := by
  rcases h.lrow.2 with ⟨_, e⟩ | ⟨g, c, cur, e, _, h1, h2, h3, _⟩
  · have := h.k0; omega
  · exact ⟨g, c, e, h2, h3, h.fl g (by rw [e]; rfl), cur, h1⟩
theorem CopG0.cellL {w : World} {F : Nat → Prop} {b : Nat} {A : CopA} {cl : List (List Bat)} {op : List Bat} {K : List Cop} (h : CopG0 w F b A cl op K) {g c : Nat} (e : A.lv = .slice (some ⟨g, 0, none⟩) K.length c) {i : Nat} (hi : i < K.length) :
    w.cell? ⟨g, i, none⟩ = some (.pointer (some ⟨A.bt i, 0, none⟩)) ∧ w.frozen? ⟨g, i, none⟩ = false := by
  rcases h.lrow.2 with ⟨_, q⟩ | ⟨g', c', cur, e', _, h1, h2, h3, h4, h5⟩
  · have := h.k0; omega
  · rw [e] at e'
    injection e' with e1 _ _; injection e1 with e1; injection e1 with e1; subst e1
    refine ⟨cells_of h1 i _ ?_, by simp [World.frozen?, h1]⟩
    have q := rowV_at (fun i => Value.pointer (some ⟨A.bt i, 0, none⟩)) hi
    have q2 : (ptrsC A K.length)[i]? = some (.pointer (some ⟨A.bt i, 0, none⟩)) := q
    rw [← h5, List.getElem?_take_of_lt (by omega)] at q2
    exact q2
end Go.Proofs.YtddghaoejnbkaaaGreatDoor
