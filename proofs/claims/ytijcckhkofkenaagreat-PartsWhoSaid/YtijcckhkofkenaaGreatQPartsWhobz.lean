/- Contracts and lemmas for the proof of PartsWho; each theorem states its own conditions. -/
import Derived.Test.YtijcckhkofkenaaGreatQPartsWhobk
import Derived.Test.YtijcckhkofkenaaGreatQPartsWhobq
import Derived.Test.YtijcckhkofkenaaGreatQPartsWhoby
set_option linter.unusedVariables false
set_option linter.unusedSimpArgs false
/- Contracts and lemmas for the proofs of this seat; each theorem states its own conditions. -/
namespace Go.Proofs.YtijcckhkofkenaaGreat
open Go.RowKit Go.Maps
/-! rokeep.Pairs, with what it holds -/
/-- what Pairs' map holds after k numbers -/
def pF (l : List Int) : Nat → ByteArray → Option Int
  | 0 => fun _ => none
  | k + 1 => fun x => if x = keyOf k then some (wi (l.getD k 0) 41 - 20) else pF l k x
theorem pF_step (l : List Int) {k : Nat} (h : k < l.length) : pF l (k + 1) = fun x => if x = keyOf k then some (wi l[k] 41 - 20) else pF l k x := by
  rw [pF, show l.getD k 0 = l[k] by simp [h]]
theorem pF_ok (l : List Int) : ∀ k, PF (pF l k)
  | 0 => pf_none
  | k + 1 => pf_put (pF_ok l k) (keyOf_is k).1 (by have := wi_lo (k := l.getD k 0) (n := 41) (by omega); omega) (by have := wi_hi (k := l.getD k 0) (n := 41) (by omega); omega)
def PRel2 (w : World) (l : List Int) (k : Nat) (wr : World) : Prop :=
  ∃ (D : DU), wr.ownsMap Tryz.prog 9 (plainElem Tryz.prog 3) w.heap.size k D ∧ MapF kS okS dI D (pF l k) ∧ Ext w wr
theorem prel2_put {w w3 : World} {l : List Int} {k : Nat} {D : DU} {key : ByteArray} {c : Int} (hF : MapF kS okS dI D (pF l k)) (hst : pF l (k + 1) = fun x => if x = key then some c else pF l k x) (hk : keyB key = true) (h1 : -20 ≤ c) (h2 : c ≤ 20)
    (hown : w3.ownsMap Tryz.prog 9 (plainElem Tryz.prog 3) w.heap.size (k + 1) (D.put (kS key) (dI c))) (E : Ext w w3) : PRel2 w l (k + 1) w3 :=
  ⟨_, hown, by rw [hst]; exact hF.put kS_inj kS_is (by have := keyB_size hk; unfold okS maxLen; omega) c, E⟩
set_option maxRecDepth 10000 in
set_option maxHeartbeats 1000000 in
theorem pairs_fn (v : Value) (l : List Int) (w : World) (hv : Seg w v 1 l.length (cI l)) (hb : ∀ z ∈ l, -9223372036854775808 ≤ z ∧ z ≤ 9223372036854775807) :
    Calls Tryz.prog 47 #[v] w fun e w' => ∃ v' P, e = .returned v' ∧ StoreOk P ∧ P.length ≤ 30 ∧ (∀ x, valP P x = (pF l (min l.length 30) x).getD 0) ∧ w'.ownsRow w.heap.size 33 2 v' P.length (cP P) ∧ Ext w w' := by
  obtain ⟨h0, a, cap, rfl, h1, h2, h3⟩ := hv
  unfold maxLen at h2
  have hmm := @run_makeMap Tryz.prog
  have b0 := World.ownsMap_made w Tryz.prog 9 (plainElem (H := Unit) Tryz.prog 3)
  have E0 := (Ext.refl w).alloc (.map #[] 0)
  go_enter Tryz.func47, Tryz.ntmps47
  obtain ⟨N, hN, hN1, hN2, hNN0⟩ : ∃ N : Nat, min (l.length : Int) 30 = (N : Int) ∧ N ≤ l.length ∧ N ≤ 30 ∧ N = min l.length 30 := ⟨min l.length 30, by omega, by omega, by omega, rfl⟩
  have hNN := hid hNN0
  clear hNN0
  have hN3 : ((N : Int)).toNat = N := by omega
  have hN4 : max (N : Int) 0 = (N : Int) := by omega
  go_wp2
  try simp only [hN, hN3, hN4]
  clear hN hN3 hN4
  go_loopw [4, 5, 13] (fun _ _ i wr => ∃ k : Nat, k ≤ N ∧ i = .int .i64 k ∧ PRel2 w l k wr) (fun _ _ i _ => N - (intOf i).toNat)
  case atStart => exact ⟨0, Nat.zero_le _, rfl, _, b0, MapF.empty, E0⟩
  case round =>
    clear b0 E0 hmm
    obtain ⟨k, hk, rfl, D, hown, hF, E⟩ := hrel
    by_cases hlt : k < N
    · obtain ⟨b, off, rfl, hc⟩ := h3 (by omega)
      have c0 := E.cell (hc k _ (cI_at0 l k (by omega)))
      clear hc h3
      have ka := keyOf_is k
      have g1 := wi_lo (k := l[k]) (n := 41) (by omega)
      have g2 := wi_hi (k := l[k]) (n := 41) (by omega)
      go_wp2_with fail
      refine (kKey_any _ _).mono ?_
      rintro e w1 ⟨rfl, E1⟩
      go_wp2_with fail
      refine (within_any _ _ _ (by omega) (by omega)).mono ?_
      rintro e w2 ⟨rfl, rfl⟩
      have hst := pF_step l (show k < l.length by omega)
      generalize keyOf k = key at ka hst ⊢
      generalize wi l[k] 41 = q at g1 g2 hst ⊢
      have HST := hid hst
      clear hst
      have hown1 := ownsMap_ext hown E1
      have hwf : (Lit.int .i64 (q - 20)).wf = true := WalkArith.wf_i64 (by omega)
      have hkey := WideMaps.keyOf_string_mk Tryz.underlying9 (P := Tryz.prog) (k := 9) (s := key) (by have := keyB_size ka.1; unfold maxLen; omega)
      go_wp2_with (first
        | (at_mapUpdate; refine wpList_mapUpdate_own _ rfl _ _ _ 131 rfl 9 3 lawS Tryz.underlying131 _ w.heap.size k D rfl hown1 (by unfold maxLen; omega) _ _ (kS key) rfl rfl hkey (dI (q - 20)) [] (plainElem_int Tryz.underlying3 hwf) ?_; intro w3 hown3 hg3))
      go_roundw
      case rel => exact ⟨k + 1, by omega, by go_num, prel2_put hF HST.out ka.1 (by omega) (by omega) hown3 ((E.trans E1).grown hg3 (fun j hj => by injection hj with hj; omega))⟩
      case measure => simp [intOf]; omega
    · go_wp2_with fail
      refine (rlist_any w.heap.size k D (pF l k) _ hown hF (by omega)).mono ?_
      rintro e w2 ⟨v', P, rfl, r1, r2, r3, r4, r5, E2⟩
      go_wp2
      go_ret
      exact ⟨_, P, rfl, pf_store (pF_ok l k) r1 r2 r3, by omega, fun x => by rw [r3 x, show k = min l.length 30 by have := hNN.out; omega], own_base r5 E.size', E.trans E2⟩
end Go.Proofs.YtijcckhkofkenaaGreat

/- Contracts and lemmas for the proofs of this seat; each theorem states its own conditions. -/
namespace Go.Proofs.YtijcckhkofkenaaGreat
open Go.RowKit
theorem deed_cell' {w : World} {B B' : Nat} {us : List Value} {D : List Ops} {aD : Option Addr} {cD : Nat} (hds : OwnDs w B us D) (ho : w.ownsRow B' 29 1 (.slice aD D.length cD) D.length us) {k : Nat} (hk : k < D.length) :
    ∃ b x y, aD = some ⟨b, 0, none⟩ ∧ w.cell? ⟨b, k, none⟩ = some (.slice x D[k].length y) ∧ w.ownsRow B 37 4 (.slice x D[k].length y) D[k].length (cO D[k]) ∧ D.length ≤ cD ∧ cD ≤ maxLen := by
  obtain ⟨b, x, y, e, c, s, h1, h2⟩ := deed_cell hds ho hk
  subst e
  refine ⟨b, x, y, rfl, c, ?_, h1, h2⟩
  have hlu : k < us.length := by rw [hds.len]; exact hk
  have o := hds.own k us[k] D[k] (List.getElem?_eq_getElem hlu) (List.getElem?_eq_getElem hk)
  obtain ⟨_, _, e, _, _, _, hc⟩ := seg_cells (own_seg ho) (by omega)
  injection e with e; injection e with e1 e2
  subst e1; subst e2
  have c' := hc k us[k] (List.getElem?_eq_getElem hlu)
  rw [Nat.zero_add] at c'
  have : us[k] = .slice x D[k].length y := Option.some.inj (c'.symm.trans c)
  rwa [this] at o
theorem pf_same {l : List Int} {n : Nat} {P Q : Prs} (hP : StoreOk P) (hQ : StoreOk Q) (h1 : ∀ x, valP P x = (pF l n x).getD 0) (h2 : ∀ x, valP Q x = (pF l n x).getD 0) : Q = P := store_ext hQ hP fun x => by rw [h1, h2]
set_option maxRecDepth 100000 in
set_option maxHeartbeats 8000000 in
theorem pmid_walk (v v1 v2 vd : Value) (la lb l2 : List Int) (ls : List (List Int)) (at_ : Int) (w : World) (hv : Seg w v 1 la.length (cI la)) (hb : ∀ z ∈ la, -9223372036854775808 ≤ z ∧ z ≤ 9223372036854775807)
    (hv1 : Seg w v1 1 lb.length (cI lb)) (hb1 : ∀ z ∈ lb, -9223372036854775808 ≤ z ∧ z ≤ 9223372036854775807)
    (hv2 : Seg w v2 1 l2.length (cI l2)) (hb2 : ∀ z ∈ l2, -9223372036854775808 ≤ z ∧ z ≤ 9223372036854775807) (hvd : SegLL w vd ls) :
    Calls Tryz.prog 6 #[v, v1, v2, vd, .int .i64 at_] w fun e w' => e = .returned (.bool true) ∧ Ext w w' := by
  have HV1 := hid hv1
  go_enter Tryz.func6, Tryz.ntmps6
  go_wp2_with fail
  refine (partsBegun_any _).mono ?_
  rintro e w1 ⟨rfl, E⟩
  replace hv := hv.ext E
  replace hv1 := hv1.ext E
  replace hv2 := hv2.ext E
  replace hvd := hvd.ext E
  go_wp2_with fail
  refine (kMap_any _ la _ hv hb).mono ?_
  rintro e w2 ⟨vm, rfl, om, E1⟩
  have hm := om.is
  have mok := mk_ok la
  have msm := mk_small la
  generalize mkC la 6 = C at hm mok msm
  generalize mkO la 6 = O at hm mok
  obtain ⟨am, km, ao, ko, rfl, _, _⟩ := hm.unpack
  replace hv1 := hv1.ext E1
  replace hv2 := hv2.ext E1
  replace hvd := hvd.ext E1
  replace E := E.trans E1
  clear om E1 hv
  go_wp2_with fail
  refine (pairs_fn _ l2 _ hv2 hb2).mono ?_
  rintro e w3 ⟨vs, S, rfl, oS, lS, fS, hS, E1⟩
  replace hm := hm.ext E1
  replace hv1 := hv1.ext E1
  replace hv2 := hv2.ext E1
  replace hvd := hvd.ext E1
  replace E := E.trans E1
  have FS := hid fS
  clear E1 fS
  obtain ⟨a0, c0, rfl⟩ := own_form hS
  have NP := hid (pnew_ok (.agg #[.slice am C.length km, .slice ao O.length ko]) (.slice a0 S.length c0) C O S w3 hm mok msm (own_seg hS) oS (by omega))
  clear hS hm
  go_wp2_with fail
  refine (NP.out).mono ?_
  rintro e w4 ⟨bp, vc, vo, pv, rfl, hbp, hP, E4⟩
  have hwp : w.heap.size ≤ bp := by have := E.size'; omega
  replace hv1 := hv1.ext E4
  replace hv2 := hv2.ext E4
  replace hvd := hvd.ext E4
  replace E := E.trans E4
  have HP := hid hP
  clear NP E4 hP
  go_wp2_with fail
  refine (kMap_any _ lb _ hv1 hb1).mono ?_
  rintro e w5 ⟨vm', rfl, om, E1⟩
  have hm := om.is
  have mok' := mk_ok lb
  have msm' := mk_small lb
  have HKM := hid (fun w' (E : Ext w w') => kMap_any v1 lb w' (HV1.out.ext E) hb1)
  generalize mkC lb 6 = C' at hm mok' msm' HKM
  generalize mkO lb 6 = O' at hm mok' HKM
  obtain ⟨am', km', ao', ko', rfl, _, _⟩ := hm.unpack
  replace hv2 := hv2.ext E1
  replace hvd := hvd.ext E1
  replace E := E.trans E1
  have HP1 := hid (HP.out.ext E1)
  clear om E1 hv1 HP
  go_wp2_with fail
  refine (pairs_fn _ l2 _ hv2 hb2).mono ?_
  rintro e w6 ⟨vs', S', rfl, oS', lS', fS', hS', E1⟩
  obtain rfl := pf_same oS oS' FS.out fS'
  replace hm := hm.ext E1
  replace hvd := hvd.ext E1
  replace E := E.trans E1
  have HP2 := hid (HP1.out.ext E1)
  obtain ⟨a0', c0', rfl⟩ := own_form hS'
  have NQ := hid (pnew_ok (.agg #[.slice am' C'.length km', .slice ao' O'.length ko']) (.slice a0' S'.length c0') C' O' S' w6 hm mok' msm' (own_seg hS') oS' (by omega))
  clear E1 hv2 HP1 fS' FS hS' hm
  go_wp2_with fail
  refine (NQ.out).mono ?_
  rintro e w7 ⟨bq, vc', vo', pv', rfl, hbq, hQ, E7⟩
  have hpq : bp < bq := by have := HP2.out.lt; omega
  have hq7 := hQ.lt
  replace hvd := hvd.ext E7
  replace E := E.trans E7
  have HP3 := hid (HP2.out.ext E7)
  have HQ3 := hid hQ
  clear NQ E7 hQ HP2
  go_wp2_with fail
  refine (deeds_any _ ls 12 _ hvd (by omega)).mono ?_
  rintro e w8 ⟨vD, us, D, rfl, hout, hds, hdg, hdl, E8⟩
  obtain ⟨aD, cD, rfl⟩ := own_form hout
  have hul := hds.len
  rw [hul] at hout
  simp only [hul]
  have HDS := hid hds
  have HO := hid hout
  have HP4 := hid (HP3.out.ext E8)
  have HQ4 := hid (HQ3.out.ext E8)
  have dok : ∀ d ∈ D, DeedOk d := fun d h => (hdg d h).ok
  have dsm : ∀ d ∈ D, ∀ o ∈ d, o.from_.size ≤ 9223372036854775807 := fun d h => (hdg d h).sm
  have HE := hid (E.trans E8)
  have hsz7 : ∃ B, w7.heap.size = B := ⟨_, rfl⟩
  obtain ⟨B, hB⟩ := hsz7
  rw [hB] at HDS HO hq7
  have WI := hid (fun w => within_any at_ ((D.length : Int) + 1) w (by omega) (by omega))
  generalize wi at_ ((D.length : Int) + 1) = z at WI
  clear hul hds hout hvd hdg E8 HP3 HQ3 E hB
  go_wp2_with fail
  refine (WI.out _).mono ?_
  rintro e w' ⟨rfl, rfl⟩
  clear WI
  go_wp2_with fail
  go_loopw [16, 17, 18, 19, 20, 21, 22, 23, 57] (fun _ _ _ _ _ _ _ _ iv wr => ∃ (k : Nat) (X : Prs) (Cc : List ByteArray) (Oc : List Int) (vcc voc : Value) (pv pv' : Nat → Value), k ≤ D.length ∧ iv = .int .i64 k ∧ StoreOk X ∧ X.length ≤ 30 + 16 * k ∧ MapOk Cc Oc ∧ PartsSt wr bp Cc Oc (parP Cc Oc X) vcc voc pv ∧ PartsSt wr bq C' O' (parP C' O' X) vc' vo' pv' ∧ OwnDs wr B us D ∧ wr.ownsRow B 29 1 (.slice aD D.length cD) D.length us ∧ Ext w wr) (fun _ _ _ _ _ _ _ _ iv _ => D.length - (intOf iv).toNat)
  case atStart => exact ⟨0, S', C, O, vc, vo, pv, pv', Nat.zero_le _, rfl, oS', by omega, mok, HP4.out, HQ4.out, HDS.out, HO.out, HE.out⟩
  case round =>
    clear HP4 HQ4 HDS HO HE
    obtain ⟨wo, rfl⟩ : ∃ wo : World, wo = wr := ⟨_, rfl⟩
    obtain ⟨k, X, Cc, Oc, vcc, voc, pv, pv', hk, rfl, oX, lX, okc, hP, hQ, hds, ho, E⟩ := hrel
    by_cases hkD : k < D.length
    · obtain ⟨bD, x1, y1, rfl, c1, s1, m1, m2⟩ := deed_cell' hds ho hkD
      unfold maxLen at m2
      have d1 := dok _ (List.getElem_mem hkD)
      have f1 := dsm _ (List.getElem_mem hkD)
      generalize D[k] = p at c1 s1 d1 f1
      have hp8 := d1.hi
      have bz := heap_alloc_new wo (.cells #[.slice x1 p.length y1] 29)
      have z1 := cell_of_one bz
      have E8 := (Ext.refl wo).alloc (.cells #[.slice x1 p.length y1] 29)
      have hbpo := hP.lt
      have hbqo := hQ.lt
      have KM := hid (HKM.out _ (E.trans E8))
      have A1 := hid (hP.ext E8)
      have A2 := hid (hQ.ext E8)
      have A3 := hid (hds.ext E8)
      have A4 := hid (own_ext ho E8)
      have A5 := hid (E.trans E8)
      have A6 := hid (own_ext s1 E8)
      have AB := hid bz
      obtain ⟨g0, hg0⟩ : ∃ g0, wo.heap.size = g0 := ⟨_, rfl⟩
      rw [hg0] at AB z1 hbpo hbqo
      clear hP hQ hds ho E s1 bz
      obtain ⟨wA, hwA⟩ : ∃ wA, wo.alloc (.cells #[.slice x1 p.length y1] 29) = wA := ⟨_, rfl⟩
      rw [hwA] at KM A1 A2 A3 A4 A5 A6 AB z1
      cases hkz : ((k : Int) == z) with
      | true =>
        go_wp2_with fail
        refine (KM.out).mono ?_
        rintro e w9 ⟨vm9, rfl, om9, E9⟩
        have hm9 := om9.is
        obtain ⟨am9, km9, ao9, ko9, rfl, _, _⟩ := hm9.unpack
        have TN := hid (pturn_ok (A1.out.ext E9) okc oX (by omega) _ C' O' hm9 mok' msm')
        clear KM om9 hm9
        go_wp2_with fail
        refine (TN.out).mono ?_
        rintro e w10 ⟨rfl, ⟨vcn, von, pvn, hPn⟩, G⟩
        have B1 := hid hPn
        have B2 := hid ((A2.out.ext E9).beside G (A1.out.ext E9).box (by omega))
        have B3 := hid ((A3.out.ext E9).keptB G (by omega))
        have B4 := hid (own_keptB (own_ext A4.out E9) G (by omega))
        have B5 := hid (ext_keptB (A5.out.trans E9) G hwp)
        have B6 := hid (own_keptB (own_ext A6.out E9) G (by omega))
        have B7 := hid (grown_heap G (E9.heap AB.out) (fun e => by injection e with e; omega))
        have okn := mok'
        clear A1 A2 A3 A4 A5 A6 AB TN z1 E9 G hPn
        have z1 := cell_of_one (B7.out)
        have DP := hid (pdo_ok B1.out okn oX (by omega) (.slice x1 p.length y1) p (own_seg B6.out) d1 f1)
        have oY := (run_val oX d1.ops).1
        have lY := run_len X p
        have DQ0 := fun w' pvq (hQ : PartsSt w' bq C' O' (parP C' O' X) vc' vo' pvq) (hd : w'.ownsRow B 37 4 (.slice x1 p.length y1) p.length (cO p)) => pdo_ok hQ mok' oX (by omega) (.slice x1 p.length y1) p (own_seg hd) d1 f1
        generalize runS X p = Y at DP oY lY DQ0
        generalize runB X p = ok at DP DQ0
        have DQ := hid DQ0
        clear DQ0
        go_wp2_with fail
        refine (DP.out).mono ?_
        rintro e w11 ⟨rfl, ⟨pva, hPa⟩, G1⟩
        have D1 := hid hPa
        have D2 := B2.out.beside G1 B1.out.box (by omega)
        have D3 := hid (B3.out.keptB G1 (by omega))
        have D4 := hid (own_keptB B4.out G1 (by omega))
        have D5 := hid (ext_keptB B5.out G1 hwp)
        have D6 := own_keptB B6.out G1 (by omega)
        have D7 := hid (grown_heap G1 (B7.out) (fun e => by injection e with e; omega))
        have z2 := cell_of_one D7.out
        have DQ2 := hid (DQ.out w11 _ D2 D6)
        have D2 := hid D2
        clear DP DQ z1 hPa G1 D6
        go_wp2_with fail
        refine (DQ2.out).mono ?_
        rintro e w12 ⟨rfl, ⟨pvb, hQb⟩, G2⟩
        have F1 := D1.out.beside G2 D2.out.box (by omega)
        have F3 := hid (D3.out.keptB G2 (by omega))
        have F4 := hid (own_keptB D4.out G2 (by omega))
        have F5 := hid (ext_keptB D5.out G2 (by omega))
        have AP := hid (pall_ok F1 okn oY (by omega))
        have AQ := hid (fun w' (E : Ext w12 w') => pall_ok (hQb.ext E) mok' oY (by omega))
        have F1 := hid F1
        have F2 := hid hQb
        clear DQ2 z2 hQb G2 D1 D2 D3 D4 D5 D7
        go_wp2_with fail
        refine (AP.out).mono ?_
        rintro e w13 ⟨v13, rfl, o13, E13⟩
        obtain ⟨a13, c13, rfl⟩ := own_form o13
        go_wp2_with fail
        refine (AQ.out _ E13).mono ?_
        rintro e w14 ⟨v14, rfl, o14, E14⟩
        obtain ⟨a14, c14, rfl⟩ := own_form o14
        have QE := equal_Pair (.slice a13 Y.length c13) (.slice a14 Y.length c14) Y Y w14 ((own_seg o13).ext E14) (own_seg o14)
        rw [show decide (Y = Y) = true by simp] at QE
        have QE := hid QE
        clear AP AQ o13 o14
        go_wp2_with fail
        refine (QE.out).mono ?_
        rintro e w15 ⟨rfl, n15, rfl⟩
        have ET := (E13.trans E14).drewN n15
        have H1 := hid (F1.out.ext ET)
        have H2 := hid (F2.out.ext ET)
        have H3 := hid (F3.out.ext ET)
        have H4 := hid (own_ext F4.out ET)
        have H5 := hid (F5.out.trans ET)
        clear F1 F2 F3 F4 F5 ET QE E13 E14
        go_wp2
        go_roundw
        case rel => exact ⟨k + 1, Y, _, _, _, _, _, _, by omega, by go_num, oY, by omega, okn, H1.out, H2.out, H3.out, H4.out, H5.out⟩
        case measure => simp [intOf] <;> omega
      | false =>
        clear KM
        have z1 := cell_of_one (AB.out)
        have DP := hid (pdo_ok A1.out okc oX (by omega) (.slice x1 p.length y1) p (own_seg A6.out) d1 f1)
        have oY := (run_val oX d1.ops).1
        have lY := run_len X p
        have DQ0 := fun w' pvq (hQ : PartsSt w' bq C' O' (parP C' O' X) vc' vo' pvq) (hd : w'.ownsRow B 37 4 (.slice x1 p.length y1) p.length (cO p)) => pdo_ok hQ mok' oX (by omega) (.slice x1 p.length y1) p (own_seg hd) d1 f1
        generalize runS X p = Y at DP oY lY DQ0
        generalize runB X p = ok at DP DQ0
        have DQ := hid DQ0
        clear DQ0
        go_wp2_with fail
        refine (DP.out).mono ?_
        rintro e w11 ⟨rfl, ⟨pva, hPa⟩, G1⟩
        have D1 := hid hPa
        have D2 := A2.out.beside G1 A1.out.box (by omega)
        have D3 := hid (A3.out.keptB G1 (by omega))
        have D4 := hid (own_keptB A4.out G1 (by omega))
        have D5 := hid (ext_keptB A5.out G1 hwp)
        have D6 := own_keptB A6.out G1 (by omega)
        have D7 := hid (grown_heap G1 (AB.out) (fun e => by injection e with e; omega))
        have z2 := cell_of_one D7.out
        have DQ2 := hid (DQ.out w11 _ D2 D6)
        have D2 := hid D2
        clear DP DQ z1 hPa G1 D6
        go_wp2_with fail
        refine (DQ2.out).mono ?_
        rintro e w12 ⟨rfl, ⟨pvb, hQb⟩, G2⟩
        have F1 := D1.out.beside G2 D2.out.box (by omega)
        have F3 := hid (D3.out.keptB G2 (by omega))
        have F4 := hid (own_keptB D4.out G2 (by omega))
        have F5 := hid (ext_keptB D5.out G2 (by omega))
        have AP := hid (pall_ok F1 okc oY (by omega))
        have AQ := hid (fun w' (E : Ext w12 w') => pall_ok (hQb.ext E) mok' oY (by omega))
        have F1 := hid F1
        have F2 := hid hQb
        clear DQ2 z2 hQb G2 D1 D2 D3 D4 D5 D7
        go_wp2_with fail
        refine (AP.out).mono ?_
        rintro e w13 ⟨v13, rfl, o13, E13⟩
        obtain ⟨a13, c13, rfl⟩ := own_form o13
        go_wp2_with fail
        refine (AQ.out _ E13).mono ?_
        rintro e w14 ⟨v14, rfl, o14, E14⟩
        obtain ⟨a14, c14, rfl⟩ := own_form o14
        have QE := equal_Pair (.slice a13 Y.length c13) (.slice a14 Y.length c14) Y Y w14 ((own_seg o13).ext E14) (own_seg o14)
        rw [show decide (Y = Y) = true by simp] at QE
        have QE := hid QE
        clear AP AQ o13 o14
        go_wp2_with fail
        refine (QE.out).mono ?_
        rintro e w15 ⟨rfl, n15, rfl⟩
        have ET := (E13.trans E14).drewN n15
        have H1 := hid (F1.out.ext ET)
        have H2 := hid (F2.out.ext ET)
        have H3 := hid (F3.out.ext ET)
        have H4 := hid (own_ext F4.out ET)
        have H5 := hid (F5.out.trans ET)
        clear F1 F2 F3 F4 F5 ET QE E13 E14
        go_wp2
        go_roundw
        case rel => exact ⟨k + 1, Y, _, _, _, _, _, _, by omega, by go_num, oY, by omega, okc, H1.out, H2.out, H3.out, H4.out, H5.out⟩
        case measure => simp [intOf] <;> omega
    · obtain rfl : k = D.length := by omega
      have EE := hid E
      clear hP hQ hds ho E
      go_wp2
      go_ret
      exact ⟨rfl, EE.out⟩
end Go.Proofs.YtijcckhkofkenaaGreat
