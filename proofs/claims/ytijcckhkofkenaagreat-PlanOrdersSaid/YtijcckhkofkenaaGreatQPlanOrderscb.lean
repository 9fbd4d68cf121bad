/- Contracts and lemmas for the proof of PlanOrders; each theorem states its own conditions. -/
import Derived.Test.YtijcckhkofkenaaGreatQPlanOrdersca
import Derived.BigRegion
import Derived.BigQuiet
set_option linter.unusedVariables false
set_option linter.unusedSimpArgs false
/- Contracts and lemmas for the proofs of this seat; each theorem states its own conditions. -/
namespace Go.Proofs.YtijcckhkofkenaaGreat
open Go.RowKit
/-! PlanOrders: neighbours that change places -/
def swapL (ord : List Nat) (k : Nat) : List Nat := (ord.set k (ord.getD (k + 1) 0)).set (k + 1) (ord.getD k 0)
theorem swap_len (ord : List Nat) (k : Nat) : (swapL ord k).length = ord.length := by simp [swapL]
def swp (k i : Nat) : Nat := if i = k then k + 1 else if i = k + 1 then k else i
theorem swp_swp (k i : Nat) : swp k (swp k i) = i := by
  unfold swp
  by_cases h1 : i = k
  · subst h1; rw [if_pos rfl, if_neg (by omega), if_pos rfl]
  · rw [if_neg h1]
    by_cases h2 : i = k + 1
    · subst h2; rw [if_pos rfl, if_pos rfl]
    · rw [if_neg h2, if_neg h1, if_neg h2]
theorem swp_lt {k i n : Nat} (hk : k + 1 < n) (hi : i < n) : swp k i < n := by
  unfold swp
  split
  · omega
  · split <;> omega
theorem swap_at {ord : List Nat} {k i : Nat} (hk : k + 1 < ord.length) (hi : i < ord.length) : (swapL ord k).getD i 0 = ord.getD (swp k i) 0 := by
  unfold swapL swp
  by_cases h1 : i = k
  · subst h1
    rw [if_pos rfl]
    simp only [List.getD_eq_getElem?_getD]
    rw [List.getElem?_set_ne (by omega), List.getElem?_set_self (by omega)]; rfl
  · rw [if_neg h1]
    by_cases h2 : i = k + 1
    · subst h2
      rw [if_pos rfl]
      simp only [List.getD_eq_getElem?_getD]
      rw [List.getElem?_set_self (by simp; omega)]; rfl
    · rw [if_neg h2]
      simp only [List.getD_eq_getElem?_getD]
      rw [List.getElem?_set_ne (by omega), List.getElem?_set_ne (by omega)]
theorem extN {a b : List Nat} (hl : a.length = b.length) (h : ∀ i, i < a.length → a.getD i 0 = b.getD i 0) : a = b := by
  apply List.ext_getElem hl
  intro i h1 h2
  have := h i h1
  rwa [getN_at h1, getN_at h2] at this
theorem swap_swap {ord : List Nat} {k : Nat} (hk : k + 1 < ord.length) : swapL (swapL ord k) k = ord := by
  refine extN (by rw [swap_len, swap_len]) fun i hi => ?_
  rw [swap_len, swap_len] at hi
  rw [swap_at (by rw [swap_len]; exact hk) (by rw [swap_len]; exact hi), swap_at hk (swp_lt hk hi), swp_swp]
theorem swap_mem {ord : List Nat} {k x : Nat} (hk : k + 1 < ord.length) : x ∈ swapL ord k ↔ x ∈ ord := by
  constructor
  · intro h
    obtain ⟨i, hi, e⟩ := List.mem_iff_getElem.1 h
    rw [swap_len] at hi
    have h2 := swap_at hk hi
    rw [getN_at (show i < (swapL ord k).length by rw [swap_len]; exact hi), getN_at (swp_lt hk hi), e] at h2
    rw [h2]; exact List.getElem_mem _
  · intro h
    obtain ⟨i, hi, e⟩ := List.mem_iff_getElem.1 h
    have h2 := swap_at hk (swp_lt hk hi)
    rw [swp_swp, getN_at (show swp k i < (swapL ord k).length by rw [swap_len]; exact swp_lt hk hi), getN_at hi, e] at h2
    rw [← h2]; exact List.getElem_mem _
theorem swap_nodup {ord : List Nat} {k : Nat} (hk : k + 1 < ord.length) (h : ord.Nodup) : (swapL ord k).Nodup := by
  refine List.pairwise_iff_getElem.2 fun i j hi hj hij e => ?_
  have hi' := hi
  have hj' := hj
  rw [swap_len] at hi' hj'
  have e1 := swap_at hk hi'
  have e2 := swap_at hk hj'
  rw [getN_at hi, getN_at (swp_lt hk hi')] at e1
  rw [getN_at hj, getN_at (swp_lt hk hj')] at e2
  have := nd_inj h (i := swp k i) (j := swp k j) (hi := swp_lt hk hi') (hj := swp_lt hk hj') (by rw [← e1, ← e2, e])
  have h3 := congrArg (swp k) this
  rw [swp_swp, swp_swp] at h3
  omega
/-- an order of all -/
structure OrdN (n : Nat) (ord : List Nat) : Prop where
  nodup : ord.Nodup
  mem : ∀ i, i ∈ ord ↔ i < n
  len : ord.length = n
theorem ordN_range (n : Nat) : OrdN n (List.range n) := ⟨List.nodup_range, by simp, by simp⟩
theorem OrdN.swap {n : Nat} {ord : List Nat} (h : OrdN n ord) {k : Nat} (hk : k + 1 < n) : OrdN n (swapL ord k) := by
  have hl := h.len
  exact ⟨swap_nodup (by omega) h.nodup, fun i => by rw [swap_mem (by omega)]; exact h.mem i, by rw [swap_len]; exact hl⟩
def fillL (n i : Nat) : List Int := iN (List.range i) ++ List.replicate (n - i) 0
theorem fillL_len {n i : Nat} (h : i ≤ n) : (fillL n i).length = n := by simp [fillL, iN_len]; omega
theorem fillL_set {n i : Nat} (h : i < n) : (fillL n i).set i (i : Int) = fillL n (i + 1) := by
  unfold fillL
  have hl : (iN (List.range i)).length = i := by simp [iN_len]
  obtain ⟨d, hd⟩ : ∃ d, n - i = d + 1 := ⟨n - i - 1, by omega⟩
  rw [hd, List.replicate_succ, List.set_append, if_neg (by omega), hl, Nat.sub_self, List.set_cons_zero, show n - (i + 1) = d by omega, List.range_succ, iN_app]
  simp [iN]
theorem fillL_zero (n : Nat) : fillL n 0 = List.replicate n 0 := by simp [fillL, iN]
theorem fillL_all (n : Nat) : fillL n n = iN (List.range n) := by simp [fillL]
theorem iN_swap (ord : List Nat) {k : Nat} (hk : k + 1 < ord.length) : ((iN ord).set k ((iN ord).getD (k + 1) 0)).set (k + 1) ((iN ord).getD k 0) = iN (swapL ord k) := by
  rw [iN_at ord hk, iN_at ord (show k < ord.length by omega)]
  unfold swapL iN
  simp [List.map_set]
/-- the deeds in another order -/
def pickV (us : List Value) (ord : List Nat) : List Value := ord.map fun i => us.getD i (.bool false)
def pickD (D : List Ops) (ord : List Nat) : List Ops := ord.map fun i => D.getD i []
theorem pickV_len (us : List Value) (ord : List Nat) : (pickV us ord).length = ord.length := by simp [pickV]
theorem pickD_len (D : List Ops) (ord : List Nat) : (pickD D ord).length = ord.length := by simp [pickD]
theorem pickV_snoc (us : List Value) {ord : List Nat} {j : Nat} (h : j < ord.length) : pickV us (ord.take j) ++ [us.getD ord[j] (.bool false)] = pickV us (ord.take (j + 1)) := by
  unfold pickV; rw [List.take_succ_eq_append_getElem h, List.map_append]; rfl
theorem pickD_mem {D : List Ops} {ord : List Nat} (hm : ∀ i ∈ ord, i < D.length) {d : Ops} (h : d ∈ pickD D ord) : d ∈ D := by
  obtain ⟨i, hi, rfl⟩ := List.mem_map.1 h
  have := hm i hi
  rw [show D.getD i [] = D[i] by simp [this]]
  exact List.getElem_mem this
theorem pick_seg {w w' : World} {B B' : Nat} {us : List Value} {D : List Ops} (h : OwnDs w B us D) (E : Ext w w') {ord : List Nat} (hm : ∀ i ∈ ord, i < D.length) {v : Value} (ho : w'.ownsRow B' 29 1 v ord.length (pickV us ord)) : SegDs w' v (pickD D ord) := by
  refine ⟨pickV us ord, by rw [pickV_len, pickD_len], by rw [pickV_len]; exact own_seg ho, fun i u d hu hd => ?_⟩
  obtain ⟨hi, e⟩ := List.getElem?_eq_some_iff.1 hu
  obtain ⟨hi', e'⟩ := List.getElem?_eq_some_iff.1 hd
  rw [pickV_len] at hi
  have hlt := hm _ (List.getElem_mem hi)
  have hlu : ord[i] < us.length := by rw [h.len]; exact hlt
  simp [pickV, hlu] at e
  simp [pickD, hlt] at e'
  subst e; subst e'
  exact (own_seg (h.own ord[i] _ _ (List.getElem?_eq_getElem hlu) (List.getElem?_eq_getElem hlt))).ext E
theorem orders_same {D : List Ops} (hA : ∀ d ∈ D, DeedOk d) {S : Prs} (hS : StoreOk S) {ord : List Nat} (hO : OrdN D.length ord) (ha : ordB D (atL D.length ord D.length) D.length = true) :
    serS S (pickD D ord) = serS S D ∧ (serB S (pickD D ord)).length = D.length ∧ ∀ j (h : j < ord.length), (serB S (pickD D ord)).getD j false = (serB S D).getD ord[j] false := by
  have hl := hO.len
  rw [show D.length = ord.length from hl.symm] at ha
  have ha' : AdmO D ord := (adm_ord hO.nodup hO.mem).1 (by rw [hl] at ha ⊢; exact ha)
  obtain ⟨q1, q2⟩ := adm_same hA hS ha' hO.nodup hO.mem
  refine ⟨q1, by rw [serB_len, pickD_len]; exact hl, fun j h => ?_⟩
  have := q2 j h
  unfold pickD
  rw [List.getD_eq_getElem?_getD, List.getD_eq_getElem?_getD, this]
theorem own_deed_at {w : World} {B B' : Nat} {us : List Value} {D : List Ops} {aD : Option Addr} {cD : Nat} (hds : OwnDs w B us D) (ho : w.ownsRow B' 29 1 (.slice aD D.length cD) D.length us) {z : Nat} (hz : z < D.length) :
    ∃ b au nu cu, aD = some ⟨b, 0, none⟩ ∧ us.getD z (.bool false) = .slice au nu cu ∧ w.cell? ⟨b, z, none⟩ = some (.slice au nu cu) := by
  have hlu : z < us.length := by rw [hds.len]; exact hz
  obtain ⟨b, off, e, _, _, _, hc⟩ := seg_cells (own_seg ho) (by omega)
  obtain ⟨g, e', _⟩ := own_pos ho (by omega)
  rw [e'] at e
  injection e with e; injection e with e1 e2
  subst e1; subst e2
  obtain ⟨au, cu, hu⟩ := own_form (hds.own z us[z] D[z] (List.getElem?_eq_getElem hlu) (List.getElem?_eq_getElem hz))
  have := hc z us[z] (List.getElem?_eq_getElem hlu)
  rw [Nat.zero_add, hu] at this
  exact ⟨g, au, _, cu, e', by simp [hlu]; exact hu, this⟩
set_option maxRecDepth 100000 in
set_option maxHeartbeats 8000000 in
theorem porders_walk (v vd vp : Value) (l P : List Int) (ls : List (List Int)) (w : World) (hv : Seg w v 1 l.length (cI l)) (hb : ∀ z ∈ l, -9223372036854775808 ≤ z ∧ z ≤ 9223372036854775807) (hvd : SegLL w vd ls) (hvp : Seg w vp 1 P.length (cI P)) :
    Calls Tryz.prog 9 #[v, vd, vp] w fun e w' => e = .returned (.bool true) ∧ Ext w w' := by
  obtain ⟨aP, cP, rfl⟩ := seg_form hvp
  obtain ⟨hP0, hP1, hP2⟩ : (0 < P.length → ∃ b off, aP = some ⟨b, off, none⟩ ∧ ∀ j u, (cI P)[j]? = some u → w.cell? ⟨b, off + j, none⟩ = some u) ∧ P.length ≤ cP ∧ cP ≤ 9223372036854775807 := by
    obtain ⟨_, _, _, e, h1, h2, h3⟩ := hvp
    injection e with e1 _ e3
    subst e1; subst e3
    unfold maxLen at h2
    exact ⟨h3, h1, h2⟩
  have HP := hid hP0
  obtain ⟨N, hN, hN1, hN2⟩ : ∃ N : Nat, min (P.length : Int) 40 = (N : Int) ∧ N ≤ 40 ∧ N ≤ P.length := ⟨min P.length 40, by omega, by omega, by omega⟩
  have hNt : ((N : Int)).toNat = N := by omega
  have hNm : max (N : Int) 0 = (N : Int) := by omega
  clear hP0 hvp
  go_enter Tryz.func9, Tryz.ntmps9
  go_wp2_with fail
  refine (planBegun_any _).mono ?_
  rintro e w1 ⟨rfl, E⟩
  replace hv := hv.ext E
  replace hvd := hvd.ext E
  go_wp2_with fail
  refine (pairs_any _ l _ hv hb).mono ?_
  rintro e w2 ⟨vs, S, rfl, oS, lS, hS, E1⟩
  have sS := own_seg hS
  obtain ⟨a0, c0, rfl⟩ := own_form hS
  replace E := E.trans E1
  replace hvd := hvd.ext E1
  clear E1 hS hv
  go_wp2_with fail
  refine (deeds_any _ ls 12 _ hvd (by omega)).mono ?_
  rintro e w3 ⟨vD, us, D, rfl, hout, hds, hdg, hdl, E1⟩
  have hD := hds.seg hout
  obtain ⟨aD, cD, rfl⟩ := own_form hout
  have hl := hds.len
  rw [hl] at hD
  simp only [hl]
  have HUL := hid hl
  have HDS := hid hds
  rw [hl] at hout
  have HO := hid hout
  clear hl
  replace sS := sS.ext E1
  replace E := E.trans E1
  clear E1 hout hds hvd
  have dok : ∀ d ∈ D, DeedOk d := fun d h => (hdg d h).ok
  have dsm : ∀ d ∈ D, ∀ o ∈ d, o.from_.size ≤ 9223372036854775807 := fun d h => (hdg d h).sm
  clear hdg
  have HE3 := hid E
  have HSS := hid sS
  have HDD := hid hD
  have HOS := hid oS
  clear sS hD
  go_wp2_with (first | (at_make; refine wpList_make_int _ rfl _ _ rfl D.length rfl rfl (by omega) ?_; intro v' w4 ho4 hf hE; obtain ⟨cA, rfl⟩ := hf))
  obtain ⟨gA, hgA⟩ : ∃ gA, w3.heap.size = gA := ⟨_, rfl⟩
  rw [hgA] at ho4
  simp only [hgA]
  have hgl : w3.heap.size ≤ gA := by omega
  clear hgA
  go_loopw [10, 37] (fun _ iv wr => ∃ i : Nat, i ≤ D.length ∧ iv = .int .i64 i ∧ wr.ownsRow gA 3 1 (.slice (some ⟨gA, 0, none⟩) D.length cA) D.length (cI (fillL D.length i)) ∧ Ext w3 wr) (fun _ iv _ => D.length - (intOf iv).toNat)
  case atStart => exact ⟨0, Nat.zero_le _, rfl, by rw [fillL_zero]; exact ho4, hE⟩
  case round =>
    clear ho4 hE
    obtain ⟨wq, rfl⟩ : ∃ wq : World, wq = wr := ⟨_, rfl⟩
    obtain ⟨i, hi, rfl, ho, Ei⟩ := hrel
    by_cases hil : i < D.length
    · have hfl : i < (fillL D.length i).length := by rw [fillL_len hi]; exact hil
      obtain ⟨ci, fi⟩ := own_int ho hfl
      have hs := own_int_set ho hfl (i : Int)
      rw [fillL_set hil] at hs
      have HS := hid hs
      clear hs hfl
      go_wp2
      go_roundw
      case rel => exact ⟨i + 1, by omega, by go_num, HS.out, Ei.setCell hgl _⟩
      case measure => simp [intOf] <;> omega
    · obtain rfl : i = D.length := by omega
      rw [fillL_all] at ho
      have HO0 := hid ho
      clear ho
      go_wp2
      clear hN hNt hNm
      go_loopw [12, 13, 14, 15, 17, 18, 19, 20, 21, 22, 23, 24, 25, 51] (fun _ _ _ _ _ _ _ _ _ _ _ _ _ jv wr => ∃ (j : Nat) (ord : List Nat), j ≤ N ∧ jv = .int .i64 j ∧ OrdN D.length ord ∧ wr.ownsRow gA 3 1 (.slice (some ⟨gA, 0, none⟩) D.length cA) D.length (cI (iN ord)) ∧ Ext w3 wr) (fun _ _ _ _ _ _ _ _ _ _ _ _ _ jv _ => N - (intOf jv).toNat)
      case atStart => exact ⟨0, _, Nat.zero_le _, rfl, ordN_range _, HO0.out, Ei⟩
      case round =>
        clear HO0 Ei
        obtain ⟨wz, rfl⟩ : ∃ wz : World, wz = wr := ⟨_, rfl⟩
        obtain ⟨j, ord, hj, rfl, hO, ho, Ez⟩ := hrel
        by_cases hjN : j < N
        · obtain ⟨bP, oP, rfl, hcP⟩ := HP.out (by omega)
          have cj := (HE3.out.trans Ez).cell (hcP j _ (cI_at0 P j (by omega)))
          generalize P[j]'(by omega) = x at cj
          clear hcP
          by_cases h2 : D.length < 2
          · have EE := HE3.out.trans Ez
            clear ho
            go_wp2
            go_ret
            exact ⟨rfl, EE⟩
          · obtain ⟨k, hk1', hkn⟩ : ∃ k : Nat, wi x ((D.length : Int) - 1) = (k : Int) ∧ k + 1 < D.length := by
              have g1 := wi_lo (k := x) (n := (D.length : Int) - 1) (by omega)
              have g2 := wi_hi (k := x) (n := (D.length : Int) - 1) (by omega)
              exact ⟨(wi x ((D.length : Int) - 1)).toNat, by omega, by omega⟩
            have WI0 := fun w => within_any x ((D.length : Int) - 1) w (by omega) (by omega)
            rw [hk1'] at WI0
            have WI := hid WI0
            clear WI0 hk1'
            have hol := hO.len
            have hkk : k + 1 < (iN ord).length := by rw [iN_len]; omega
            have hk0 : k < (iN ord).length := by omega
            obtain ⟨ck, fk⟩ := own_int ho hk0
            obtain ⟨ck1, fk1⟩ := own_int ho hkk
            have hs1 := own_int_set ho hk0 ((iN ord).getD (k + 1) 0)
            have hs2 := own_int_set hs1 (i := k + 1) (by rw [List.length_set]; exact hkk) ((iN ord).getD k 0)
            rw [iN_swap ord (by omega)] at hs2
            have hO' := hO.swap hkn
            have HSW := hid (swap_swap (ord := ord) (k := k) (by omega))
            generalize (iN ord).getD (k + 1) 0 = y1 at ck1 hs1 hs2
            generalize (iN ord).getD k 0 = y0 at ck hs1 hs2
            have HO1 := hid ho
            have E1 := (((Ez.setCell (p := ⟨gA, k, none⟩) hgl (.int .i64 y1)).setCell (p := ⟨gA, k + 1, none⟩) hgl (.int .i64 y0)).drew)
            have o1 := own_ext hs2 (Ext.refl _).drew
            obtain ⟨W1, hW1⟩ : ∃ W1, ((wz.setCell ⟨gA, k, none⟩ (.int .i64 y1)).setCell ⟨gA, k + 1, none⟩ (.int .i64 y0)).drew = W1 := ⟨_, rfl⟩
            rw [hW1] at E1 o1
            have hl' := hO'.len
            have OK := order_ok (.slice aD D.length cD) (.slice (some ⟨gA, 0, none⟩) D.length cA) D (swapL ord k) W1 (HDD.out.ext E1) dok dsm (by omega) (by rw [hl', cN_cI]; exact own_seg o1) hl' hO'.nodup (fun i hi => (hO'.mem i).1 hi)
            obtain ⟨bq, hbq⟩ : ∃ bq, ordB D (atL D.length (swapL ord k) D.length) D.length = bq := ⟨_, rfl⟩
            rw [hbq] at OK
            have OK := hid OK
            have HBQ := hid hbq
            have O1 := hid o1
            clear hs1 hs2 hkk hk0 ho o1 hbq hl'
            go_wp2_with fail
            refine (WI.out _).mono ?_
            rintro e w' ⟨rfl, rfl⟩
            go_wp2_with fail
            go_region
            go_wp2_with fail
            refine (OK.out).mono ?_
            rintro e W2 ⟨rfl, E2⟩
            have E2w := E2
            replace E2 := E1.trans E2
            have oz := own_ext O1.out E2w
            cases bq with
            | false =>
              have hol' := hO'.len
              have hkk : k + 1 < (iN (swapL ord k)).length := by rw [iN_len]; omega
              have hk0 : k < (iN (swapL ord k)).length := by omega
              obtain ⟨ck, fk⟩ := own_int oz hk0
              obtain ⟨ck1, fk1⟩ := own_int oz hkk
              have hs1 := own_int_set oz hk0 ((iN (swapL ord k)).getD (k + 1) 0)
              have hs2 := own_int_set hs1 (i := k + 1) (by rw [List.length_set]; exact hkk) ((iN (swapL ord k)).getD k 0)
              rw [iN_swap (swapL ord k) (by omega), HSW.out] at hs2
              generalize (iN (swapL ord k)).getD (k + 1) 0 = y1 at ck1 hs1 hs2
              generalize (iN (swapL ord k)).getD k 0 = y0 at ck hs1 hs2
              have E3 := (((E2.setCell (p := ⟨gA, k, none⟩) hgl (.int .i64 y1)).setCell (p := ⟨gA, k + 1, none⟩) hgl (.int .i64 y0)).drew)
              have o3 := own_ext hs2 (Ext.refl _).drew
              have HO3 := hid o3
              clear hs1 hs2 hkk hk0 oz o3 HSW O1 OK hW1
              go_wp2_with fail
              go_region
              go_wp2_with fail
              go_roundw
              case rel => exact ⟨j + 1, ord, by omega, by go_num, hO, HO3.out, E3⟩
              case measure => simp [intOf] <;> omega
            | true =>
              obtain ⟨s1, s2, s3⟩ := orders_same dok HOS.out hO' HBQ.out
              have hol' := hO'.len
              generalize swapL ord k = ord' at oz hO' s1 s2 s3 hol' HBQ
              have HOZ := hid oz
              have HT3 := hid s3
              have HPM := hid (fun (i : Nat) (h : i ∈ ord') => (hO'.mem i).1 h)
              have HEL := hid (fun (i : Nat) (w' : World) (E : Ext W2 w') => own_int (own_ext oz E) (i := i))
              clear oz s3 OK O1 hW1 HSW
              go_wp2_with fail
              go_loopw [15, 17, 107] (fun ov _ qv wr => ∃ q : Nat, q ≤ D.length ∧ qv = .int .i64 q ∧ wr.ownsRow W2.heap.size 29 1 ov q (pickV us (ord'.take q)) ∧ Ext W2 wr) (fun _ _ qv _ => D.length - (intOf qv).toNat)
              case atStart => exact ⟨0, Nat.zero_le _, rfl, World.ownsRow_nil _ _ _ _, Ext.refl _⟩
              case round =>
                obtain ⟨wy, rfl⟩ : ∃ wy : World, wy = wr := ⟨_, rfl⟩
                obtain ⟨q, hq, rfl, hp, Ep⟩ := hrel
                obtain ⟨ao, co, rfl⟩ := own_form hp
                by_cases hqd : q < D.length
                · have hqo : q < ord'.length := by omega
                  have ce := (HEL.out q wy Ep (by rw [iN_len]; exact hqo)).1
                  rw [iN_at ord' hqo, getN_at hqo] at ce
                  have hlt := HPM.out _ (List.getElem_mem hqo)
                  have hst := pickV_snoc us hqo
                  generalize ord'[q] = z at ce hlt hst
                  obtain ⟨bD, au, nu, cu, rfl, hue, hcz⟩ := own_deed_at HDS.out HO.out hlt
                  rw [hue] at hst
                  have cz := (E2.trans Ep).cell hcz
                  have HST := hid hst
                  obtain ⟨p1, p2, p3⟩ := dd_prep (n := nu) (ad := au) (cd := cu) hp Ep.size' rfl
                  have hpv : (pickV us (ord'.take q)).length = q := by rw [pickV_len, List.length_take]; omega
                  clear hst hcz hue hpv
                  go_wp2_with (first | (at_builtin; refine (wpList_app rfl _ _ 38 rfl W2.heap.size 29 (.agg #[.slice none 0 0]) 1 24 Tryz.underlying38 infoDd rfl (by decide) _ q (pickV us (ord'.take q)) rfl p2 _ 1 [.slice au nu cu] rfl p1 (one_deed _ _ _) (by omega) (by unfold maxLen; omega) p3 ?_); intro v' w9 ho' hg; obtain ⟨a9, c9, rfl⟩ := own_form ho'))
                  rw [HST.out] at ho'
                  have HP := hid ho'
                  have E9 := (Ep.alloc _).grown hg (fun k hk => own_ge p2 k hk)
                  go_roundw
                  case rel => exact ⟨q + 1, by omega, by go_num, HP.out, E9⟩
                  case measure => simp [intOf] <;> omega
                · obtain rfl : q = D.length := by omega
                  have hqt : ord'.take D.length = ord' := by rw [← hol', List.take_length]
                  rw [hqt] at hp
                  have hsd := pick_seg HDS.out (E2.trans Ep) HPM.out (v := .slice ao D.length co) (by rw [hol']; exact hp)
                  have hpl := pickD_len D ord'
                  rw [hol'] at hpl
                  have SR1 := fun w' (E : Ext wy w') => serial_ok (.slice a0 S.length c0) (.slice aD D.length cD) S D w' (HSS.out.ext ((E2.trans Ep).trans E)) (HDD.out.ext ((E2.trans Ep).trans E)) HOS.out dok dsm (by omega) (by omega)
                  have SR2 := fun w' (E : Ext wy w') => serial_ok (.slice a0 S.length c0) (.slice ao D.length co) S (pickD D ord') w' (HSS.out.ext ((E2.trans Ep).trans E)) (hsd.ext E) HOS.out (fun d hd => dok d (pickD_mem HPM.out hd)) (fun d hd => dsm d (pickD_mem HPM.out hd)) (by omega) (by omega)
                  rw [s1] at SR2
                  have hTl : (serB S D).length = D.length := serB_len _ _
                  rw [hTl] at SR1
                  rw [s2] at SR2
                  have SR1 := hid SR1
                  have SR2 := hid SR2
                  generalize serB S (pickD D ord') = T2 at s2 HT3 SR2
                  generalize serB S D = T1 at hTl HT3 SR1
                  clear hsd hpl hp hqt s1
                  have EE := hid ((E2.trans Ep))
                  go_wp2_with fail
                  refine (SR1.out _ (Ext.refl _)).mono ?_
                  rintro e w5 ⟨v7, v8, rfl, o7, o8, E5⟩
                  have s7 := own_seg o7
                  have s8 := own_seg o8
                  obtain ⟨a7, c7, rfl⟩ := own_form o7
                  obtain ⟨a8, c8, rfl⟩ := own_form o8
                  have SR3 := hid (SR2.out w5 E5)
                  clear SR1 SR2 o7 o8
                  go_wp2_with fail
                  refine (SR3.out).mono ?_
                  rintro e w6 ⟨v9, v10, rfl, o9, o10, E6⟩
                  have s9 := own_seg o9
                  have s10 := own_seg o10
                  obtain ⟨a9, c9, rfl⟩ := own_form o9
                  obtain ⟨a10, c10, rfl⟩ := own_form o10
                  have Q1 := equal_Pair (.slice a7 (serS S D).length c7) (.slice a9 (serS S D).length c9) (serS S D) (serS S D) w6 (s7.ext E6) s9
                  rw [show decide (serS S D = serS S D) = true by simp] at Q1
                  have Q1 := hid Q1
                  have B8 := hid (s8.ext E6)
                  have B10 := hid s10
                  have E56 := hid (E5.trans E6)
                  clear SR3 o9 o10 s7 s8 s9 s10 E5 E6
                  go_wp2_with fail
                  refine (Q1.out).mono ?_
                  rintro e w7 ⟨rfl, n7, rfl⟩
                  clear Q1
                  go_wp2_with fail
                  go_loopw [24, 25, 147] (fun _ _ qv wr => ∃ q : Nat, q ≤ D.length ∧ qv = .int .i64 q ∧ Ext w6 wr) (fun _ _ qv _ => D.length - (intOf qv).toNat)
                  case atStart => exact ⟨0, Nat.zero_le _, rfl, (Ext.refl _).drewN _⟩
                  case round =>
                    obtain ⟨wx, rfl⟩ : ∃ wx : World, wx = wr := ⟨_, rfl⟩
                    obtain ⟨q, hq, rfl, Eq⟩ := hrel
                    by_cases hqd : q < D.length
                    · have hqo : q < ord'.length := by omega
                      have ce := (HEL.out q wx ((Ep.trans E56.out).trans Eq) (by rw [iN_len]; exact hqo)).1
                      rw [iN_at ord' hqo, getN_at hqo] at ce
                      have hlt := HPM.out _ (List.getElem_mem hqo)
                      have hT := HT3.out q hqo
                      generalize ord'[q] = z at ce hlt hT
                      obtain ⟨b10, o10, rfl, _, f1, f2, h10⟩ := seg_cells B10.out (by omega)
                      obtain ⟨b8, o8, rfl, _, f3, f4, h8⟩ := seg_cells B8.out (by omega)
                      unfold maxLen at f2 f4
                      have c10 := Eq.cell (h10 q (.bool (T2.getD q false)) (by simp [cB, show q < T2.length by omega]))
                      have c8' := Eq.cell (h8 z (.bool (T1.getD z false)) (by simp [cB, show z < T1.length by omega]))
                      rw [hT] at c10
                      generalize T1.getD z false = tv at c10 c8'
                      clear h10 h8 hT
                      go_wp2_with fail
                      go_quiet (fail)
                      go_wp2
                      go_roundw
                      case rel => exact ⟨q + 1, by omega, by go_num, Eq.drewN _⟩
                      case measure => simp [intOf] <;> omega
                    · obtain rfl : q = D.length := by omega
                      have HF := hid (((E2.trans Ep).trans E56.out).trans Eq)
                      have HZ2 := hid (own_ext HOZ.out ((Ep.trans E56.out).trans Eq))
                      go_wp2_with fail
                      go_roundw
                      case rel => exact ⟨j + 1, ord', by omega, by go_num, hO', HZ2.out, HF.out⟩
                      case measure => simp [intOf] <;> omega
        · obtain rfl : j = N := by omega
          have EE := HE3.out.trans Ez
          clear ho
          go_wp2
          go_ret
          exact ⟨rfl, EE⟩
end Go.Proofs.YtijcckhkofkenaaGreat
