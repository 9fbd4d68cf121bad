/- Contracts and lemmas for the proof of PlanPlays; each theorem states its own conditions. -/
import Derived.Test.YtghemmmkbpfdhaaGreatDoorQPlanPlaysbm
import Derived.Test.YtghemmmkbpfdhaaGreatDoorQPlanPlaysbh
set_option linter.unusedVariables false
set_option linter.unusedSimpArgs false
/- Contracts and lemmas for the proofs of this seat; each theorem states its own conditions. -/
namespace Go.Proofs.YtghemmmkbpfdhaaGreatDoor
open Go.RowKit
/-! plan.Play -/
abbrev PYS := List Nat × (Nat → Bool) × Prs × List Bool
/-- which of so many is taken -/
def pickN (P : List Int) (k r : Nat) : Nat := if k < P.length then (wi (P.getD k 0) r).toNat else 0
def seqN (D : List Ops) (P : List Int) (s : PYS) : Nat := (readyL D s.2.1 D.length).getD (pickN P s.1.length (readyL D s.2.1 D.length).length) 0
def play1 (D : List Ops) (P : List Int) (s : PYS) : PYS := (s.1 ++ [seqN D P s], goneW s.2.1 (seqN D P s), runS s.2.2.1 (D.getD (seqN D P s) []), s.2.2.2.set (seqN D P s) (runB s.2.2.1 (D.getD (seqN D P s) [])))
def playN (D : List Ops) (S : Prs) (P : List Int) : Nat → PYS
  | 0 => ([], fun _ => false, S, List.replicate D.length false)
  | j + 1 => play1 D P (playN D S P j)
theorem pick_lt (P : List Int) (k : Nat) {r : Nat} (h : 0 < r) : pickN P k r < r := by
  unfold pickN
  split
  · have g1 := wi_lo (k := P.getD k 0) (n := r) (by omega)
    have g2 := wi_hi (k := P.getD k 0) (n := r) (by omega)
    omega
  · exact h
theorem seq_ready {D : List Ops} {P : List Int} {s : PYS} (h : 0 < liveN s.2.1 D.length) : seqN D P s ∈ readyL D s.2.1 D.length := by
  have hp : 0 < (readyL D s.2.1 D.length).length := List.length_pos_iff.2 (ready_some h)
  have hl := pick_lt P s.1.length hp
  unfold seqN
  rw [show (readyL D s.2.1 D.length).getD (pickN P s.1.length (readyL D s.2.1 D.length).length) 0 = (readyL D s.2.1 D.length)[pickN P s.1.length (readyL D s.2.1 D.length).length] by simp [hl]]
  exact List.getElem_mem hl
theorem playN_inv (D : List Ops) (S : Prs) (P : List Int) : ∀ j, j ≤ D.length → PlayI D S (playN D S P j).1 (playN D S P j).2.1 (playN D S P j).2.2.1 (playN D S P j).2.2.2 ∧ liveN (playN D S P j).2.1 D.length + j = D.length ∧ (playN D S P j).1.length = j
  | 0, _ => ⟨play_start D S, by rw [show (playN D S P 0).2.1 = fun _ => false from rfl, live_all (fun _ _ => rfl)]; rfl, rfl⟩
  | j + 1, h => by
    obtain ⟨h1, h2, h3⟩ := playN_inv D S P j (by omega)
    have hr := seq_ready (D := D) (P := P) (s := playN D S P j) (by omega)
    obtain ⟨a1, a2, a3⟩ := ready_mem.1 hr
    refine ⟨play_step h1 a1 a2 a3, ?_, ?_⟩
    · have := (live_gone a2 (n := D.length)).1 a1
      show liveN (goneW _ _) D.length + (j + 1) = _
      omega
    · show (_ ++ [_]).length = _
      rw [List.length_append, h3]; rfl
theorem playN_len {D : List Ops} (hD : ∀ d ∈ D, d.length ≤ 8) (S : Prs) (P : List Int) : ∀ j, (playN D S P j).2.2.1.length ≤ S.length + 16 * j
  | 0 => Nat.le_refl _
  | j + 1 => by
    have h1 := playN_len hD S P j
    have h2 := run_len (playN D S P j).2.2.1 (D.getD (seqN D P (playN D S P j)) [])
    have h3 : (D.getD (seqN D P (playN D S P j)) []).length ≤ 8 := by
      rw [List.getD_eq_getElem?_getD]
      cases e : D[seqN D P (playN D S P j)]? with
      | none => simp
      | some d => exact hD d (List.mem_of_getElem? e)
    show (runS _ _).length ≤ _
    omega
theorem playN_ok {D : List Ops} (hD : ∀ d ∈ D, DeedOk d) {S : Prs} (hS : StoreOk S) (P : List Int) : ∀ j, j ≤ D.length → StoreOk (playN D S P j).2.2.1 := fun j hj => by
  obtain ⟨h1, _, _⟩ := playN_inv D S P j hj
  rw [h1.sto]
  refine ser_ok (fun d hd => ?_) hS
  obtain ⟨i, hi, rfl⟩ := List.mem_map.1 hd
  have := h1.lt i hi
  rw [show D.getD i [] = D[i] by simp [this]]
  exact hD _ (List.getElem_mem this)
theorem results_tmp4 {fn : Func} {t u v x : Tmp} (h : fn.results = #[.tmp t, .tmp u, .tmp v, .tmp x]) (tmps : Array Value) (P : Program) (w : World) :
    (results fn tmps).run P w = .ok (.tuple #[tmps.getD t undef, tmps.getD u undef, tmps.getD v undef, tmps.getD x undef]) w := by
  simp [results, h, go_sem]
theorem getN_at {l : List Nat} {i : Nat} (h : i < l.length) : l.getD i 0 = l[i] := by simp [h]
theorem getI_at {l : List Int} {i : Nat} (h : i < l.length) : l.getD i 0 = l[i] := by simp [h]
set_option maxRecDepth 100000 in
set_option maxHeartbeats 4000000 in
theorem play_ok (v vd vp : Value) (S : Prs) (D : List Ops) (P : List Int) (w : World) (hv : Seg w v 2 S.length (cP S)) (hS : StoreOk S) (hlS : S.length ≤ 900000) (hvd : SegDs w vd D) (dok : ∀ d ∈ D, DeedOk d) (dsm : ∀ d ∈ D, ∀ o ∈ d, o.from_.size ≤ 9223372036854775807) (hdl : D.length ≤ 60) (hvp : Seg w vp 1 P.length (cI P)) :
    Calls Tryz.prog 5 #[v, vd, vp] w fun e w' => ∃ v' vb vo, e = .returned (.tuple #[v', vb, vo, .int .i64 0]) ∧ w'.ownsRow w.heap.size 45 2 v' (playN D S P D.length).2.2.1.length (cP (playN D S P D.length).2.2.1) ∧ w'.ownsRow w.heap.size 4 1 vb D.length (cB (playN D S P D.length).2.2.2) ∧ w'.ownsRow w.heap.size 3 1 vo D.length (cN (playN D S P D.length).1) ∧ Ext w w' := by
  have CK := hid (scheck_any v S w hv (store_small hS))
  have HD := hid hvd
  have HI := hid (fun j (hj : j ≤ D.length) => playN_inv D S P j hj)
  have HXL := hid (playN_len (D := D) (fun d h => (dok d h).hi) S P)
  have HXO := hid (playN_ok dok hS P)
  obtain ⟨aD, cD, rfl, hc1, hc2, hcell⟩ := hvd.form
  have HC := hid hcell
  unfold maxLen at hc2
  obtain ⟨aP, kP, rfl⟩ := seg_form hvp
  have HP := hid hvp
  have HE0 := hid (storeErr_ok hS)
  clear hcell hvd hvp
  go_enter Tryz.func5, Tryz.ntmps5
  go_wp2_with fail
  refine (CK.out).mono ?_
  rw [HE0.out]
  rintro e w1 ⟨rfl, E1⟩
  clear CK
  go_wp2_with fail
  refine (laid_ok (.slice aD D.length cD) D w1 (HD.out.ext E1) dok dsm hdl).mono ?_
  rintro e w2 ⟨bt, bk, bd, F, G, rfl, hL, E2⟩
  replace E2 := E1.trans E2
  have hB1 : w.heap.size ≤ w1.heap.size := E1.size'
  go_wp2_with fail
  refine (clone_Pair v S.length (cP S) _ (hv.ext E2) (cP_one _) (by omega)).mono ?_
  rintro e w3 ⟨a3, c3, rfl, ho3, E3⟩
  replace hL := hL.ext E3
  replace E3 := E2.trans E3
  replace ho3 := own_base (B' := w.heap.size) ho3 E2.size'
  clear E2 hv E1
  go_wp2_with (first | (at_make; refine wpList_make_bool _ rfl _ _ rfl D.length rfl rfl (by omega) ?_; intro v' w4 ho4 hf hE; obtain ⟨cA, rfl⟩ := hf))
  obtain ⟨gA, hgA⟩ : ∃ gA, w3.heap.size = gA := ⟨_, rfl⟩
  rw [hgA] at ho4
  simp only [hgA]
  have hgl : w.heap.size ≤ gA := by have := E3.size'; omega
  replace hL := hL.ext hE
  replace ho3 := own_ext ho3 hE
  replace ho4 := own_base (B' := w.heap.size) ho4 hgl
  replace E3 := E3.trans hE
  clear hgA hE
  have HS0 := hid (⟨F, G, hL⟩ : ∃ F G, LockSt w4 w1.heap.size bt bk bd D (playN D S P 0).2.1 F G)
  clear hL
  go_loopw [13, 15, 16, 17, 18, 19] (fun ov qv _ _ _ _ wr => ∃ j : Nat, j ≤ D.length ∧ (∃ F G, LockSt wr w1.heap.size bt bk bd D (playN D S P j).2.1 F G) ∧ wr.ownsRow w.heap.size 45 2 ov (playN D S P j).2.2.1.length (cP (playN D S P j).2.2.1) ∧ wr.ownsRow w.heap.size 4 1 (.slice (some ⟨gA, 0, none⟩) D.length cA) D.length (cB (playN D S P j).2.2.2) ∧ (∃ aq kq, qv = .slice aq j kq) ∧ wr.ownsRow w.heap.size 3 1 qv j (cN (playN D S P j).1) ∧ Ext w wr) (fun _ qv _ _ _ _ _ => match qv with | .slice _ n _ => D.length - n | _ => 0)
  case atStart => exact ⟨0, Nat.zero_le _, HS0.out, ho3, ho4, ⟨_, _, rfl⟩, World.ownsRow_nil _ _ _ _, E3⟩
  case round =>
    clear HS0 ho3 ho4 E3
    obtain ⟨wq, rfl⟩ : ∃ wq : World, wq = wr := ⟨_, rfl⟩
    obtain ⟨j, hj, ⟨F, G, hL⟩, ho, hb, ⟨aq, kq, rfl⟩, hq, E⟩ := hrel
    obtain ⟨hPI, hlive, hlen⟩ := HI.out j hj
    have LL := left_any hL
    have RD := ready_any hL
    have hxl := HXL.out j
    have hxo := HXO.out j hj
    have HST : Hid (playN D S P (j + 1) = play1 D P (playN D S P j)) := hid rfl
    have hsr := fun h => seq_ready (D := D) (P := P) (s := playN D S P j) h
    obtain ⟨s, hse⟩ : ∃ s, playN D S P j = s := ⟨_, rfl⟩
    simp only [hse] at hL ho hb hq hPI hlive hlen LL RD hxl hxo hsr HST
    have HSE := hid hse
    clear hse
    obtain ⟨ord, g, X, T⟩ := s
    dsimp only at hL ho hb hq hPI hlive hlen LL RD hxl hxo hsr
    have HL := hid hL
    by_cases hjl : j < D.length
    · have hne := ready_some (A := D) (g := g) (n := D.length) (by omega)
      have hR0 : 0 < (readyL D g D.length).length := List.length_pos_iff.2 hne
      have hRl := ready_len D g D.length
      have q0 : ¬ ((liveN g D.length : Int) ≤ 0) := by omega
      have q0' : ((liveN g D.length : Int) > 0) := by omega
      obtain ⟨hs1, hs2, hs3⟩ := ready_mem.1 (hsr (by omega))
      have hpk := pick_lt P ord.length hR0
      have hseq : (readyL D g D.length)[pickN P ord.length (readyL D g D.length).length] = seqN D P (ord, g, X, T) := by
        unfold seqN; exact (getN_at hpk).symm
      have HST2 : Hid (playN D S P (j + 1) = (ord ++ [seqN D P (ord, g, X, T)], goneW g (seqN D P (ord, g, X, T)), runS X (D.getD (seqN D P (ord, g, X, T)) []), T.set (seqN D P (ord, g, X, T)) (runB X (D.getD (seqN D P (ord, g, X, T)) [])))) := HST
      have hTl := hPI.len
      generalize seqN D P (ord, g, X, T) = sq at hs1 hs2 hs3 hseq HST2
      generalize readyL D g D.length = R at hR0 hRl RD hpk hseq
      obtain ⟨pk, hpke⟩ : ∃ pk, pickN P ord.length R.length = pk := ⟨_, rfl⟩
      rw [hlen] at hpke
      simp only [hlen, hpke] at hpk hseq
      have LL := hid LL
      have RD := hid RD
      rw [getD_at hs1] at HST2
      obtain ⟨bD, oD, rfl, hcc⟩ := HC.out (by omega)
      obtain ⟨x1, y1, c1, s1⟩ := hcc sq D[sq] (List.getElem?_eq_getElem hs1)
      have d1 := dok _ (List.getElem_mem hs1)
      have f1 := dsm _ (List.getElem_mem hs1)
      generalize D[sq] = d at c1 s1 d1 f1 HST2
      replace c1 := E.cell c1
      replace s1 := s1.ext E
      obtain ⟨ao, ko, rfl⟩ := own_form ho
      have HS2 := hid hs2
      have HS3 := hid hs3
      have HO := hid ho
      have HBO := hid hb
      have HQ := hid hq
      have HSEQ := hid hseq
      clear hcc hL ho hb hq hPI hsr hne hs2 hs3 hseq HST
      have q1 : ((R.length : Int) == 0) = false := by simp; exact List.length_pos_iff.1 hR0
      have q2 : IntKind.u64.wrap (R.length : Int) = (R.length : Int) := by rw [IntKind.wrap_u64]; omega
      have q3 : ¬ ((R.length : Int) = 0) := by omega
      by_cases hk : j < P.length
      · obtain ⟨bP, oP, rfl, _, p1, p2, hcP⟩ := seg_cells HP.out (by omega)
        unfold maxLen at p2
        have cP0 := E.cell (hcP j _ (cI_at0 P j hk))
        have hp : (wi P[j] (R.length : Int)).toNat = pk := by
          rw [← hpke]; unfold pickN; rw [if_pos hk, getI_at hk]
        generalize P[j] = x at cP0 hp
        have g1 := wi_lo (k := x) (n := (R.length : Int)) (by omega)
        have g2 := wi_hi (k := x) (n := (R.length : Int)) (by omega)
        have q4 : (IntKind.u64.wrap x).tmod (R.length : Int) = (pk : Int) := by
          rw [IntKind.wrap_u64, Int.tmod_eq_emod_of_nonneg (by omega)]
          show wi x (R.length : Int) = _
          omega
        clear hcP hp g1 g2
        go_wp2_with fail
        refine (LL.out).mono ?_
        rintro e w' ⟨rfl, rfl⟩
        go_wp2_with fail
        refine (RD.out).mono ?_
        rintro e w7 ⟨v7, rfl, o7, E7⟩
        obtain ⟨g7, c7, rfl, _, _⟩ := own_form_g o7 hR0
        have ck := own_nat o7 hpk
        rw [HSEQ.out] at ck
        have c1' := E7.cell c1
        have RN := fun w' (E' : Ext w7 w') => run_ok (.slice ao X.length ko) (.slice x1 d.length y1) X d w' ((own_seg HO.out).ext (E7.trans E')) (s1.ext (E7.trans E')) hxo d1 f1 (by omega)
        have RN := hid RN
        clear RD
        have cP1 := E7.cell cP0
        go_wp2_with fail
        refine (RN.out _ (Ext.refl _)).mono ?_
        rintro e w8 ⟨v8, rfl, o8, E8⟩
        obtain ⟨a8, k8, rfl⟩ := own_form o8
        have E78 := E7.trans E8
        have hb8 := own_ext HBO.out E78
        have hq8 := own_ext HQ.out E78
        have hL8 := HL.out.ext E78
        have EW := ((E.trans E78).setCell (p := ⟨gA, sq, none⟩) hgl (.bool (runB X d)))
        obtain ⟨cur, hcur⟩ := own_heap hb8
        obtain ⟨cb8, fb8⟩ := own_bool hb8 (i := sq) (by omega)
        have hbW := own_bool_set hb8 (i := sq) (by omega) (runB X d)
        have oW := own_set_other o8 (own_ne o8 hcur (by decide)) (.bool (runB X d)) (p := ⟨gA, sq, none⟩)
        have qW := own_set_other hq8 (own_ne hq8 hcur (by decide)) (.bool (runB X d)) (p := ⟨gA, sq, none⟩)
        have hLW := hL8.kept hcur (by decide) (by decide) (by decide) (grown_cell w8 gA sq (.bool (runB X d)))
        obtain ⟨W, hW⟩ : ∃ W, w8.setCell ⟨gA, sq, none⟩ (.bool (runB X d)) = W := ⟨_, rfl⟩
        rw [hW] at EW hbW oW qW hLW
        have FR := hid (free_ok hLW sq hs1 HS2.out HS3.out)
        have HLW := hid hLW
        have oW' := own_base (B' := w.heap.size) oW (by have := (E.trans E7).size'; omega)
        clear RN hb8 hq8 hL8 hcur o8 hLW oW E78
        go_wp2_with fail
        refine (FR.out).mono ?_
        rintro e w9 ⟨rfl, ⟨F', G', L9⟩, T9⟩
        have E9 := T9.low EW hB1
        have b9 := T9.own HLW.out hbW (by decide) (by decide)
        have o9 := T9.own HLW.out oW' (by decide) (by decide)
        have r9 := T9.own HLW.out qW (by decide) (by decide)
        have p1' : Seg (w9.alloc (.cells #[.int .i64 (sq : Int)] 3)) (.slice (some ⟨w9.heap.size, 0, none⟩) 1 1) 1 1 [.int .i64 (sq : Int)] := seg_one (heap_alloc_new w9 _)
        have p2' := r9.alloc (.cells #[.int .i64 (sq : Int)] 3)
        have p3' : w.heap.size ≤ (w9.alloc (.cells #[.int .i64 (sq : Int)] 3)).heap.size := by have := E9.size'; simp; omega
        have HL9 := hid L9
        have HB9 := hid b9
        have HO9 := hid o9
        clear FR L9 T9 b9 o9 r9 hbW oW' qW EW
        go_wp2_with (first | (at_builtin; refine (wpList_app rfl _ _ 24 rfl w.heap.size 3 (.int .i64 0) 1 8 Tryz.underlying24 infoI rfl (by decide) _ j (cN ord) rfl p2' _ 1 [.int .i64 (sq : Int)] rfl p1' (one_int _) (by omega) (by unfold maxLen; omega) p3' ?_); intro v' w10 ho' hg))
        have L10 := hid ((HL9.out.ext ((Ext.refl w9).alloc _)).beside' p2' (by decide) (by decide) (by decide) hg)
        have B10 := hid (grown_own hg (HB9.out.alloc _) (own_own_ne (HB9.out.alloc _) p2' (by decide)))
        have O10 := hid (grown_own hg (HO9.out.alloc _) (own_own_ne (HO9.out.alloc _) p2' (by decide)))
        obtain ⟨a10, k10, rfl⟩ := own_form ho'
        have Q10 := hid ho'
        go_roundw
        case rel => exact ⟨j + 1, by omega, by rw [HST2.out]; exact ⟨F', G', L10.out⟩, by rw [HST2.out]; exact O10.out, by rw [HST2.out]; exact B10.out, ⟨_, _, rfl⟩, by rw [HST2.out, cN_app]; exact Q10.out, (E9.alloc _).grown hg (fun k hk => own_ge p2' k hk)⟩
        case measure => simp; omega
      · go_wp2_with fail
        refine (LL.out).mono ?_
        rintro e w' ⟨rfl, rfl⟩
        go_wp2_with fail
        refine (RD.out).mono ?_
        rintro e w7 ⟨v7, rfl, o7, E7⟩
        obtain ⟨g7, c7, rfl, _, _⟩ := own_form_g o7 hR0
        have ck := own_nat o7 hpk
        rw [HSEQ.out] at ck
        have c1' := E7.cell c1
        have RN := fun w' (E' : Ext w7 w') => run_ok (.slice ao X.length ko) (.slice x1 d.length y1) X d w' ((own_seg HO.out).ext (E7.trans E')) (s1.ext (E7.trans E')) hxo d1 f1 (by omega)
        have RN := hid RN
        clear RD
        obtain rfl : pk = 0 := by rw [← hpke]; unfold pickN; rw [if_neg hk]
        go_wp2_with fail
        refine (RN.out _ (Ext.refl _)).mono ?_
        rintro e w8 ⟨v8, rfl, o8, E8⟩
        obtain ⟨a8, k8, rfl⟩ := own_form o8
        have E78 := E7.trans E8
        have hb8 := own_ext HBO.out E78
        have hq8 := own_ext HQ.out E78
        have hL8 := HL.out.ext E78
        have EW := ((E.trans E78).setCell (p := ⟨gA, sq, none⟩) hgl (.bool (runB X d)))
        obtain ⟨cur, hcur⟩ := own_heap hb8
        obtain ⟨cb8, fb8⟩ := own_bool hb8 (i := sq) (by omega)
        have hbW := own_bool_set hb8 (i := sq) (by omega) (runB X d)
        have oW := own_set_other o8 (own_ne o8 hcur (by decide)) (.bool (runB X d)) (p := ⟨gA, sq, none⟩)
        have qW := own_set_other hq8 (own_ne hq8 hcur (by decide)) (.bool (runB X d)) (p := ⟨gA, sq, none⟩)
        have hLW := hL8.kept hcur (by decide) (by decide) (by decide) (grown_cell w8 gA sq (.bool (runB X d)))
        obtain ⟨W, hW⟩ : ∃ W, w8.setCell ⟨gA, sq, none⟩ (.bool (runB X d)) = W := ⟨_, rfl⟩
        rw [hW] at EW hbW oW qW hLW
        have FR := hid (free_ok hLW sq hs1 HS2.out HS3.out)
        have HLW := hid hLW
        have oW' := own_base (B' := w.heap.size) oW (by have := (E.trans E7).size'; omega)
        clear RN hb8 hq8 hL8 hcur o8 hLW oW E78
        go_wp2_with fail
        refine (FR.out).mono ?_
        rintro e w9 ⟨rfl, ⟨F', G', L9⟩, T9⟩
        have E9 := T9.low EW hB1
        have b9 := T9.own HLW.out hbW (by decide) (by decide)
        have o9 := T9.own HLW.out oW' (by decide) (by decide)
        have r9 := T9.own HLW.out qW (by decide) (by decide)
        have p1' : Seg (w9.alloc (.cells #[.int .i64 (sq : Int)] 3)) (.slice (some ⟨w9.heap.size, 0, none⟩) 1 1) 1 1 [.int .i64 (sq : Int)] := seg_one (heap_alloc_new w9 _)
        have p2' := r9.alloc (.cells #[.int .i64 (sq : Int)] 3)
        have p3' : w.heap.size ≤ (w9.alloc (.cells #[.int .i64 (sq : Int)] 3)).heap.size := by have := E9.size'; simp; omega
        have HL9 := hid L9
        have HB9 := hid b9
        have HO9 := hid o9
        clear FR L9 T9 b9 o9 r9 hbW oW' qW EW
        go_wp2_with (first | (at_builtin; refine (wpList_app rfl _ _ 24 rfl w.heap.size 3 (.int .i64 0) 1 8 Tryz.underlying24 infoI rfl (by decide) _ j (cN ord) rfl p2' _ 1 [.int .i64 (sq : Int)] rfl p1' (one_int _) (by omega) (by unfold maxLen; omega) p3' ?_); intro v' w10 ho' hg))
        have L10 := hid ((HL9.out.ext ((Ext.refl w9).alloc _)).beside' p2' (by decide) (by decide) (by decide) hg)
        have B10 := hid (grown_own hg (HB9.out.alloc _) (own_own_ne (HB9.out.alloc _) p2' (by decide)))
        have O10 := hid (grown_own hg (HO9.out.alloc _) (own_own_ne (HO9.out.alloc _) p2' (by decide)))
        obtain ⟨a10, k10, rfl⟩ := own_form ho'
        have Q10 := hid ho'
        go_roundw
        case rel => exact ⟨j + 1, by omega, by rw [HST2.out]; exact ⟨F', G', L10.out⟩, by rw [HST2.out]; exact O10.out, by rw [HST2.out]; exact B10.out, ⟨_, _, rfl⟩, by rw [HST2.out, cN_app]; exact Q10.out, (E9.alloc _).grown hg (fun k hk => own_ge p2' k hk)⟩
        case measure => simp; omega
    · obtain rfl : j = D.length := by omega
      have q0 : liveN g D.length = 0 := by omega
      rw [q0] at LL
      have LL := hid LL
      have hb' := hid hb
      have ho' := hid ho
      have hq' := hid hq
      obtain ⟨ao, ko, rfl⟩ := own_form ho
      clear hL hPI hsr hxl hxo RD hlen
      go_wp2_with fail
      refine (LL.out).mono ?_
      rintro e w9 ⟨rfl, rfl⟩
      go_wp2
      (try simp only [Exit.inBlock, Exit.then])
      refine bodyPost_ret (v := .tuple #[.slice ao X.length ko, .slice (some ⟨gA, 0, none⟩) D.length cA, .slice aq D.length kq, .int .i64 0]) (results_tmp4 (t := 6) (u := 7) (v := 8) (x := 9) rfl _ _ _) rfl ?_
      rw [HSE.out]
      exact ⟨_, _, _, rfl, ho'.out, hb'.out, hq'.out, E⟩
end Go.Proofs.YtghemmmkbpfdhaaGreatDoor
