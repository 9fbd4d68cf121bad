/- Contracts and lemmas for the proof of PlanPlays; each theorem states its own conditions. -/
import Derived.Test.YtghemmmkbpfdhaaGreatDoorQPlanPlaysbv
import Derived.BigRegion
set_option linter.unusedVariables false
set_option linter.unusedSimpArgs false
/- Contracts and lemmas for the proofs of this seat; each theorem states its own conditions. -/
namespace Go.Proofs.YtghemmmkbpfdhaaGreatDoor
open Go.RowKit Go.Maps
/-- what a round of the document's Play keeps -/
structure RPI (w wr : World) (bt gG gA cG cA : Nat) (aD : Option Addr) (cD : Nat) (D : List Ops) (s : PYS) (qv : Value) (j : Nat) : Prop where
  box : wr.heap[bt]? = some (.cells #[.slice aD D.length cD, .slice (some ⟨gG, 0, none⟩) D.length cG] 97 (0, 0))
  gone : wr.ownsRow w.heap.size 4 1 (.slice (some ⟨gG, 0, none⟩) D.length cG) D.length (cB (goneB s.2.1 D.length))
  oks : wr.ownsRow w.heap.size 4 1 (.slice (some ⟨gA, 0, none⟩) D.length cA) D.length (cB s.2.2.2)
  ord : wr.ownsRow w.heap.size 3 1 qv j (cN s.1)
  E : Ext w wr
theorem RPI.ext {w wr w' : World} {bt gG gA cG cA : Nat} {aD : Option Addr} {cD : Nat} {D : List Ops} {s : PYS} {qv : Value} {j : Nat} (h : RPI w wr bt gG gA cG cA aD cD D s qv j) (E : Ext wr w') : RPI w w' bt gG gA cG cA aD cD D s qv j :=
  ⟨E.heap h.box, own_ext h.gone E, own_ext h.oks E, own_ext h.ord E, h.E.trans E⟩
theorem results_tmp3 {fn : Func} {t u v : Tmp} (h : fn.results = #[.tmp t, .tmp u, .tmp v]) (tmps : Array Value) (P : Program) (w : World) :
    (results fn tmps).run P w = .ok (.tuple #[tmps.getD t undef, tmps.getD u undef, tmps.getD v undef]) w := by
  simp [results, h, go_sem]
theorem goneB_set {g : Nat → Bool} {n s : Nat} (hs : s < n) : (goneB g n).set s true = goneB (goneW g s) n := by
  apply List.ext_getElem
  · simp [goneB]
  · intro i h1 h2
    simp only [goneB, List.getElem_set, List.getElem_map, List.getElem_range, goneW]
    by_cases e : s = i
    · subst e; simp
    · rw [if_neg e, if_neg (fun q => e q.symm)]
def RunP (w : World) (okv : Bool) (v : Vls) (d : Ops) (n : Nat) (e : Ending) (w' : World) : Prop := ∃ b' n' D' f', e = .returned (.tuple #[.map (some b'), .bool okv]) ∧ w'.ownsMap Tryz.prog 9 (plainElem Tryz.prog 3) b' n' D' ∧ MapF kS okS dI D' f' ∧ atF f' = stepV v d ∧ FV f' ∧ n' ≤ n + 2 * d.length ∧ Ext w w'
set_option maxRecDepth 100000 in
set_option maxHeartbeats 4000000 in
theorem rplay_any (b n : Nat) (Dm : DU) (f : ByteArray → Option Int) (vd vp : Value) (S : Prs) (D : List Ops) (P : List Int) (w : World) (hown : w.ownsMap Tryz.prog 9 (plainElem Tryz.prog 3) b n Dm) (hF : MapF kS okS dI Dm f) (hfv : FV f)
    (hS : StoreOk S) (hag : atF f = valP S) (hvd : SegDs w vd D) (dok : ∀ d ∈ D, DeedOk d) (hdl : D.length ≤ 60) (hvp : Seg w vp 1 P.length (cI P)) (hn : n ≤ 900000) :
    Calls Tryz.prog 10 #[.map (some b), vd, vp] w fun e w' => ∃ b' n' D' f' vb vo, e = .returned (.tuple #[.map (some b'), vb, vo]) ∧ w'.ownsMap Tryz.prog 9 (plainElem Tryz.prog 3) b' n' D' ∧ MapF kS okS dI D' f' ∧ atF f' = valP (playN D S P D.length).2.2.1 ∧ n' ≤ n + 16 * D.length ∧
      w'.ownsRow w.heap.size 4 1 vb D.length (cB (playN D S P D.length).2.2.2) ∧ w'.ownsRow w.heap.size 3 1 vo D.length (cN (playN D S P D.length).1) ∧ Ext w w' := by
  have HI := hid (fun j (hj : j ≤ D.length) => playN_inv D S P j hj)
  have HXO := hid (playN_ok dok hS P)
  obtain ⟨aD, cD, rfl, hc1, hc2, hcell⟩ := hvd.form
  have HC := hid hcell
  have HD := hid hvd
  unfold maxLen at hc2
  obtain ⟨aP, kP, rfl⟩ := seg_form hvp
  have HP := hid hvp
  have HAG := hid hag
  clear hcell hvd hvp hag
  go_enter Tryz.func10, Tryz.ntmps10
  have tok1 : True := trivial
  have tok2 : True := trivial
  go_wp2_with (first
    | (at_make; have _t := tok1; refine wpList_make_bool _ rfl _ _ rfl D.length rfl rfl (by omega) ?_; intro v' wG hoG hfG hEG; obtain ⟨cG, rfl⟩ := hfG; clear tok1 _t)
    | (at_make; have _t := tok2; refine wpList_make_bool _ rfl _ _ rfl D.length rfl rfl (by omega) ?_; intro v' w4 ho4 hf hE; obtain ⟨cA, rfl⟩ := hf; clear tok2 _t))
  obtain ⟨bt, hbt⟩ : ∃ bt, wG.heap.size = bt := ⟨_, rfl⟩
  have hbl : w.heap.size < bt := by rw [← hbt]; exact (hoG.lt _ rfl).2
  simp only [World.size_alloc, hbt] at ho4 ⊢
  obtain ⟨gA, hgA⟩ : ∃ gA, bt + 1 = gA := ⟨_, rfl⟩
  simp only [hgA] at ho4 ⊢
  have bx := heap_alloc_new wG (.cells #[.slice aD D.length cD, .slice (some ⟨w.heap.size, 0, none⟩) D.length cG] 97)
  rw [hbt] at bx
  have hgl : w.heap.size < gA := by omega
  have R0 : RPI w w4 bt w.heap.size gA cG cA aD cD D (playN D S P 0) (.slice none 0 0) 0 := by
    refine ⟨hE.heap bx, ?_, own_base ho4 (by omega), World.ownsRow_nil _ _ _ _, (hEG.alloc _).trans hE⟩
    have e : goneB (playN D S P 0).2.1 D.length = List.replicate D.length false := by
      apply List.ext_getElem
      · simp [goneB]
      · intro i h1 h2; simp [goneB, playN]
    rw [e]; exact own_ext (hoG.alloc _) hE
  have R0 := hid R0
  have M0 := hid (ownsMap_ext hown ((hEG.alloc _).trans hE))
  have hgne : w.heap.size ≠ gA := by omega
  have hbne : bt ≠ gA := by omega
  have hbne2 : bt ≠ w.heap.size := by omega
  clear hgA hbt hoG hEG ho4 hE bx hown
  go_loopw [0, 11, 12, 13] (fun vm qv _ _ wr => ∃ (j b2 n2 : Nat) (D2 : DU) (g : ByteArray → Option Int), j ≤ D.length ∧ vm = .map (some b2) ∧ wr.ownsMap Tryz.prog 9 (plainElem Tryz.prog 3) b2 n2 D2 ∧ MapF kS okS dI D2 g ∧ atF g = valP (playN D S P j).2.2.1 ∧ FV g ∧ n2 ≤ n + 16 * j ∧ (∃ aq kq, qv = .slice aq j kq) ∧ RPI w wr bt w.heap.size gA cG cA aD cD D (playN D S P j) qv j) (fun _ qv _ _ _ => match qv with | .slice _ n _ => D.length - n | _ => 0)
  case atStart => exact ⟨0, b, n, Dm, f, Nat.zero_le _, rfl, M0.out, hF, HAG.out, hfv, by omega, ⟨_, _, rfl⟩, R0.out⟩
  case round =>
    clear R0 M0
    obtain ⟨wq, rfl⟩ : ∃ wq : World, wq = wr := ⟨_, rfl⟩
    obtain ⟨j, b2, n2, D2, g, hj, rfl, hog, hG, hag, hgv, hn2, ⟨aq, kq, rfl⟩, hR⟩ := hrel
    obtain ⟨hPI, hlive, hlen⟩ := HI.out j hj
    have hxo := HXO.out j hj
    have hTl := hPI.len
    have HST : Hid (playN D S P (j + 1) = play1 D P (playN D S P j)) := hid rfl
    have hsr := fun h => seq_ready (D := D) (P := P) (s := playN D S P j) h
    obtain ⟨s, hse⟩ : ∃ s, playN D S P j = s := ⟨_, rfl⟩
    simp only [hse] at hR hPI hlive hlen hxo hsr HST hag hTl
    have HSE := hid hse
    clear hse
    obtain ⟨ord, gn, X, T⟩ := s
    dsimp only at hR hPI hlive hlen hxo hsr hag hTl
    have HR := hid hR
    have hTab : RTab wq bt D gn aD cD (some ⟨w.heap.size, 0, none⟩) cG := ⟨(blk2 hR.box).1, (blk2 hR.box).2.1, HD.out.ext hR.E, own_seg hR.gone⟩
    by_cases hjl : j < D.length
    · have hne := ready_some (A := D) (g := gn) (n := D.length) (by omega)
      have hR0 : 0 < (readyL D gn D.length).length := List.length_pos_iff.2 hne
      have hRl := ready_len D gn D.length
      obtain ⟨hs1, hs2, hs3⟩ := ready_mem.1 (hsr (by omega))
      have hpk := pick_lt P ord.length hR0
      have hseq : (readyL D gn D.length)[pickN P ord.length (readyL D gn D.length).length] = seqN D P (ord, gn, X, T) := by
        unfold seqN; exact (getN_at hpk).symm
      have HST2 : Hid (playN D S P (j + 1) = (ord ++ [seqN D P (ord, gn, X, T)], goneW gn (seqN D P (ord, gn, X, T)), runS X (D.getD (seqN D P (ord, gn, X, T)) []), T.set (seqN D P (ord, gn, X, T)) (runB X (D.getD (seqN D P (ord, gn, X, T)) [])))) := HST
      have RD := hid (rready_any hTab dok hdl)
      generalize seqN D P (ord, gn, X, T) = sq at hs1 hs2 hs3 hseq HST2
      generalize readyL D gn D.length = R at hR0 hRl RD hpk hseq
      obtain ⟨pk, hpke⟩ : ∃ pk, pickN P ord.length R.length = pk := ⟨_, rfl⟩
      rw [hlen] at hpke
      simp only [hlen, hpke] at hpk hseq
      rw [getD_at hs1] at HST2
      obtain ⟨bD, oD, rfl, hcc⟩ := HC.out (by omega)
      obtain ⟨x1, y1, c1, s1⟩ := hcc sq D[sq] (List.getElem?_eq_getElem hs1)
      have hbD : bD < w.heap.size := World.block_lt_of_cell? _ _ c1
      have d1 := dok _ (List.getElem_mem hs1)
      obtain ⟨rv1, rv2, rv3⟩ := run_val hxo d1.ops
      rw [← hag] at rv2 rv3
      generalize D[sq] = d at c1 s1 d1 HST2 rv2 rv3
      have HRV := hid (And.intro rv2 rv3)
      replace c1 := hR.E.cell c1
      have HS0 := hid s1
      replace s1 := s1.ext hR.E
      have HS1 := hid s1
      have HSEQ := hid hseq
      have HOG := hid hog
      have hd8 := d1.hi
      have hTl2 := hid hTl
      have HAG2 := hid hag
      clear hcc hsr hne hs2 hs3 hseq HST hR s1 rv1 rv2 rv3 hTl hag hTab hog hPI
      have q1 : ((R.length : Int) == 0) = false := by simp; exact List.length_pos_iff.1 hR0
      have q2 : IntKind.u64.wrap (R.length : Int) = (R.length : Int) := by rw [IntKind.wrap_u64]; omega
      have q3 : ¬ ((R.length : Int) = 0) := by omega
      by_cases hk : j < P.length
      · obtain ⟨bP, oP, rfl, _, p1, p2, hcP⟩ := seg_cells HP.out (by omega)
        unfold maxLen at p2
        have cP0 := HR.out.E.cell (hcP j _ (cI_at0 P j hk))
        have hp : (wi P[j] (R.length : Int)).toNat = pk := by
          rw [← hpke]; unfold pickN; rw [if_pos hk, getI_at hk]
        generalize P[j] = x at cP0 hp
        have g1 := wi_lo (k := x) (n := (R.length : Int)) (by omega)
        have g2 := wi_hi (k := x) (n := (R.length : Int)) (by omega)
        have q4 : (IntKind.u64.wrap x).tmod (R.length : Int) = (pk : Int) := by
          rw [IntKind.wrap_u64, Int.tmod_eq_emod_of_nonneg (by omega)]
          show wi x (R.length : Int) = _
          omega
        clear hcP hp g1 g2
        go_wp2_with fail
        refine (RD.out).mono ?_
        rintro e w7 ⟨v7, rfl, o7, E7⟩
        obtain ⟨g7, c7, rfl, hg7, _⟩ := own_form_g o7 hR0
        have ck := own_nat o7 hpk
        rw [HSEQ.out] at ck
        have c1' := E7.cell c1
        have cP1 := E7.cell cP0
        have hwl := HR.out.E.size'
        have hgAl : gA < wq.heap.size := (HR.out.oks.lt _ rfl).2
        clear RD
        obtain ⟨okv, hokv⟩ : ∃ okv, okV (atF g) d = okv := ⟨_, rfl⟩
        have KM : Hid (∀ w', Kep w7 ⟨gA, sq, none⟩ (.bool okv) w' → w'.ownsMap Tryz.prog 9 (plainElem Tryz.prog 3) b2 n2 D2) := hid (by
          intro w' k
          have h0 := ownsMap_ext HOG.out E7
          have r0 := own_ext HR.out.oks E7
          rcases k with k | k
          · exact ownsMap_ext h0 k
          · exact ownsMap_ext (h0.kept (grown_cell w7 gA sq (.bool okv)) (map_row_ne h0 r0)) k)
        have EW := HR.out.E.trans E7
        have KS : Hid (∀ w', Kep w7 ⟨gA, sq, none⟩ (.bool okv) w' → Seg w' (.slice x1 d.length y1) 4 d.length (cO d)) := hid (by
          intro w' k
          rcases k with k | k
          · exact HS0.out.ext (EW.trans k)
          · exact HS0.out.ext ((EW.setCell (p := ⟨gA, sq, none⟩) (by show w.heap.size ≤ gA; omega) (.bool okv)).trans k))
        have KB : Hid (∀ w', Kep w7 ⟨gA, sq, none⟩ (.bool okv) w' → ∃ T' : List Bool, w'.ownsRow w.heap.size 4 1 (.slice (some ⟨gA, 0, none⟩) D.length cA) D.length (cB T') ∧ T'.length = D.length) := hid (by
          intro w' k
          have r0 := own_ext HR.out.oks E7
          rcases k with k | k
          · exact ⟨_, own_ext r0 k, hTl2.out⟩
          · exact ⟨_, own_ext (own_bool_set r0 (i := sq) (by rw [hTl2.out]; exact hs1) okv) k, by rw [List.length_set]; exact hTl2.out⟩)
        have RN : Hid (∀ w', Kep w7 ⟨gA, sq, none⟩ (.bool okv) w' → Calls Tryz.prog 22 #[.map (some b2), .agg #[.slice x1 d.length y1]] w' fun e wa => RunP w' okv (atF g) d n2 e wa) := hid (by
          intro w' k
          have q := rrun_any b2 n2 D2 g (.slice x1 d.length y1) d w' (KM.out w' k) hG hgv (KS.out w' k) d1 (by omega)
          rw [hokv] at q
          exact q)
        have hS0 := hid (show w7.cell? ⟨g7, pk, none⟩ = some (.int .i64 (sq : Int)) ∧ w7.cell? ⟨bD, oD + sq, none⟩ = some (.slice x1 d.length y1) ∧ Kep w7 ⟨gA, sq, none⟩ (.bool okv) w7 from ⟨ck, c1', .inl (Ext.refl _)⟩)
        have nn1 : gA ≠ g7 := by omega
        have nn2 : gA ≠ bD := by omega
        have E7s := E7.size'
        have HW7 := hid (show gA < w7.heap.size by omega)
        have HE7 := hid E7
        have HKV := hid hokv
        have HEW := hid EW
        have hsT : sq < D.length := hs1
        clear KM KS hokv hG hgv E7 EW
        go_wp2_with fail
        go_region_held3 (fun w' => w'.cell? ⟨g7, pk, none⟩ = some (.int .i64 (sq : Int)) ∧ w'.cell? ⟨bD, oD + sq, none⟩ = some (.slice x1 d.length y1) ∧ Kep w7 ⟨gA, sq, none⟩ (.bool okv) w')
          (first
            | (refine kepE hS0.out ?_; (repeat (first | (with_reducible assumption) | (with_reducible exact Ext.refl _) | (with_reducible refine Ext.drew ?_) | (with_reducible refine Ext.drewN ?_ _) | (with_reducible refine Ext.alloc ?_ _) | (with_reducible refine Ext.trans ?_ (by with_reducible assumption)))); done)
            | (exact kepE (by assumption) hea)
            | (exact kepS hSa.out nn1 nn2))
          (first
            | (go_at_call 22; refine (RN.out _ ?_).mono ?_
               (apply And.right; apply And.right; assumption)
               rintro e wa ⟨b3, n3, D3, g3, rfl, hm3, hG3, hag3, hgv3, hn3, hea⟩
               have hSa := hid (kepE (by assumption) hea)
               have hBo := KB.out _ hSa.out.2.2
               rcases hBo with ⟨T', hT1, hT2⟩
               have hCe := own_bool hT1 (i := sq) (by omega)
               rcases hCe with ⟨hCe1, hCe2⟩
               have hTT := hid hT1
               clear hT1))
        have hp7 := HR.out.ext HE7.out
        have hTl7 := hTl2.out
        obtain ⟨cur7, hcur7⟩ := own_heap hp7.oks
        have E10 := hSa.out.2.2.set
        have xbF := E10.heap (heap_set_far (p := ⟨gA, sq, none⟩) (u := .bool okv) hp7.box hbne)
        have goF := own_ext (own_set_other hp7.gone (p := ⟨gA, sq, none⟩) (fun e => hgne (by injection e)) (.bool okv)) E10
        have okF := own_ext (own_bool_set hp7.oks (i := sq) (by show sq < T.length; omega) okv) E10
        have orF := own_ext (own_set_other hp7.ord (p := ⟨gA, sq, none⟩) (own_ne hp7.ord hcur7 (by decide)) (.bool okv)) E10
        have EF := (HEW.out.setCell (p := ⟨gA, sq, none⟩) (by show w.heap.size ≤ gA; omega) (.bool okv)).trans E10
        have ckF := (kepS hSa.out nn1 nn2).1
        have mF := hm3.kept (grown_cell wa gA sq (.bool okv)) (map_row_ne hm3 hTT.out)
        obtain ⟨wF, hwF⟩ : ∃ wF, wa.setCell ⟨gA, sq, none⟩ (.bool okv) = wF := ⟨_, rfl⟩
        rw [hwF] at xbF goF okF orF EF ckF mF
        simp only [hwF]
        obtain ⟨cF, fF⟩ := own_bool goF (i := sq) (by rw [goneB_len]; exact hsT)
        have yF := blk2 xbF
        have HX := hid xbF
        have HGO := hid goF
        have HOK := hid okF
        have HOR := hid orF
        have HMF := hid mF
        have HAG3 := hid hag3
        clear hp7 hTl7 hcur7 E10 xbF goF okF orF mF hSa hTT hCe1 hCe2 hm3 hwF hea hag3 hS0 RN KB c1' ck
        go_wp2_with fail
        go_region
        have hcurF := own_heap HGO.out
        rcases hcurF with ⟨curF, hcurF⟩
        have EH : Ext w ((wF.setCell ⟨w.heap.size, sq, none⟩ (.bool true)).drew) := (EF.setCell (p := ⟨w.heap.size, sq, none⟩) (Nat.le_refl _) (.bool true)).drew
        have D1 : Ext (wF.setCell ⟨w.heap.size, sq, none⟩ (.bool true)) ((wF.setCell ⟨w.heap.size, sq, none⟩ (.bool true)).drew) := (Ext.refl _).drew
        have xbH := D1.heap (heap_set_far (p := ⟨w.heap.size, sq, none⟩) (u := .bool true) HX.out hbne2)
        have goH := own_ext (own_bool_set HGO.out (i := sq) (by rw [goneB_len]; exact hsT) true) D1
        rw [show (goneB (ord, gn, X, T).2.1 D.length).set sq true = goneB (goneW gn sq) D.length from goneB_set hsT] at goH
        have okH := own_ext (own_set_other HOK.out (p := ⟨w.heap.size, sq, none⟩) (fun e => hgne (by injection e with e; exact e.symm)) (.bool true)) D1
        have orH := own_ext (own_set_other HOR.out (p := ⟨w.heap.size, sq, none⟩) (own_ne HOR.out hcurF (by decide)) (.bool true)) D1
        have mH := ownsMap_ext (HMF.out.kept (grown_cell wF w.heap.size sq (.bool true)) (map_row_ne HMF.out HGO.out)) D1
        have ckH := D1.cell (cell_set_far (v := .bool true) ckF (p := ⟨w.heap.size, sq, none⟩) (by show w.heap.size ≠ g7; omega))
        have hwH : ∃ wH, (wF.setCell ⟨w.heap.size, sq, none⟩ (.bool true)).drew = wH := ⟨_, rfl⟩
        rcases hwH with ⟨wH, hwH⟩
        rw [hwH] at EH xbH goH okH orH mH ckH
        simp only [hwH]
        have HXH := hid xbH
        have HGH := hid goH
        have HKH := hid okH
        have HMH := hid mH
        have p1' : Seg (wH.alloc (.cells #[.int .i64 (sq : Int)] 3)) (.slice (some ⟨wH.heap.size, 0, none⟩) 1 1) 1 1 [.int .i64 (sq : Int)] := seg_one (heap_alloc_new wH _)
        have p2' := orH.alloc (.cells #[.int .i64 (sq : Int)] 3)
        have p3' : w.heap.size ≤ (wH.alloc (.cells #[.int .i64 (sq : Int)] 3)).heap.size := by have := EH.size'; simp; omega
        clear hwH D1 xbH goH okH mH hcurF yF cF fF ckF EF HX HGO HOK HMF
        go_wp2_with (first | (at_builtin; refine (wpList_app rfl _ _ 24 rfl w.heap.size 3 (.int .i64 0) 1 8 Tryz.underlying24 infoI rfl (by decide) _ j (cN ord) rfl p2' _ 1 [.int .i64 (sq : Int)] rfl p1' (one_int _) (by omega) (by unfold maxLen; omega) p3' ?_); intro v' w10 ho' hg))
        have A1 := (Ext.refl wH).alloc (.cells #[.int .i64 (sq : Int)] 3)
        have XB := hid (grown_heap hg (A1.heap HXH.out) (own_ne p2' (A1.heap HXH.out) (by decide)))
        have GB := hid (grown_own hg (own_ext HGH.out A1) (own_own_ne (own_ext HGH.out A1) p2' (by decide)))
        have KB := hid (grown_own hg (own_ext HKH.out A1) (own_own_ne (own_ext HKH.out A1) p2' (by decide)))
        have MB := hid ((ownsMap_ext HMH.out A1).kept hg (map_row_ne (ownsMap_ext HMH.out A1) p2'))
        have EB := hid ((EH.trans A1).grown hg (fun k hk => own_ge p2' k hk))
        have hfv' := own_form ho'
        rcases hfv' with ⟨a10, k10, rfl⟩
        have Q10 := hid ho'
        have HNX := hid (show atF g3 = valP (runS X d) by rw [HAG3.out, HRV.out.1])
        have HBX := hid (show okv = runB X d by rw [← HKV.out, HRV.out.2])
        clear ho' p1' p2' p3' hg A1 EH orH ckH
        go_roundw
        case rel => exact ⟨j + 1, b3, n3, D3, g3, by omega, rfl, MB.out, hG3, by rw [HST2.out]; exact HNX.out, hgv3, by omega, ⟨_, _, rfl⟩, by rw [HST2.out]; exact ⟨XB.out, GB.out, by have q := KB.out; rw [HBX.out] at q; exact q, by show World.ownsRow _ _ _ _ _ _ (cN (ord ++ [sq])); rw [cN_app]; exact Q10.out, EB.out⟩⟩
        case measure => simp; omega
      · obtain rfl : pk = 0 := by rw [← hpke]; unfold pickN; rw [if_neg hk]
        go_wp2_with fail
        refine (RD.out).mono ?_
        rintro e w7 ⟨v7, rfl, o7, E7⟩
        obtain ⟨g7, c7, rfl, hg7, _⟩ := own_form_g o7 hR0
        have ck := own_nat o7 hpk
        rw [HSEQ.out] at ck
        have c1' := E7.cell c1
        have hwl := HR.out.E.size'
        have hgAl : gA < wq.heap.size := (HR.out.oks.lt _ rfl).2
        clear RD
        obtain ⟨okv, hokv⟩ : ∃ okv, okV (atF g) d = okv := ⟨_, rfl⟩
        have KM : Hid (∀ w', Kep w7 ⟨gA, sq, none⟩ (.bool okv) w' → w'.ownsMap Tryz.prog 9 (plainElem Tryz.prog 3) b2 n2 D2) := hid (by
          intro w' k
          have h0 := ownsMap_ext HOG.out E7
          have r0 := own_ext HR.out.oks E7
          rcases k with k | k
          · exact ownsMap_ext h0 k
          · exact ownsMap_ext (h0.kept (grown_cell w7 gA sq (.bool okv)) (map_row_ne h0 r0)) k)
        have EW := HR.out.E.trans E7
        have KS : Hid (∀ w', Kep w7 ⟨gA, sq, none⟩ (.bool okv) w' → Seg w' (.slice x1 d.length y1) 4 d.length (cO d)) := hid (by
          intro w' k
          rcases k with k | k
          · exact HS0.out.ext (EW.trans k)
          · exact HS0.out.ext ((EW.setCell (p := ⟨gA, sq, none⟩) (by show w.heap.size ≤ gA; omega) (.bool okv)).trans k))
        have KB : Hid (∀ w', Kep w7 ⟨gA, sq, none⟩ (.bool okv) w' → ∃ T' : List Bool, w'.ownsRow w.heap.size 4 1 (.slice (some ⟨gA, 0, none⟩) D.length cA) D.length (cB T') ∧ T'.length = D.length) := hid (by
          intro w' k
          have r0 := own_ext HR.out.oks E7
          rcases k with k | k
          · exact ⟨_, own_ext r0 k, hTl2.out⟩
          · exact ⟨_, own_ext (own_bool_set r0 (i := sq) (by rw [hTl2.out]; exact hs1) okv) k, by rw [List.length_set]; exact hTl2.out⟩)
        have RN : Hid (∀ w', Kep w7 ⟨gA, sq, none⟩ (.bool okv) w' → Calls Tryz.prog 22 #[.map (some b2), .agg #[.slice x1 d.length y1]] w' fun e wa => RunP w' okv (atF g) d n2 e wa) := hid (by
          intro w' k
          have q := rrun_any b2 n2 D2 g (.slice x1 d.length y1) d w' (KM.out w' k) hG hgv (KS.out w' k) d1 (by omega)
          rw [hokv] at q
          exact q)
        have hS0 := hid (show w7.cell? ⟨g7, 0, none⟩ = some (.int .i64 (sq : Int)) ∧ w7.cell? ⟨bD, oD + sq, none⟩ = some (.slice x1 d.length y1) ∧ Kep w7 ⟨gA, sq, none⟩ (.bool okv) w7 from ⟨ck, c1', .inl (Ext.refl _)⟩)
        have nn1 : gA ≠ g7 := by omega
        have nn2 : gA ≠ bD := by omega
        have E7s := E7.size'
        have HW7 := hid (show gA < w7.heap.size by omega)
        have HE7 := hid E7
        have HKV := hid hokv
        have HEW := hid EW
        have hsT : sq < D.length := hs1
        clear KM KS hokv hG hgv E7 EW
        go_wp2_with fail
        go_region_held3 (fun w' => w'.cell? ⟨g7, 0, none⟩ = some (.int .i64 (sq : Int)) ∧ w'.cell? ⟨bD, oD + sq, none⟩ = some (.slice x1 d.length y1) ∧ Kep w7 ⟨gA, sq, none⟩ (.bool okv) w')
          (first
            | (refine kepE hS0.out ?_; (repeat (first | (with_reducible assumption) | (with_reducible exact Ext.refl _) | (with_reducible refine Ext.drew ?_) | (with_reducible refine Ext.drewN ?_ _) | (with_reducible refine Ext.alloc ?_ _) | (with_reducible refine Ext.trans ?_ (by with_reducible assumption)))); done)
            | (exact kepE (by assumption) hea)
            | (exact kepS hSa.out nn1 nn2))
          (first
            | (go_at_call 22; refine (RN.out _ ?_).mono ?_
               (apply And.right; apply And.right; assumption)
               rintro e wa ⟨b3, n3, D3, g3, rfl, hm3, hG3, hag3, hgv3, hn3, hea⟩
               have hSa := hid (kepE (by assumption) hea)
               have hBo := KB.out _ hSa.out.2.2
               rcases hBo with ⟨T', hT1, hT2⟩
               have hCe := own_bool hT1 (i := sq) (by omega)
               rcases hCe with ⟨hCe1, hCe2⟩
               have hTT := hid hT1
               clear hT1))
        have hp7 := HR.out.ext HE7.out
        have hTl7 := hTl2.out
        obtain ⟨cur7, hcur7⟩ := own_heap hp7.oks
        have E10 := hSa.out.2.2.set
        have xbF := E10.heap (heap_set_far (p := ⟨gA, sq, none⟩) (u := .bool okv) hp7.box hbne)
        have goF := own_ext (own_set_other hp7.gone (p := ⟨gA, sq, none⟩) (fun e => hgne (by injection e)) (.bool okv)) E10
        have okF := own_ext (own_bool_set hp7.oks (i := sq) (by show sq < T.length; omega) okv) E10
        have orF := own_ext (own_set_other hp7.ord (p := ⟨gA, sq, none⟩) (own_ne hp7.ord hcur7 (by decide)) (.bool okv)) E10
        have EF := (HEW.out.setCell (p := ⟨gA, sq, none⟩) (by show w.heap.size ≤ gA; omega) (.bool okv)).trans E10
        have ckF := (kepS hSa.out nn1 nn2).1
        have mF := hm3.kept (grown_cell wa gA sq (.bool okv)) (map_row_ne hm3 hTT.out)
        obtain ⟨wF, hwF⟩ : ∃ wF, wa.setCell ⟨gA, sq, none⟩ (.bool okv) = wF := ⟨_, rfl⟩
        rw [hwF] at xbF goF okF orF EF ckF mF
        simp only [hwF]
        obtain ⟨cF, fF⟩ := own_bool goF (i := sq) (by rw [goneB_len]; exact hsT)
        have yF := blk2 xbF
        have HX := hid xbF
        have HGO := hid goF
        have HOK := hid okF
        have HOR := hid orF
        have HMF := hid mF
        have HAG3 := hid hag3
        clear hp7 hTl7 hcur7 E10 xbF goF okF orF mF hSa hTT hCe1 hCe2 hm3 hwF hea hag3 hS0 RN KB c1' ck
        go_wp2_with fail
        go_region
        have hcurF := own_heap HGO.out
        rcases hcurF with ⟨curF, hcurF⟩
        have EH : Ext w ((wF.setCell ⟨w.heap.size, sq, none⟩ (.bool true)).drew) := (EF.setCell (p := ⟨w.heap.size, sq, none⟩) (Nat.le_refl _) (.bool true)).drew
        have D1 : Ext (wF.setCell ⟨w.heap.size, sq, none⟩ (.bool true)) ((wF.setCell ⟨w.heap.size, sq, none⟩ (.bool true)).drew) := (Ext.refl _).drew
        have xbH := D1.heap (heap_set_far (p := ⟨w.heap.size, sq, none⟩) (u := .bool true) HX.out hbne2)
        have goH := own_ext (own_bool_set HGO.out (i := sq) (by rw [goneB_len]; exact hsT) true) D1
        rw [show (goneB (ord, gn, X, T).2.1 D.length).set sq true = goneB (goneW gn sq) D.length from goneB_set hsT] at goH
        have okH := own_ext (own_set_other HOK.out (p := ⟨w.heap.size, sq, none⟩) (fun e => hgne (by injection e with e; exact e.symm)) (.bool true)) D1
        have orH := own_ext (own_set_other HOR.out (p := ⟨w.heap.size, sq, none⟩) (own_ne HOR.out hcurF (by decide)) (.bool true)) D1
        have mH := ownsMap_ext (HMF.out.kept (grown_cell wF w.heap.size sq (.bool true)) (map_row_ne HMF.out HGO.out)) D1
        have ckH := D1.cell (cell_set_far (v := .bool true) ckF (p := ⟨w.heap.size, sq, none⟩) (by show w.heap.size ≠ g7; omega))
        have hwH : ∃ wH, (wF.setCell ⟨w.heap.size, sq, none⟩ (.bool true)).drew = wH := ⟨_, rfl⟩
        rcases hwH with ⟨wH, hwH⟩
        rw [hwH] at EH xbH goH okH orH mH ckH
        simp only [hwH]
        have HXH := hid xbH
        have HGH := hid goH
        have HKH := hid okH
        have HMH := hid mH
        have p1' : Seg (wH.alloc (.cells #[.int .i64 (sq : Int)] 3)) (.slice (some ⟨wH.heap.size, 0, none⟩) 1 1) 1 1 [.int .i64 (sq : Int)] := seg_one (heap_alloc_new wH _)
        have p2' := orH.alloc (.cells #[.int .i64 (sq : Int)] 3)
        have p3' : w.heap.size ≤ (wH.alloc (.cells #[.int .i64 (sq : Int)] 3)).heap.size := by have := EH.size'; simp; omega
        clear hwH D1 xbH goH okH mH hcurF yF cF fF ckF EF HX HGO HOK HMF
        go_wp2_with (first | (at_builtin; refine (wpList_app rfl _ _ 24 rfl w.heap.size 3 (.int .i64 0) 1 8 Tryz.underlying24 infoI rfl (by decide) _ j (cN ord) rfl p2' _ 1 [.int .i64 (sq : Int)] rfl p1' (one_int _) (by omega) (by unfold maxLen; omega) p3' ?_); intro v' w10 ho' hg))
        have A1 := (Ext.refl wH).alloc (.cells #[.int .i64 (sq : Int)] 3)
        have XB := hid (grown_heap hg (A1.heap HXH.out) (own_ne p2' (A1.heap HXH.out) (by decide)))
        have GB := hid (grown_own hg (own_ext HGH.out A1) (own_own_ne (own_ext HGH.out A1) p2' (by decide)))
        have KB := hid (grown_own hg (own_ext HKH.out A1) (own_own_ne (own_ext HKH.out A1) p2' (by decide)))
        have MB := hid ((ownsMap_ext HMH.out A1).kept hg (map_row_ne (ownsMap_ext HMH.out A1) p2'))
        have EB := hid ((EH.trans A1).grown hg (fun k hk => own_ge p2' k hk))
        have hfv' := own_form ho'
        rcases hfv' with ⟨a10, k10, rfl⟩
        have Q10 := hid ho'
        have HNX := hid (show atF g3 = valP (runS X d) by rw [HAG3.out, HRV.out.1])
        have HBX := hid (show okv = runB X d by rw [← HKV.out, HRV.out.2])
        clear ho' p1' p2' p3' hg A1 EH orH ckH
        go_roundw
        case rel => exact ⟨j + 1, b3, n3, D3, g3, by omega, rfl, MB.out, hG3, by rw [HST2.out]; exact HNX.out, hgv3, by omega, ⟨_, _, rfl⟩, by rw [HST2.out]; exact ⟨XB.out, GB.out, by have q := KB.out; rw [HBX.out] at q; exact q, by show World.ownsRow _ _ _ _ _ _ (cN (ord ++ [sq])); rw [cN_app]; exact Q10.out, EB.out⟩⟩
        case measure => simp; omega
    · obtain rfl : j = D.length := by omega
      have HOG := hid hog
      have HAG2 := hid hag
      clear hTab hPI hsr hR hog hag
      go_wp2
      (try simp only [Exit.inBlock, Exit.then])
      refine bodyPost_ret (v := .tuple #[.map (some b2), .slice (some ⟨gA, 0, none⟩) D.length cA, .slice aq D.length kq]) (results_tmp3 (t := 6) (u := 7) (v := 8) rfl _ _ _) rfl ?_
      rw [HSE.out]
      exact ⟨b2, n2, D2, g, _, _, rfl, HOG.out, hG, HAG2.out, hn2, HR.out.oks, HR.out.ord, HR.out.E⟩
end Go.Proofs.YtghemmmkbpfdhaaGreatDoor
