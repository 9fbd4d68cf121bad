/- Contracts and lemmas for the proof of TopPlan; each theorem states its own conditions. -/
import Derived.Test.YtimchedebcoohaaGreatQTopPlanbf
import Derived.Test.YtimchedebcoohaaGreatQTopPlanaw
import Derived.Test.YtimchedebcoohaaGreatQTopPlanbr
import Derived.Test.YtimchedebcoohaaGreatQTopPlanbc
import Derived.Test.YtimchedebcoohaaGreatQTopPlanba
import Derived.Test.YtimchedebcoohaaGreatQTopPlanbw
import Derived.Test.YtimchedebcoohaaGreatQTopPlanbx
set_option linter.unusedVariables false
set_option linter.unusedSimpArgs false
/- Contracts and lemmas for the proofs of this seat; each theorem states its own conditions. -/
namespace Go.Proofs.YtimchedebcoohaaGreat
open Go.RowKit Go.Maps
/-! writing beside a lock table -/
/-- a row of one's own of another element may be written -/
theorem LockSt.beside {w w' : World} {B bt bk bd : Nat} {A : List Ops} {g : Nat → Bool} {F : ByteArray → Option SV} {G : Int → Option SV} (h : LockSt w B bt bk bd A g F G) {e b : Nat} {cs : Array Value} {fr : Nat × Nat} (hb : w.heap[b]? = some (.cells cs e fr)) (h1 : e ≠ 181) (h2 : e ≠ 177) (h3 : e ≠ 9)
    (hg : w.grownBy w' (some b)) : LockSt w' B bt bk bd A g F G where
  hBt := h.hBt
  hBk := h.hBk
  hBd := h.hBd
  ne := h.ne
  box := by
    have hx := h.box
    rw [hg.block bt (Array.getElem?_eq_some_iff.1 hx).1 (fun e' => by
      injection e' with e'; subst e'; rw [hx] at hb; injection hb with hb; injection hb with _ hb; exact h2 hb.symm)]
    exact hx
  km := by
    obtain ⟨n, D, a, q⟩ := h.km
    refine ⟨n, D, a.kept hg (fun e' => ?_), q⟩
    obtain ⟨es, clock, hm, _⟩ := a
    injection e' with e'; subst e'; rw [hm] at hb; cases hb
  dm := by
    obtain ⟨n, D, a, q⟩ := h.dm
    refine ⟨n, D, a.kept hg (fun e' => ?_), q⟩
    obtain ⟨es, clock, hm, _⟩ := a
    injection e' with e'; subst e'; rw [hm] at hb; cases hb
  keys := fun k => kept_ne hg (h.keys k) (own_ne (h.keys k) hb (fun q => h1 q.symm))
  apart := h.apart
  rows := fun n a b => by obtain ⟨s, e, o⟩ := h.rows n a b; exact ⟨s, e, kept_ne hg o (own_ne o hb (fun q => h3 q.symm))⟩
  nones := h.nones
  later := h.later
  few := h.few
  dok := h.dok
theorem LockSt.beside' {w w' : World} {B bt bk bd : Nat} {A : List Ops} {g : Nat → Bool} {F : ByteArray → Option SV} {G : Int → Option SV} (h : LockSt w B bt bk bd A g F G) {B' e sz n : Nat} {v : Value} {xs : List Value} (ho : w.ownsRow B' e sz v n xs) (h1 : e ≠ 181) (h2 : e ≠ 177) (h3 : e ≠ 9)
    (hg : w.grownBy w' v.ownBlock) : LockSt w' B bt bk bd A g F G := by
  rcases ho.2 with ⟨rfl, _⟩ | ⟨b, cap, cur, rfl, _, hb, _⟩
  · exact h.ext (ext_of_grown' hg)
  · exact h.beside hb h1 h2 h3 hg
end Go.Proofs.YtimchedebcoohaaGreat

/- Contracts and lemmas for the proofs of this seat; each theorem states its own conditions. -/
namespace Go.Proofs.YtimchedebcoohaaGreat
open Go.RowKit
theorem own_nat {w : World} {B n c g : Nat} {l : List Nat} (h : w.ownsRow B 3 1 (.slice (some ⟨g, 0, none⟩) n c) n (cN l)) {i : Nat} (hi : i < l.length) : w.cell? ⟨g, i, none⟩ = some (.int .i64 ((l[i] : Nat) : Int)) := by
  have hl : l.length = n := by have := h.1; simpa [cN] using this
  obtain ⟨_, _, he, _, _, _, hc⟩ := seg_cells (own_seg h) (by omega)
  injection he with he; injection he with he1 he2
  subst he1; subst he2
  have := hc i (.int .i64 ((l[i] : Nat) : Int)) (by simp [cN, hi])
  rw [Nat.zero_add] at this
  exact this
theorem getD_at {D : List Ops} {i : Nat} (h : i < D.length) : D.getD i [] = D[i] := by simp [h]
end Go.Proofs.YtimchedebcoohaaGreat

/- Contracts and lemmas for the proofs of this seat; each theorem states its own conditions. -/
namespace Go.Proofs.YtimchedebcoohaaGreat
open Go.RowKit
/-! plan.Play -/
abbrev PYS := List Nat × (Nat → Bool) × Prs × List Bool
/-- which of so many is taken -/
def pickN (P : List Int) (k r : Nat) : Nat := if k < P.length then (wi (P.getD k 0) r).toNat else 0
def seqN (D : List Ops) (P : List Int) (s : PYS) : Nat := (readyL D s.2.1 D.length).getD (pickN P s.1.length (readyL D s.2.1 D.length).length) 0
def play1 (D : List Ops) (P : List Int) (s : PYS) : PYS := (s.1 ++ [seqN D P s], goneW s.2.1 (seqN D P s), runS s.2.2.1 (D.getD (seqN D P s) []), s.2.2.2.set (seqN D P s) (runB s.2.2.1 (D.getD (seqN D P s) [])))
def playN (D : List Ops) (S : Prs) (P : List Int) : Nat → PYS
  | 0 => ([], fun _ => false, S, List.replicate D.length false)
  | j + 1 => play1 D P (playN D S P j)
theorem pick_lt (P : List Int) (k : Nat) {r : Nat} (h : 0 < r) : pickN P k r < r := by
  unfold pickN
  split
  · have g1 := wi_lo (k := P.getD k 0) (n := r) (by omega)
    have g2 := wi_hi (k := P.getD k 0) (n := r) (by omega)
    omega
  · exact h
theorem seq_ready {D : List Ops} {P : List Int} {s : PYS} (h : 0 < liveN s.2.1 D.length) : seqN D P s ∈ readyL D s.2.1 D.length := by
  have hp : 0 < (readyL D s.2.1 D.length).length := List.length_pos_iff.2 (ready_some h)
  have hl := pick_lt P s.1.length hp
  unfold seqN
  rw [show (readyL D s.2.1 D.length).getD (pickN P s.1.length (readyL D s.2.1 D.length).length) 0 = (readyL D s.2.1 D.length)[pickN P s.1.length (readyL D s.2.1 D.length).length] by simp [hl]]
  exact List.getElem_mem hl
theorem playN_inv (D : List Ops) (S : Prs) (P : List Int) : ∀ j, j ≤ D.length → PlayI D S (playN D S P j).1 (playN D S P j).2.1 (playN D S P j).2.2.1 (playN D S P j).2.2.2 ∧ liveN (playN D S P j).2.1 D.length + j = D.length ∧ (playN D S P j).1.length = j
  | 0, _ => ⟨play_start D S, by rw [show (playN D S P 0).2.1 = fun _ => false from rfl, live_all (fun _ _ => rfl)]; rfl, rfl⟩
  | j + 1, h => by
    obtain ⟨h1, h2, h3⟩ := playN_inv D S P j (by omega)
    have hr := seq_ready (D := D) (P := P) (s := playN D S P j) (by omega)
    obtain ⟨a1, a2, a3⟩ := ready_mem.1 hr
    refine ⟨play_step h1 a1 a2 a3, ?_, ?_⟩
    · have := (live_gone a2 (n := D.length)).1 a1
      show liveN (goneW _ _) D.length + (j + 1) = _
      omega
    · show (_ ++ [_]).length = _
      rw [List.length_append, h3]; rfl
theorem playN_len {D : List Ops} (hD : ∀ d ∈ D, d.length ≤ 8) (S : Prs) (P : List Int) : ∀ j, (playN D S P j).2.2.1.length ≤ S.length + 16 * j
  | 0 => Nat.le_refl _
  | j + 1 => by
    have h1 := playN_len hD S P j
    have h2 := run_len (playN D S P j).2.2.1 (D.getD (seqN D P (playN D S P j)) [])
    have h3 : (D.getD (seqN D P (playN D S P j)) []).length ≤ 8 := by
      rw [List.getD_eq_getElem?_getD]
      cases e : D[seqN D P (playN D S P j)]? with
      | none => simp
      | some d => exact hD d (List.mem_of_getElem? e)
    show (runS _ _).length ≤ _
    omega
theorem playN_ok {D : List Ops} (hD : ∀ d ∈ D, DeedOk d) {S : Prs} (hS : StoreOk S) (P : List Int) : ∀ j, j ≤ D.length → StoreOk (playN D S P j).2.2.1 := fun j hj => by
  obtain ⟨h1, _, _⟩ := playN_inv D S P j hj
  rw [h1.sto]
  refine ser_ok (fun d hd => ?_) hS
  obtain ⟨i, hi, rfl⟩ := List.mem_map.1 hd
  have := h1.lt i hi
  rw [show D.getD i [] = D[i] by simp [this]]
  exact hD _ (List.getElem_mem this)
theorem results_tmp4 {fn : Func} {t u v x : Tmp} (h : fn.results = #[.tmp t, .tmp u, .tmp v, .tmp x]) (tmps : Array Value) (P : Program) (w : World) :
    (results fn tmps).run P w = .ok (.tuple #[tmps.getD t undef, tmps.getD u undef, tmps.getD v undef, tmps.getD x undef]) w := by
  simp [results, h, go_sem]
theorem getN_at {l : List Nat} {i : Nat} (h : i < l.length) : l.getD i 0 = l[i] := by simp [h]
theorem getI_at {l : List Int} {i : Nat} (h : i < l.length) : l.getD i 0 = l[i] := by simp [h]
set_option maxRecDepth 100000 in
set_option maxHeartbeats 4000000 in
theorem play_ok (v vd vp : Value) (S : Prs) (D : List Ops) (P : List Int) (w : World) (hv : Seg w v 2 S.length (cP S)) (hS : StoreOk S) (hlS : S.length ≤ 900000) (hvd : SegDs w vd D) (dok : ∀ d ∈ D, DeedOk d) (dsm : ∀ d ∈ D, ∀ o ∈ d, o.from_.size ≤ 9223372036854775807) (hdl : D.length ≤ 60) (hvp : Seg w vp 1 P.length (cI P)) :
    Calls Tryz.prog 22 #[v, vd, vp] w fun e w' => ∃ v' vb vo, e = .returned (.tuple #[v', vb, vo, .int .i64 0]) ∧ w'.ownsRow w.heap.size 33 2 v' (playN D S P D.length).2.2.1.length (cP (playN D S P D.length).2.2.1) ∧ w'.ownsRow w.heap.size 4 1 vb D.length (cB (playN D S P D.length).2.2.2) ∧ w'.ownsRow w.heap.size 3 1 vo D.length (cN (playN D S P D.length).1) ∧ Ext w w' := by
  have CK := hid (scheck_any v S w hv (store_small hS))
  have HD := hid hvd
  have HI := hid (fun j (hj : j ≤ D.length) => playN_inv D S P j hj)
  have HXL := hid (playN_len (D := D) (fun d h => (dok d h).hi) S P)
  have HXO := hid (playN_ok dok hS P)
  obtain ⟨aD, cD, rfl, hc1, hc2, hcell⟩ := hvd.form
  have HC := hid hcell
  unfold maxLen at hc2
  obtain ⟨aP, kP, rfl⟩ := seg_form hvp
  have HP := hid hvp
  have HE0 := hid (storeErr_ok hS)
  clear hcell hvd hvp
  go_enter Tryz.func22, Tryz.ntmps22
  go_wp2_with fail
  refine (CK.out).mono ?_
  rw [HE0.out]
  rintro e w1 ⟨rfl, E1⟩
  clear CK
  go_wp2_with fail
  refine (laid_ok (.slice aD D.length cD) D w1 (HD.out.ext E1) dok dsm hdl).mono ?_
  rintro e w2 ⟨bt, bk, bd, F, G, rfl, hL, E2⟩
  replace E2 := E1.trans E2
  have hB1 : w.heap.size ≤ w1.heap.size := E1.size'
  go_wp2_with fail
  refine (clone_Pair v S.length (cP S) _ (hv.ext E2) (cP_one _) (by omega)).mono ?_
  rintro e w3 ⟨a3, c3, rfl, ho3, E3⟩
  replace hL := hL.ext E3
  replace E3 := E2.trans E3
  replace ho3 := own_base (B' := w.heap.size) ho3 E2.size'
  clear E2 hv E1
  go_wp2_with (first | (at_make; refine wpList_make_bool _ rfl _ _ rfl D.length rfl rfl (by omega) ?_; intro v' w4 ho4 hf hE; obtain ⟨cA, rfl⟩ := hf))
  obtain ⟨gA, hgA⟩ : ∃ gA, w3.heap.size = gA := ⟨_, rfl⟩
  rw [hgA] at ho4
  simp only [hgA]
  have hgl : w.heap.size ≤ gA := by have := E3.size'; omega
  replace hL := hL.ext hE
  replace ho3 := own_ext ho3 hE
  replace ho4 := own_base (B' := w.heap.size) ho4 hgl
  replace E3 := E3.trans hE
  clear hgA hE
  have HS0 := hid (⟨F, G, hL⟩ : ∃ F G, LockSt w4 w1.heap.size bt bk bd D (playN D S P 0).2.1 F G)
  clear hL
  go_loopw [13, 15, 16, 17, 18, 19] (fun ov qv _ _ _ _ wr => ∃ j : Nat, j ≤ D.length ∧ (∃ F G, LockSt wr w1.heap.size bt bk bd D (playN D S P j).2.1 F G) ∧ wr.ownsRow w.heap.size 33 2 ov (playN D S P j).2.2.1.length (cP (playN D S P j).2.2.1) ∧ wr.ownsRow w.heap.size 4 1 (.slice (some ⟨gA, 0, none⟩) D.length cA) D.length (cB (playN D S P j).2.2.2) ∧ (∃ aq kq, qv = .slice aq j kq) ∧ wr.ownsRow w.heap.size 3 1 qv j (cN (playN D S P j).1) ∧ Ext w wr) (fun _ qv _ _ _ _ _ => match qv with | .slice _ n _ => D.length - n | _ => 0)
  case atStart => exact ⟨0, Nat.zero_le _, HS0.out, ho3, ho4, ⟨_, _, rfl⟩, World.ownsRow_nil _ _ _ _, E3⟩
  case round =>
    clear HS0 ho3 ho4 E3
    obtain ⟨wq, rfl⟩ : ∃ wq : World, wq = wr := ⟨_, rfl⟩
    obtain ⟨j, hj, ⟨F, G, hL⟩, ho, hb, ⟨aq, kq, rfl⟩, hq, E⟩ := hrel
    obtain ⟨hPI, hlive, hlen⟩ := HI.out j hj
    have LL := left_any hL
    have RD := ready_any hL
    have hxl := HXL.out j
    have hxo := HXO.out j hj
    have HST : Hid (playN D S P (j + 1) = play1 D P (playN D S P j)) := hid rfl
    have hsr := fun h => seq_ready (D := D) (P := P) (s := playN D S P j) h
    obtain ⟨s, hse⟩ : ∃ s, playN D S P j = s := ⟨_, rfl⟩
    simp only [hse] at hL ho hb hq hPI hlive hlen LL RD hxl hxo hsr HST
    have HSE := hid hse
    clear hse
    obtain ⟨ord, g, X, T⟩ := s
    dsimp only at hL ho hb hq hPI hlive hlen LL RD hxl hxo hsr
    have HL := hid hL
    by_cases hjl : j < D.length
    · have hne := ready_some (A := D) (g := g) (n := D.length) (by omega)
      have hR0 : 0 < (readyL D g D.length).length := List.length_pos_iff.2 hne
      have hRl := ready_len D g D.length
      have q0 : ¬ ((liveN g D.length : Int) ≤ 0) := by omega
      have q0' : ((liveN g D.length : Int) > 0) := by omega
      obtain ⟨hs1, hs2, hs3⟩ := ready_mem.1 (hsr (by omega))
      have hpk := pick_lt P ord.length hR0
      have hseq : (readyL D g D.length)[pickN P ord.length (readyL D g D.length).length] = seqN D P (ord, g, X, T) := by
        unfold seqN; exact (getN_at hpk).symm
      have HST2 : Hid (playN D S P (j + 1) = (ord ++ [seqN D P (ord, g, X, T)], goneW g (seqN D P (ord, g, X, T)), runS X (D.getD (seqN D P (ord, g, X, T)) []), T.set (seqN D P (ord, g, X, T)) (runB X (D.getD (seqN D P (ord, g, X, T)) [])))) := HST
      have hTl := hPI.len
      generalize seqN D P (ord, g, X, T) = sq at hs1 hs2 hs3 hseq HST2
      generalize readyL D g D.length = R at hR0 hRl RD hpk hseq
      obtain ⟨pk, hpke⟩ : ∃ pk, pickN P ord.length R.length = pk := ⟨_, rfl⟩
      rw [hlen] at hpke
      simp only [hlen, hpke] at hpk hseq
      have LL := hid LL
      have RD := hid RD
      rw [getD_at hs1] at HST2
      obtain ⟨bD, oD, rfl, hcc⟩ := HC.out (by omega)
      obtain ⟨x1, y1, c1, s1⟩ := hcc sq D[sq] (List.getElem?_eq_getElem hs1)
      have d1 := dok _ (List.getElem_mem hs1)
      have f1 := dsm _ (List.getElem_mem hs1)
      generalize D[sq] = d at c1 s1 d1 f1 HST2
      replace c1 := E.cell c1
      replace s1 := s1.ext E
      obtain ⟨ao, ko, rfl⟩ := own_form ho
      have HS2 := hid hs2
      have HS3 := hid hs3
      have HO := hid ho
      have HBO := hid hb
      have HQ := hid hq
      have HSEQ := hid hseq
      clear hcc hL ho hb hq hPI hsr hne hs2 hs3 hseq HST
      have q1 : ((R.length : Int) == 0) = false := by simp; exact List.length_pos_iff.1 hR0
      have q2 : IntKind.u64.wrap (R.length : Int) = (R.length : Int) := by rw [IntKind.wrap_u64]; omega
      have q3 : ¬ ((R.length : Int) = 0) := by omega
      by_cases hk : j < P.length
      · obtain ⟨bP, oP, rfl, _, p1, p2, hcP⟩ := seg_cells HP.out (by omega)
        unfold maxLen at p2
        have cP0 := E.cell (hcP j _ (cI_at0 P j hk))
        have hp : (wi P[j] (R.length : Int)).toNat = pk := by
          rw [← hpke]; unfold pickN; rw [if_pos hk, getI_at hk]
        generalize P[j] = x at cP0 hp
        have g1 := wi_lo (k := x) (n := (R.length : Int)) (by omega)
        have g2 := wi_hi (k := x) (n := (R.length : Int)) (by omega)
        have q4 : (IntKind.u64.wrap x).tmod (R.length : Int) = (pk : Int) := by
          rw [IntKind.wrap_u64, Int.tmod_eq_emod_of_nonneg (by omega)]
          show wi x (R.length : Int) = _
          omega
        clear hcP hp g1 g2
        go_wp2_with fail
        refine (LL.out).mono ?_
        rintro e w' ⟨rfl, rfl⟩
        go_wp2_with fail
        refine (RD.out).mono ?_
        rintro e w7 ⟨v7, rfl, o7, E7⟩
        obtain ⟨g7, c7, rfl, _, _⟩ := own_form_g o7 hR0
        have ck := own_nat o7 hpk
        rw [HSEQ.out] at ck
        have c1' := E7.cell c1
        have RN := fun w' (E' : Ext w7 w') => run_ok (.slice ao X.length ko) (.slice x1 d.length y1) X d w' ((own_seg HO.out).ext (E7.trans E')) (s1.ext (E7.trans E')) hxo d1 f1 (by omega)
        have RN := hid RN
        clear RD
        have cP1 := E7.cell cP0
        go_wp2_with fail
        refine (RN.out _ (Ext.refl _)).mono ?_
        rintro e w8 ⟨v8, rfl, o8, E8⟩
        obtain ⟨a8, k8, rfl⟩ := own_form o8
        have E78 := E7.trans E8
        have hb8 := own_ext HBO.out E78
        have hq8 := own_ext HQ.out E78
        have hL8 := HL.out.ext E78
        have EW := ((E.trans E78).setCell (p := ⟨gA, sq, none⟩) hgl (.bool (runB X d)))
        obtain ⟨cur, hcur⟩ := own_heap hb8
        obtain ⟨cb8, fb8⟩ := own_bool hb8 (i := sq) (by omega)
        have hbW := own_bool_set hb8 (i := sq) (by omega) (runB X d)
        have oW := own_set_other o8 (own_ne o8 hcur (by decide)) (.bool (runB X d)) (p := ⟨gA, sq, none⟩)
        have qW := own_set_other hq8 (own_ne hq8 hcur (by decide)) (.bool (runB X d)) (p := ⟨gA, sq, none⟩)
        have hLW := hL8.kept hcur (by decide) (by decide) (by decide) (grown_cell w8 gA sq (.bool (runB X d)))
        obtain ⟨W, hW⟩ : ∃ W, w8.setCell ⟨gA, sq, none⟩ (.bool (runB X d)) = W := ⟨_, rfl⟩
        rw [hW] at EW hbW oW qW hLW
        have FR := hid (free_ok hLW sq hs1 HS2.out HS3.out)
        have HLW := hid hLW
        have oW' := own_base (B' := w.heap.size) oW (by have := (E.trans E7).size'; omega)
        clear RN hb8 hq8 hL8 hcur o8 hLW oW E78
        go_wp2_with fail
        refine (FR.out).mono ?_
        rintro e w9 ⟨rfl, ⟨F', G', L9⟩, T9⟩
        have E9 := T9.low EW hB1
        have b9 := T9.own HLW.out hbW (by decide) (by decide)
        have o9 := T9.own HLW.out oW' (by decide) (by decide)
        have r9 := T9.own HLW.out qW (by decide) (by decide)
        have p1' : Seg (w9.alloc (.cells #[.int .i64 (sq : Int)] 3)) (.slice (some ⟨w9.heap.size, 0, none⟩) 1 1) 1 1 [.int .i64 (sq : Int)] := seg_one (heap_alloc_new w9 _)
        have p2' := r9.alloc (.cells #[.int .i64 (sq : Int)] 3)
        have p3' : w.heap.size ≤ (w9.alloc (.cells #[.int .i64 (sq : Int)] 3)).heap.size := by have := E9.size'; simp; omega
        have HL9 := hid L9
        have HB9 := hid b9
        have HO9 := hid o9
        clear FR L9 T9 b9 o9 r9 hbW oW' qW EW
        go_wp2_with (first | (at_builtin; refine (wpList_app rfl _ _ 24 rfl w.heap.size 3 (.int .i64 0) 1 8 Tryz.underlying24 infoI rfl (by decide) _ j (cN ord) rfl p2' _ 1 [.int .i64 (sq : Int)] rfl p1' (one_int _) (by omega) (by unfold maxLen; omega) p3' ?_); intro v' w10 ho' hg))
        have L10 := hid ((HL9.out.ext ((Ext.refl w9).alloc _)).beside' p2' (by decide) (by decide) (by decide) hg)
        have B10 := hid (grown_own hg (HB9.out.alloc _) (own_own_ne (HB9.out.alloc _) p2' (by decide)))
        have O10 := hid (grown_own hg (HO9.out.alloc _) (own_own_ne (HO9.out.alloc _) p2' (by decide)))
        obtain ⟨a10, k10, rfl⟩ := own_form ho'
        have Q10 := hid ho'
        go_roundw
        case rel => exact ⟨j + 1, by omega, by rw [HST2.out]; exact ⟨F', G', L10.out⟩, by rw [HST2.out]; exact O10.out, by rw [HST2.out]; exact B10.out, ⟨_, _, rfl⟩, by rw [HST2.out, cN_app]; exact Q10.out, (E9.alloc _).grown hg (fun k hk => own_ge p2' k hk)⟩
        case measure => simp; omega
      · go_wp2_with fail
        refine (LL.out).mono ?_
        rintro e w' ⟨rfl, rfl⟩
        go_wp2_with fail
        refine (RD.out).mono ?_
        rintro e w7 ⟨v7, rfl, o7, E7⟩
        obtain ⟨g7, c7, rfl, _, _⟩ := own_form_g o7 hR0
        have ck := own_nat o7 hpk
        rw [HSEQ.out] at ck
        have c1' := E7.cell c1
        have RN := fun w' (E' : Ext w7 w') => run_ok (.slice ao X.length ko) (.slice x1 d.length y1) X d w' ((own_seg HO.out).ext (E7.trans E')) (s1.ext (E7.trans E')) hxo d1 f1 (by omega)
        have RN := hid RN
        clear RD
        obtain rfl : pk = 0 := by rw [← hpke]; unfold pickN; rw [if_neg hk]
        go_wp2_with fail
        refine (RN.out _ (Ext.refl _)).mono ?_
        rintro e w8 ⟨v8, rfl, o8, E8⟩
        obtain ⟨a8, k8, rfl⟩ := own_form o8
        have E78 := E7.trans E8
        have hb8 := own_ext HBO.out E78
        have hq8 := own_ext HQ.out E78
        have hL8 := HL.out.ext E78
        have EW := ((E.trans E78).setCell (p := ⟨gA, sq, none⟩) hgl (.bool (runB X d)))
        obtain ⟨cur, hcur⟩ := own_heap hb8
        obtain ⟨cb8, fb8⟩ := own_bool hb8 (i := sq) (by omega)
        have hbW := own_bool_set hb8 (i := sq) (by omega) (runB X d)
        have oW := own_set_other o8 (own_ne o8 hcur (by decide)) (.bool (runB X d)) (p := ⟨gA, sq, none⟩)
        have qW := own_set_other hq8 (own_ne hq8 hcur (by decide)) (.bool (runB X d)) (p := ⟨gA, sq, none⟩)
        have hLW := hL8.kept hcur (by decide) (by decide) (by decide) (grown_cell w8 gA sq (.bool (runB X d)))
        obtain ⟨W, hW⟩ : ∃ W, w8.setCell ⟨gA, sq, none⟩ (.bool (runB X d)) = W := ⟨_, rfl⟩
        rw [hW] at EW hbW oW qW hLW
        have FR := hid (free_ok hLW sq hs1 HS2.out HS3.out)
        have HLW := hid hLW
        have oW' := own_base (B' := w.heap.size) oW (by have := (E.trans E7).size'; omega)
        clear RN hb8 hq8 hL8 hcur o8 hLW oW E78
        go_wp2_with fail
        refine (FR.out).mono ?_
        rintro e w9 ⟨rfl, ⟨F', G', L9⟩, T9⟩
        have E9 := T9.low EW hB1
        have b9 := T9.own HLW.out hbW (by decide) (by decide)
        have o9 := T9.own HLW.out oW' (by decide) (by decide)
        have r9 := T9.own HLW.out qW (by decide) (by decide)
        have p1' : Seg (w9.alloc (.cells #[.int .i64 (sq : Int)] 3)) (.slice (some ⟨w9.heap.size, 0, none⟩) 1 1) 1 1 [.int .i64 (sq : Int)] := seg_one (heap_alloc_new w9 _)
        have p2' := r9.alloc (.cells #[.int .i64 (sq : Int)] 3)
        have p3' : w.heap.size ≤ (w9.alloc (.cells #[.int .i64 (sq : Int)] 3)).heap.size := by have := E9.size'; simp; omega
        have HL9 := hid L9
        have HB9 := hid b9
        have HO9 := hid o9
        clear FR L9 T9 b9 o9 r9 hbW oW' qW EW
        go_wp2_with (first | (at_builtin; refine (wpList_app rfl _ _ 24 rfl w.heap.size 3 (.int .i64 0) 1 8 Tryz.underlying24 infoI rfl (by decide) _ j (cN ord) rfl p2' _ 1 [.int .i64 (sq : Int)] rfl p1' (one_int _) (by omega) (by unfold maxLen; omega) p3' ?_); intro v' w10 ho' hg))
        have L10 := hid ((HL9.out.ext ((Ext.refl w9).alloc _)).beside' p2' (by decide) (by decide) (by decide) hg)
        have B10 := hid (grown_own hg (HB9.out.alloc _) (own_own_ne (HB9.out.alloc _) p2' (by decide)))
        have O10 := hid (grown_own hg (HO9.out.alloc _) (own_own_ne (HO9.out.alloc _) p2' (by decide)))
        obtain ⟨a10, k10, rfl⟩ := own_form ho'
        have Q10 := hid ho'
        go_roundw
        case rel => exact ⟨j + 1, by omega, by rw [HST2.out]; exact ⟨F', G', L10.out⟩, by rw [HST2.out]; exact O10.out, by rw [HST2.out]; exact B10.out, ⟨_, _, rfl⟩, by rw [HST2.out, cN_app]; exact Q10.out, (E9.alloc _).grown hg (fun k hk => own_ge p2' k hk)⟩
        case measure => simp; omega
    · obtain rfl : j = D.length := by omega
      have q0 : liveN g D.length = 0 := by omega
      rw [q0] at LL
      have LL := hid LL
      have hb' := hid hb
      have ho' := hid ho
      have hq' := hid hq
      obtain ⟨ao, ko, rfl⟩ := own_form ho
      clear hL hPI hsr hxl hxo RD hlen
      go_wp2_with fail
      refine (LL.out).mono ?_
      rintro e w9 ⟨rfl, rfl⟩
      go_wp2
      (try simp only [Exit.inBlock, Exit.then])
      refine bodyPost_ret (v := .tuple #[.slice ao X.length ko, .slice (some ⟨gA, 0, none⟩) D.length cA, .slice aq D.length kq, .int .i64 0]) (results_tmp4 (t := 6) (u := 7) (v := 8) (x := 9) rfl _ _ _) rfl ?_
      rw [HSE.out]
      exact ⟨_, _, _, rfl, ho'.out, hb'.out, hq'.out, E⟩
end Go.Proofs.YtimchedebcoohaaGreat

/- Contracts and lemmas for the proofs of this seat; each theorem states its own conditions. -/
namespace Go.Proofs.YtimchedebcoohaaGreat
open Go.RowKit
/-! TopPlan: the deeds of a log, one by one -/
def dsTo (L : List Ent) : Nat → List Ops
  | 0 => []
  | k + 1 => dsTo L k ++ if (L.getD k entZ).im = true then [] else [(L.getD k entZ).ops]
theorem dsTo_map {L : List Ent} {k : Nat} (hk : k < L.length) (h : L[k].im = true) : dsTo L (k + 1) = dsTo L k := by
  rw [dsTo, show L.getD k entZ = L[k] by simp [hk], if_pos h, List.append_nil]
theorem dsTo_deed {L : List Ent} {k : Nat} (hk : k < L.length) (h : L[k].im = false) : dsTo L (k + 1) = dsTo L k ++ [L[k].ops] := by
  rw [dsTo, show L.getD k entZ = L[k] by simp [hk], if_neg (by rw [h]; simp)]
theorem dsTo_len (L : List Ent) : ∀ k, (dsTo L k).length ≤ k
  | 0 => Nat.le_refl _
  | k + 1 => by
    have := dsTo_len L k
    rw [dsTo, List.length_append]
    split <;> simp <;> omega
theorem dsTo_mono (L : List Ent) {j : Nat} : ∀ {k : Nat}, j ≤ k → (dsTo L j).length ≤ (dsTo L k).length
  | 0, h => by obtain rfl : j = 0 := by omega
               exact Nat.le_refl _
  | k + 1, h => by
    rcases Nat.lt_or_ge j (k + 1) with e | e
    · have := dsTo_mono L (j := j) (k := k) (by omega)
      rw [dsTo, List.length_append]; omega
    · obtain rfl : j = k + 1 := by omega
      exact Nat.le_refl _
theorem dsTo_ok {L : List Ent} (h : ∀ x ∈ L, EntOk x) : ∀ {k : Nat}, k ≤ L.length → ∀ d ∈ dsTo L k, DeedOk d ∧ ∀ o ∈ d, o.from_.size ≤ 9223372036854775807
  | 0, _, d, hd => by simp [dsTo] at hd
  | k + 1, hk, d, hd => by
    have hl : k < L.length := hk
    have hx := h L[k] (List.getElem_mem hl)
    cases him : L[k].im with
    | true => rw [dsTo_map hl him] at hd; exact dsTo_ok h (by omega) d hd
    | false =>
      rw [dsTo_deed hl him] at hd
      rcases List.mem_append.1 hd with a | a
      · exact dsTo_ok h (by omega) d a
      · simp at a; subst a
        exact ⟨ent_deed hx him, fun o ho => (hx.sz.ops o ho).2⟩
/-- a copy does what the deeds do -/
theorem go_ser (c : Cop) (L : List Ent) : ∀ {k : Nat}, k ≤ L.length → (goC c L k).S = serS c.S (dsTo L k)
  | 0, _ => rfl
  | k + 1, hk => by
    have hl : k < L.length := hk
    rw [← goC_one hl]
    cases him : L[k].im with
    | true => rw [doE_map him, dsTo_map hl him]; exact go_ser c L (by omega)
    | false =>
      rw [doE_deed him, dsTo_deed hl him, (ser_app _ _ _).1, ← go_ser c L (by omega)]; rfl
theorem go_tell (c : Cop) (h0 : c.ok = []) (hd0 : c.dn = 0) (L : List Ent) : ∀ {k : Nat}, k ≤ L.length → (goC c L k).ok.length = k ∧ ∀ j (hj : j < k) (hjl : j < L.length), L[j].im = false → (goC c L k).ok[j]? = (serB c.S (dsTo L k))[(dsTo L j).length]?
  | 0, _ => ⟨by rw [show goC c L 0 = c from rfl, h0]; rfl, fun j hj => absurd hj (Nat.not_lt_zero _)⟩
  | k + 1, hk => by
    have hl : k < L.length := hk
    obtain ⟨i1, i2⟩ := go_tell c h0 hd0 L (k := k) (by omega)
    rw [← goC_one hl]
    cases him : L[k].im with
    | true =>
      rw [doE_map him, dsTo_map hl him]
      refine ⟨by simp [i1], fun j hj hjl hjm => ?_⟩
      have hjk : j < k := by
        rcases Nat.lt_or_ge j k with e | e
        · exact e
        · obtain rfl : j = k := by omega
          rw [him] at hjm; cases hjm
      rw [← i2 j hjk hjl hjm]
      show ((goC c L k).ok ++ [true])[j]? = _
      rw [List.getElem?_append_left (by omega)]
    | false =>
      rw [doE_deed him, dsTo_deed hl him, (ser_app _ _ _).2]
      refine ⟨by simp [i1], fun j hj hjl hjm => ?_⟩
      show ((goC c L k).ok ++ [runB (goC c L k).S L[k].ops])[j]? = _
      rcases Nat.lt_or_ge j k with e | e
      · rw [List.getElem?_append_left (by omega), i2 j e hjl hjm]
        have h1 := dsTo_mono L (j := j + 1) (k := k) e
        rw [dsTo_deed hjl hjm, List.length_append, List.length_singleton] at h1
        rw [List.getElem?_append_left (by rw [serB_len]; omega)]
      · obtain rfl : j = k := by omega
        rw [List.getElem?_append_right (by omega), i1, Nat.sub_self]
        rw [List.getElem?_append_right (by rw [serB_len]; exact Nat.le_refl _), serB_len, Nat.sub_self, go_ser c L (by omega)]
        rfl
/-- a row of deeds that grows -/
structure DsB (w : World) (B : Nat) (v : Value) (us : List Value) (D : List Ops) : Prop where
  row : w.ownsRow B 29 1 v D.length us
  len : us.length = D.length
  own : ∀ (i : Nat) (u : Value) (d : Ops), us[i]? = some u → D[i]? = some d → w.ownsRow 0 37 4 u d.length (cO d)
theorem DsB.ext {w w' : World} {B : Nat} {v : Value} {us : List Value} {D : List Ops} (h : DsB w B v us D) (E : Ext w w') : DsB w' B v us D := ⟨own_ext h.row E, h.len, fun i u d a b => own_ext (h.own i u d a b) E⟩
theorem DsB.kp {w w' : World} {F F' : Nat → Prop} {B : Nat} {v : Value} {us : List Value} {D : List Ops} (h : DsB w B v us D) (ty : TyS w F cTy) (k : Kp F w w' F') : DsB w' B v us D :=
  ⟨k.own h.row (ty.off h.row (by decide)), h.len, fun i u d a b => k.own (h.own i u d a b) (ty.off (h.own i u d a b) (by decide))⟩
theorem DsB.nil (w : World) (B : Nat) : DsB w B (.slice none 0 0) [] [] := ⟨World.ownsRow_nil _ _ _ _, rfl, fun i u d h => by simp at h⟩
theorem DsB.snoc {w w' : World} {B : Nat} {v v' : Value} {us : List Value} {D : List Ops} (h : DsB w B v us D) {u : Value} {d : Ops} (hu : w.ownsRow 0 37 4 u d.length (cO d)) (ho : w'.ownsRow B 29 1 v' (D.length + 1) (us ++ [u])) (hg : w.grownBy w' v.ownBlock) : DsB w' B v' (us ++ [u]) (D ++ [d]) := by
  have hl := h.len
  have k : ∀ {B e sz n : Nat} {x : Value} {xs : List Value}, w.ownsRow B e sz x n xs → e ≠ 29 → w'.ownsRow B e sz x n xs := fun q he => grown_own hg q (own_own_ne q h.row he)
  refine ⟨by simpa using ho, by simp [hl], fun i x y a b => ?_⟩
  rcases Nat.lt_or_ge i us.length with e | e
  · rw [List.getElem?_append_left e] at a
    rw [List.getElem?_append_left (by omega)] at b
    exact k (h.own i x y a b) (by decide)
  · rw [List.getElem?_append_right e] at a
    rw [List.getElem?_append_right (by omega)] at b
    have h0 : i - us.length = 0 := by
      have := (List.getElem?_eq_some_iff.1 a).1; simp at this; omega
    rw [h0] at a; rw [← hl, h0] at b
    simp at a b; subst a; subst b
    exact k hu (by decide)
theorem DsB.seg {w : World} {B : Nat} {v : Value} {us : List Value} {D : List Ops} (h : DsB w B v us D) : SegDs w v D :=
  ⟨us, h.len, by rw [h.len]; exact own_seg h.row, fun i u d a b => own_seg (h.own i u d a b)⟩
theorem FedS.grown {w wr w' : World} {b inp n j : Nat} {c : Cop} {F : Nat → Prop} {cl : List (List Bat)} {op : List Bat} {d : Nat → Nat} (h : FedS w wr b inp n j c F cl op d) {B m : Nat} {v : Value} {xs : List Value} (ho : wr.ownsRow B 29 1 v m xs) (hB : w.heap.size ≤ B) (hg : wr.grownBy w' v.ownBlock) : FedS w w' b inp n j c F cl op d := by
  refine { h with cop := ?_, E := h.E.grown hg (fun k hk => Nat.le_trans hB (own_ge ho k hk)) }
  rcases hq : v.ownBlock with _ | g
  · rw [hq] at hg; exact h.cop.ext (ext_of_grown hg)
  · obtain ⟨cur, hc⟩ := own_some ho hq
    rw [hq] at hg
    exact h.cop.far hc (by decide) hg
theorem EntsK.grown {w w' : World} {F : Nat → Prop} {u : Value} {X : List Ent} (h : EntsK w F u X) {B m : Nat} {v : Value} {xs : List Value} (ho : w.ownsRow B 29 1 v m xs) (hg : w.grownBy w' v.ownBlock) : EntsK w' F u X := by
  rcases hq : v.ownBlock with _ | g
  · rw [hq] at hg; exact h.ext (ext_of_grown hg)
  · obtain ⟨cur, hc⟩ := own_some ho hq
    rw [hq] at hg
    exact h.far hc (by decide) hg
end Go.Proofs.YtimchedebcoohaaGreat
