/- Contracts and lemmas for the proof of TopPlan; each theorem states its own conditions. -/
import Derived.Test.YtimchedebcoohaaGreatQTopPlanbd
import Derived.Test.YtimchedebcoohaaGreatQTopPlanah
import Derived.Test.YtimchedebcoohaaGreatQTopPlanan
import Derived.Test.YtimchedebcoohaaGreatQTopPlanbc
import Derived.Test.YtimchedebcoohaaGreatQTopPlanaf
import Derived.Test.YtimchedebcoohaaGreatQTopPlanas
import Derived.Test.YtimchedebcoohaaGreatQTopPlanar
import Derived.Test.YtimchedebcoohaaGreatQTopPlanat
import Derived.Test.YtimchedebcoohaaGreatQTopPlanaw
set_option linter.unusedVariables false
set_option linter.unusedSimpArgs false
/- Contracts and lemmas for the proofs of this seat; each theorem states its own conditions. -/
namespace Go.Proofs.YtimchedebcoohaaGreat
open Go.RowKit
/-! shard.Part -/
def partP (C : List ByteArray) (O : List Int) (l : Prs) (n : Int) : Prs := l.filter fun x => !(whose C O x.1 != n)
theorem whose_rng {C : List ByteArray} {O : List Int} (h : MapOk C O) (k : ByteArray) : 0 ≤ whose C O k ∧ whose C O k < 4 := by
  have hl := h.len
  have hp := plc_le h.srt k
  rw [whose_plc]
  have hlt : plc C k < O.length := by omega
  have e : O.getD (plc C k) 0 = O[plc C k] := by simp [hlt]
  rw [e]
  exact mem_range_of h.own _ (List.getElem_mem hlt)
set_option maxRecDepth 10000 in
set_option maxHeartbeats 1000000 in
theorem part1_any (x : ByteArray × Int) (bm bo : Nat) (c o : Value) (C : List ByteArray) (O : List Int) (n : Int) (w : World) (hbm : w.heap[bm]? = some (.cells #[c, o] 26 (0, 0))) (hbo : w.cell? ⟨bo, 0, none⟩ = some (.int .i64 n)) (hm : IsMap w (.agg #[c, o]) C O) (ok : MapOk C O) :
    Calls Tryz.prog 77 #[.agg #[.string x.1, .int .i64 x.2], .pointer (some ⟨bm, 0, none⟩), .pointer (some ⟨bo, 0, none⟩)] w fun e w' => e = .returned (.bool (whose C O x.1 != n)) ∧ Ext w w' := by
  have E0 := (Ext.refl w).alloc (.cells #[.string x.1, .int .i64 x.2] 33)
  have xb := blk2 (heap_alloc_new w (.cells #[.string x.1, .int .i64 x.2] 33))
  have xm := blk2 (E0.heap hbm)
  have xo := E0.cell hbo
  have few := ok.few
  have W := fun w' (E : Ext (w.alloc (.cells #[.string x.1, .int .i64 x.2] 33)) w') => of_any (.agg #[c, o]) C O x.1 w' (hm.ext (E0.trans E)) ok.srt ok.len (by omega)
  have W := hid W
  generalize whose C O x.1 = z at W ⊢
  obtain ⟨key, u⟩ := x
  dsimp only at *
  clear hm hbm hbo
  generalize hw : w.alloc (.cells #[.string key, .int .i64 u] 33) = w0 at E0 xb xm xo W
  go_enter Tryz.func77, Tryz.ntmps77
  go_wp2_with fail
  refine wp_region_ph [.k (.agg #[c, o]), .k (.pointer (some ⟨w.heap.size, 0, none⟩)), .k (.string key), .k (.int .i64 z), .k (.int .i64 n), .k (.bool (z != n))] [] (by kernel_rfl) (by kernel_rfl) (by kernel_rfl) rfl rfl ?hs ?hC ?he
  case hC =>
    intro i hi
    simp at hi
  case hs =>
    refine ⟨?_, ?_, ?_, ?_, ?_, ?_, trivial⟩
    all_goals (
      intro x w' hE hd
      try simp [PhDeps, at_k, at_p, at_t, at_any, Region.binds] at hd
      try ((with_reducible refine Exists.elim hd ?_); clear hd; intro y hd; obtain ⟨hd, hG⟩ := hd)
      have d1 := hE.cell xb.1
      have d2 := hE.cell xm.1
      have d3 := hE.cell xm.2.1
      have d4 := hE.cell xo
      first | simp only [frL, List.length_cons, List.length_nil, List.take_succ_cons, List.take_zero, Nat.reduceAdd, Nat.zero_add, List.setIfInBounds_toArray, List.set_cons_zero, List.set_cons_succ, hd] | simp only [frL, List.length_cons, List.length_nil, List.take_succ_cons, List.take_zero, Nat.reduceAdd, Nat.zero_add, List.setIfInBounds_toArray, List.set_cons_zero, List.set_cons_succ]
      go_wp2_with (first | (go_at_call 78; refine ((W.out _ (by assumption))).mono ?_; rintro e wa ⟨rfl, hea⟩))
      all_goals first
        | ((with_reducible refine phK ?_ ?_); (focus rfl); (repeat (first | (with_reducible assumption) | (with_reducible exact Ext.refl _) | (with_reducible refine Ext.drew ?_) | (with_reducible refine Ext.drewN ?_ _) | (with_reducible refine Ext.alloc ?_ _) | (with_reducible refine Ext.trans ?_ (by with_reducible assumption)))))
        | ((with_reducible refine phT rfl hG ?_); (repeat (first | (with_reducible assumption) | (with_reducible exact Ext.refl _) | (with_reducible refine Ext.drew ?_) | (with_reducible refine Ext.drewN ?_ _) | (with_reducible refine Ext.alloc ?_ _) | (with_reducible refine Ext.trans ?_ (by with_reducible assumption)))))
        | ((with_reducible refine phU hG ?_); (repeat (first | (with_reducible assumption) | (with_reducible exact Ext.refl _) | (with_reducible refine Ext.drew ?_) | (with_reducible refine Ext.drewN ?_ _) | (with_reducible refine Ext.alloc ?_ _) | (with_reducible refine Ext.trans ?_ (by with_reducible assumption)))))
        | (with_reducible exact phBox hE)
        | (with_reducible exact phRow hE))
  case he =>
    intro x w2 E2 hd
    simp [PhEnd, at_k, at_p, at_t, at_any] at hd
    simp only [frL, List.length_cons, List.length_nil, List.take_succ_cons, List.take_zero, Nat.reduceAdd, Nat.zero_add, List.setIfInBounds_toArray, List.set_cons_zero, List.set_cons_succ, hd, List.length_cons, List.length_nil, List.drop_succ_cons, List.drop_zero]
    clear hd
    clear hw
    go_wp2
    go_ret
    exact ⟨rfl, E0.trans E2⟩
/-- Part, at what may be -/
theorem part_fun (C : List ByteArray) (O : List Int) (n : Int) (l : Prs) : (l.filter fun x => !(whose C O x.1 != n)) = partP C O l n := rfl
set_option maxRecDepth 10000 in
set_option maxHeartbeats 1000000 in
theorem part_ok (vm vl : Value) (C : List ByteArray) (O : List Int) (l : Prs) (n : Int) (w : World) (hm : IsMap w vm C O) (ok : MapOk C O) (hk : ∀ k ∈ C, k.size ≤ 9223372036854775807) (hv : Seg w vl 2 l.length (cP l)) (os : StoreOk l) (hlen : l.length ≤ 1000000) (h0 : 0 ≤ n) (h4 : n < 4) :
    Calls Tryz.prog 23 #[vm, vl, .int .i64 n] w fun e w' => ∃ v', e = .returned (.tuple #[v', .int .i64 0]) ∧ w'.ownsRow w.heap.size 33 2 v' (partP C O l n).length (cP (partP C O l n)) ∧ Ext w w' := by
  obtain ⟨a1, k1, a2, k2, rfl, m1, m2⟩ := hm.unpack
  generalize hc : Value.slice a1 C.length k1 = c at *
  generalize ho : Value.slice a2 O.length k2 = o at *
  have b1 := heap_1 w (.cells #[c, o] 26) (.cells #[.int .i64 n] 3)
  have b2 := heap_2 w (.cells #[c, o] 26) (.cells #[.int .i64 n] 3)
  have E0 := ((Ext.refl w).alloc (.cells #[c, o] 26)).alloc (.cells #[.int .i64 n] 3)
  generalize hw0 : (w.alloc (.cells #[c, o] 26)).alloc (.cells #[.int .i64 n] 3) = w0 at b1 b2 E0
  have x1 := blk2 b1
  have x2 := cell_of_one b2
  replace hm := hm.ext E0
  replace hv := hv.ext E0
  have MC := mcheck_any (.agg #[c, o]) C O w0 hm hk
  rw [mapErr_ok ok] at MC
  have MC := hid MC
  subst hc; subst ho
  go_enter Tryz.func23, Tryz.ntmps23
  go_wp2_with fail
  refine (MC.out).mono ?_
  clear MC
  rintro e w1 ⟨rfl, E1⟩
  have SC := scheck_any vl l w1 (hv.ext E1) (store_small os)
  rw [storeErr_ok os] at SC
  have SC := hid SC
  go_wp2_with fail
  refine (SC.out).mono ?_
  clear SC
  rintro e w2 ⟨rfl, E2⟩
  have EE := E1.trans E2
  have x3 := EE.cell x2
  have b1' := EE.heap b1
  have hm2 := hm.ext EE
  have hmf : ∀ (fn : Fn) (first cap : Array Value) (w : World), (Instr.makeFunc fn first cap).run Tryz.prog w = .ok (.func fn first cap) w := fun _ _ _ _ => rfl
  have CL := hid (clone_Pair vl l.length (cP l) w2 (hv.ext EE) (cP_one l) (by omega))
  clear hw0
  go_wp2_with fail
  refine (CL.out).mono ?_
  clear CL
  rintro e w3 ⟨a3, c3, rfl, o3, E3⟩
  have DF := delF_P w2.heap.size 77 #[.pointer (some ⟨w.heap.size, 0, none⟩), .pointer (some ⟨w.heap.size + 1, 0, none⟩)] (enters_of Tryz.func77 (by kernel_rfl) rfl) (fun x => whose C O x.1 != n) (.slice a3 l.length c3) l w3 o3 hlen (fun x _ w' hg => by
    have Ew : Ext w2 w' := E3.grown hg (fun k hk => own_ge o3 k hk)
    exact part1_any x w.heap.size (w.heap.size + 1) _ _ C O n w' (Ew.heap b1') (Ew.cell x3) (hm2.ext Ew) ok)
  rw [part_fun] at DF
  have DF := hid DF
  have hB := E3.size'
  have lP : (partP C O l n).length ≤ l.length := List.length_filter_le _ _
  obtain ⟨P, hP⟩ : ∃ P, partP C O l n = P := ⟨_, rfl⟩
  rw [hP] at DF lP
  have HP := hid hP
  clear hP
  go_wp2_with fail
  refine (DF.out).mono ?_
  clear DF
  rintro e w4 ⟨v4, rfl, o4, g4, _⟩
  have E4 : Ext w2 w4 := E3.grown g4 (fun k hk => own_ge o3 k hk)
  have CL := hid (clone_Pair v4 P.length (cP P) w4 (own_seg o4) (cP_one P) (by omega))
  go_wp2_with fail
  refine (CL.out).mono ?_
  rintro e w5 ⟨a5, c5, rfl, o5, E5⟩
  have EZ := (E0.trans EE).trans E4
  go_wp2
  go_ret2
  exact ⟨_, rT2 rfl rfl, by rw [HP.out]; exact own_base o5 EZ.size', EZ.trans E5⟩
end Go.Proofs.YtimchedebcoohaaGreat

/- Contracts and lemmas for the proofs of this seat; each theorem states its own conditions. -/
namespace Go.Proofs.YtimchedebcoohaaGreat
/-! parts of a store, in plain lists -/
structure PartsOk (C : List ByteArray) (O : List Int) (V : Vls) (P : Nat → Prs) (N : Nat) : Prop where
  ok : ∀ i : Nat, i < 4 → StoreOk (P i)
  len : ∀ i : Nat, i < 4 → (P i).length ≤ N
  val : ∀ i : Nat, i < 4 → ∀ k, valP (P i) k = if whose C O k = (i : Int) then V k else 0
theorem parts_new {C : List ByteArray} {O : List Int} {S : Prs} (h : StoreOk S) : PartsOk C O (valP S) (fun i => partP C O S (i : Int)) S.length where
  ok := fun i _ => storeOk_filter h _
  len := fun i _ => List.length_filter_le _ _
  val := fun i _ k => by
    show valP (partP C O S i) k = _
    rw [partP, val_filter h.srt]
    by_cases e : whose C O k = (i : Int)
    · rw [if_pos (by simp [e]), if_pos e]
    · rw [if_neg (by simp [e]), if_neg e]
theorem PartsOk.mono {C : List ByteArray} {O : List Int} {V : Vls} {P : Nat → Prs} {N M : Nat} (h : PartsOk C O V P N) (hm : N ≤ M) : PartsOk C O V P M := ⟨h.ok, fun i hi => Nat.le_trans (h.len i hi) hm, h.val⟩
theorem PartsOk.put {C : List ByteArray} {O : List Int} {V : Vls} {P : Nat → Prs} {N : Nat} (h : PartsOk C O V P N) {i : Nat} (hi : i < 4) {k : ByteArray} {n : Int} (hw : whose C O k = (i : Int)) (hk : keyB k = true) (hn : -1000000000 ≤ n ∧ n ≤ 1000000000) :
    PartsOk C O (setV V k n) (fun j => if j = i then withP (P i) k n else P j) (N + 1) where
  ok := fun j hj => by
    try dsimp only
    split
    · exact storeOk_with (h.ok i hi) hk hn
    · exact h.ok j hj
  len := fun j hj => by
    try dsimp only
    split
    · have := with_len (P i) k n; have := h.len i hi; omega
    · have := h.len j hj; omega
  val := fun j hj x => by
    try dsimp only
    unfold setV
    by_cases e : j = i
    · subst e
      rw [if_pos rfl, val_with (h.ok j hj).srt, h.val j hj x]
      by_cases e2 : k = x
      · subst e2; rw [if_pos rfl, if_pos hw, if_pos rfl]
      · rw [if_neg e2, if_neg e2]
    · rw [if_neg e, h.val j hj x]
      by_cases e2 : k = x
      · subst e2; rw [if_pos rfl, if_neg (by rw [hw]; omega), if_neg (by rw [hw]; omega)]
      · rw [if_neg e2]
theorem PartsOk.val_at {C : List ByteArray} {O : List Int} (hm : MapOk C O) {V : Vls} {P : Nat → Prs} {N : Nat} (h : PartsOk C O V P N) (k : ByteArray) : ∃ i : Nat, i < 4 ∧ whose C O k = (i : Int) ∧ valP (P i) k = V k := by
  obtain ⟨h0, h4⟩ := whose_rng hm k
  refine ⟨(whose C O k).toNat, by omega, by omega, ?_⟩
  rw [h.val _ (by omega), if_pos (by omega)]
theorem PartsOk.bd {C : List ByteArray} {O : List Int} (hm : MapOk C O) {V : Vls} {P : Nat → Prs} {N : Nat} (h : PartsOk C O V P N) (k : ByteArray) : -1000000000 ≤ V k ∧ V k ≤ 1000000000 := by
  obtain ⟨i, hi, _, e⟩ := h.val_at hm k
  rw [← e]; exact val_bd (h.ok i hi) k
/-- each has what the store has of his -/
theorem PartsOk.eq {C : List ByteArray} {O : List Int} {P : Nat → Prs} {N : Nat} {S : Prs} (hS : StoreOk S) (h : PartsOk C O (valP S) P N) {i : Nat} (hi : i < 4) : P i = partP C O S (i : Int) := by
  refine store_ext (h.ok i hi) ((parts_new (C := C) (O := O) hS).ok i hi) fun k => ?_
  rw [h.val i hi, (parts_new (C := C) (O := O) hS).val i hi]
/-- what is told of some keys -/
def toldP (V : Vls) : List ByteArray → Prs
  | [] => []
  | k :: ks => withP (toldP V ks) k (V k)
theorem told_ok {V : Vls} (hV : ∀ k, -1000000000 ≤ V k ∧ V k ≤ 1000000000) : ∀ {ks : List ByteArray}, (∀ k ∈ ks, keyB k = true) → StoreOk (toldP V ks) ∧ (toldP V ks).length ≤ ks.length ∧ ∀ x, valP (toldP V ks) x = if memB ks x = true then V x else 0
  | [], _ => ⟨storeOk_nil, Nat.le_refl _, fun x => by simp [toldP, valP, memB]⟩
  | k :: ks, h => by
    obtain ⟨h1, h2, h3⟩ := told_ok hV (ks := ks) fun j hj => h j (by simp [hj])
    have hl := with_len (toldP V ks) k (V k)
    refine ⟨storeOk_with h1 (h k (by simp)) (hV k), by rw [toldP, List.length_cons]; omega, fun x => ?_⟩
    rw [toldP, val_with h1.srt, h3 x]
    by_cases e : k = x
    · subst e; rw [if_pos rfl, if_pos (memB_iff.2 (by simp))]
    · have : memB (k :: ks) x = memB ks x := by simp [memB, e]
      rw [if_neg e, this]
/-- the values once the first ones of w have been taken over -/
def overV (V U : Vls) (ks : List ByteArray) : Vls := fun x => if memB ks x = true then U x else V x
theorem over_step (V U : Vls) (ks : List ByteArray) (k : ByteArray) : setV (overV V U ks) k (U k) = overV V U (ks ++ [k]) := by
  funext x
  unfold setV overV
  by_cases e : k = x
  · subst e; rw [if_pos rfl, if_pos (memB_iff.2 (by simp))]
  · have : memB (ks ++ [k]) x = memB ks x := by simp [memB, e]
    rw [if_neg e, this]
theorem over_nil (V U : Vls) : overV V U [] = V := by funext x; simp [overV, memB]
/-- a deed done on what was told makes what it makes on all -/
theorem told_run {V : Vls} {T : Prs} {ks : List ByteArray} {d : Ops} (hT : StoreOk T) (hd : ∀ o ∈ d, OpOk o) (hv : ∀ x, valP T x = if memB ks x = true then V x else 0) (hr : ∀ k ∈ rds d, k ∈ ks) :
    runB T d = okV V d ∧ (runB T d = true → overV V (valP (runS T d)) (sortU (wrs d)) = stepV V d) := by
  obtain ⟨q1, q2, q3⟩ := run_val hT hd
  obtain ⟨s1, s2⟩ := step_agree hd (v := valP T) (u := V) fun k hk => by rw [hv k, if_pos (memB_iff.2 (hr k hk))]
  refine ⟨by rw [q3, s1], fun h => ?_⟩
  rw [q3] at h
  funext x
  unfold overV
  by_cases e : x ∈ wrs d
  · rw [if_pos (memB_iff.2 ((sortU_mem _ _).2 e)), q2, s2 h x e]
  · rw [if_neg fun q => e ((sortU_mem _ _).1 (memB_iff.1 q)), step_keep hd V e]
end Go.Proofs.YtimchedebcoohaaGreat

/- Contracts and lemmas for the proofs of this seat; each theorem states its own conditions. -/
namespace Go.Proofs.YtimchedebcoohaaGreat
open Go.RowKit Go.Maps
/-! Free -/
/-- the table between: its rows of claims told by Cl, its map of keys of at most N entries -/
structure LockG (w : World) (B bt bk bd : Nat) (A : List Ops) (g : Nat → Bool) (F : ByteArray → Option SV) (G : Int → Option SV) (Cl : ByteArray → Clm) (N X : Nat) : Prop where
  hBt : B ≤ bt
  hBk : B ≤ bk
  hBd : B ≤ bd
  ne : bk ≠ bd
  box : w.heap[bt]? = some (.cells #[.map (some bk), .map (some bd), .int .i64 X] 177 (0, 0))
  km : ∃ n D, w.ownsMap Tryz.prog 9 svElem bk n D ∧ n ≤ N ∧ MapF kS okS dV D F
  dm : ∃ n D, w.ownsMap Tryz.prog 3 svElem bd n D ∧ n ≤ A.length ∧ MapF kI okI dV D G ∧ size D = liveN g A.length
  keys : ∀ k, w.ownsRow B 181 2 (svV ((F k).getD none)) (Cl k).length (cK (Cl k))
  apart : ∀ k k' s s', k ≠ k' → F k = some s → F k' = some s' → (svV s).ownBlock = none ∨ (svV s).ownBlock ≠ (svV s').ownBlock
  rows : ∀ n : Nat, n < A.length → g n = false → ∃ s, G (n : Int) = some s ∧ w.ownsRow B 9 1 (svV s) (tkL (A.getD n [])).length (cS (tkL (A.getD n [])))
theorem LockSt.g {w : World} {B bt bk bd : Nat} {A : List Ops} {g : Nat → Bool} {F : ByteArray → Option SV} {G : Int → Option SV} (h : LockSt w B bt bk bd A g F G) : LockG w B bt bk bd A g F G (fun k => clmTo A g k A.length) (32 * (A.length + (A.length - liveN g A.length))) A.length :=
  ⟨h.hBt, h.hBk, h.hBd, h.ne, h.box, h.km, h.dm, h.keys, h.apart, h.rows⟩
theorem LockG.ext {w w' : World} {B bt bk bd : Nat} {A : List Ops} {g : Nat → Bool} {F : ByteArray → Option SV} {G : Int → Option SV} {Cl : ByteArray → Clm} {N X : Nat} (h : LockG w B bt bk bd A g F G Cl N X) (E : Ext w w') : LockG w' B bt bk bd A g F G Cl N X where
  hBt := h.hBt
  hBk := h.hBk
  hBd := h.hBd
  ne := h.ne
  box := E.heap h.box
  km := by obtain ⟨n, D, a, b⟩ := h.km; exact ⟨n, D, ownsMap_ext a E, b⟩
  dm := by obtain ⟨n, D, a, b⟩ := h.dm; exact ⟨n, D, ownsMap_ext a E, b⟩
  keys := fun k => own_ext (h.keys k) E
  apart := h.apart
  rows := fun n a b => by obtain ⟨s, e, o⟩ := h.rows n a b; exact ⟨s, e, own_ext o E⟩
/-- a row of claims is turned in place, then stored anew: what holds between -/
def Mid (w0 : World) (B bt bk bd : Nat) (A : List Ops) (g : Nat → Bool) (F : ByteArray → Option SV) (G : Int → Option SV) (Cl : ByteArray → Clm) (N X : Nat) (key : ByteArray) (l' : Clm) (v : Value) (w : World) : Prop :=
  ∃ w1, LockG w1 B bt bk bd A g F G Cl N X ∧ w1.grownBy w (svV ((F key).getD none)).ownBlock ∧ w.ownsRow B 181 2 v l'.length (cK l') ∧ (v.ownBlock = (svV ((F key).getD none)).ownBlock ∨ ∀ k, v.ownBlock = some k → w1.heap.size ≤ k) ∧ Ext w0 w1
theorem claim_ne_box {w : World} {B bt bk bd : Nat} {A : List Ops} {g : Nat → Bool} {F : ByteArray → Option SV} {G : Int → Option SV} {Cl : ByteArray → Clm} {N X : Nat} (h : LockG w B bt bk bd A g F G Cl N X) (key : ByteArray) : (svV ((F key).getD none)).ownBlock ≠ some bt ∧ (svV ((F key).getD none)).ownBlock ≠ some bk ∧ (svV ((F key).getD none)).ownBlock ≠ some bd := by
  have hk := h.keys key
  refine ⟨own_ne hk h.box (by decide), fun e => ?_, fun e => ?_⟩
  · obtain ⟨n, D, ⟨es, clock, hm, _⟩, _⟩ := h.km
    rcases hk.2 with ⟨hn, _⟩ | ⟨b, cap, cur, hv, hb, hg, rest⟩
    · rw [hn] at e; cases e
    · rw [hv] at e; injection e with e; subst e; rw [hm] at hg; cases hg
  · obtain ⟨n, D, ⟨es, clock, hm, _⟩, _⟩ := h.dm
    rcases hk.2 with ⟨hn, _⟩ | ⟨b, cap, cur, hv, hb, hg, rest⟩
    · rw [hn] at e; cases e
    · rw [hv] at e; injection e with e; subst e; rw [hm] at hg; cases hg
theorem own_not_map {w : World} {B e sz n b : Nat} {v : Value} {xs : List Value} (h : w.ownsRow B e sz v n xs) {es : Array MapEntry} {clock : Nat} (hm : w.heap[b]? = some (.map es clock)) : v.ownBlock ≠ some b := fun e' => by
  rcases h.2 with ⟨hn, _⟩ | ⟨b', cap, cur, hv, hb, hg, rest⟩
  · rw [hn] at e'; cases e'
  · rw [hv] at e'; injection e' with e'; subst e'; rw [hm] at hg; cases hg
theorem kept_ne {w w' : World} {B e sz n b : Nat} {v : Value} {xs : List Value} (hg : w.grownBy w' (some b)) (h : w.ownsRow B e sz v n xs) (hne : v.ownBlock ≠ some b) : w'.ownsRow B e sz v n xs := grown_own hg h (.inr hne)
/-- the store of a turned row -/
theorem mid_store {w0 w w' : World} {B bt bk bd : Nat} {A : List Ops} {g : Nat → Bool} {F : ByteArray → Option SV} {G : Int → Option SV} {Cl : ByteArray → Clm} {N X : Nat} {key : ByteArray} {l' : Clm} {sv : SV} (h : Mid w0 B bt bk bd A g F G Cl N X key l' (svV sv) w) (hk : okS key) {n : Nat} {D : DU}
    (hmap : w.ownsMap Tryz.prog 9 svElem bk n D) (hn : n ≤ N) (hF : MapF kS okS dV D F) (hmap' : w'.ownsMap Tryz.prog 9 svElem bk (n + 1) (D.put (kS key) (dV sv))) (hg' : w.grownBy w' (some bk)) :
    LockG w' B bt bk bd A g (fun k => if k = key then some sv else F k) G (fun k => if k = key then l' else Cl k) (N + 1) X ∧ TFr B bt bk bd w0 w' := by
  obtain ⟨w1, hl, hg1, ho, hb, E⟩ := h
  obtain ⟨c1, c2, c3⟩ := claim_ne_box hl key
  obtain ⟨es, clock, hm, _⟩ := hmap
  have hbk1 : ∃ es clock, w1.heap[bk]? = some (.map es clock) := by
    obtain ⟨_, _, ⟨es, clock, hm, _⟩, _⟩ := hl.km; exact ⟨es, clock, hm⟩
  obtain ⟨es1, clock1, hm1⟩ := hbk1
  have hbt : bt ≠ bk := by rintro rfl; have := hl.box; rw [hm1] at this; cases this
  refine ⟨⟨hl.hBt, hl.hBk, hl.hBd, hl.ne, ?_, ⟨n + 1, _, hmap', by omega, hF.put kS_inj kS_is hk sv⟩, ?_, fun k => ?_, fun k k' s s' hne h1 h2 => ?_, fun m h1 h2 => ?_⟩, ?_⟩
  · exact grown_heap hg' (grown_heap hg1 hl.box c1) (fun e => hbt (by injection e with e; exact e.symm))
  · obtain ⟨m, D', a, b⟩ := hl.dm
    exact ⟨m, D', (a.kept hg1 (fun e => c3 e.symm)).kept hg' (fun e => hl.ne (by injection e with e; exact e.symm)), b⟩
  · by_cases e : k = key
    · subst e
      simp only [if_true, Option.getD_some]
      exact kept_ne hg' ho (own_not_map ho hm)
    · simp only [if_neg e]
      have hk1 := hl.keys k
      have hap : (svV ((F k).getD none)).ownBlock = none ∨ (svV ((F k).getD none)).ownBlock ≠ (svV ((F key).getD none)).ownBlock := by
        cases h1 : F k with
        | none => left; rfl
        | some s1 =>
          cases h2 : F key with
          | none =>
            cases h3 : (svV ((some s1 : Option SV).getD none)).ownBlock with
            | none => left; rfl
            | some b => right; show some b ≠ none; simp
          | some s2 => exact hl.apart k key s1 s2 e h1 h2
      have hk2 := grown_own hg1 hk1 hap
      exact kept_ne hg' hk2 (own_not_map hk2 hm)
  · have hfar : ∀ k' s', k' ≠ key → F k' = some s' → (svV sv).ownBlock = none ∨ (svV sv).ownBlock ≠ (svV s').ownBlock := fun k' s' hne' h2' => by
      rcases hb with hb | hb
      · rw [hb]
        cases h3 : F key with
        | none => left; rfl
        | some s0 => exact hl.apart key k' s0 s' (Ne.symm hne') h3 h2'
      · cases e : (svV sv).ownBlock with
        | none => exact .inl rfl
        | some b =>
          right
          intro e'
          have h5 := hb b e
          have h4 := hl.keys k'
          rw [h2', Option.getD_some] at h4
          have := (h4.lt b e'.symm).2
          omega
    by_cases e : k = key
    · subst e
      simp only [if_true] at h1
      injection h1 with h1; subst h1
      rw [if_neg (Ne.symm hne)] at h2
      exact hfar k' s' (Ne.symm hne) h2
    · rw [if_neg e] at h1
      by_cases e' : k' = key
      · subst e'
        simp only [if_true] at h2
        injection h2 with h2; subst h2
        rcases hfar k s e h1 with h3 | h3
        · cases h4 : (svV s).ownBlock with
          | none => left; rfl
          | some b => right; rw [h3]; simp
        · exact .inr fun e2 => h3 e2.symm
      · rw [if_neg e'] at h2
        exact hl.apart k k' s s' hne h1 h2
  · obtain ⟨s, e, o⟩ := hl.rows m h1 h2
    have o2 := grown_own hg1 o (own_own_ne o (hl.keys key) (by decide))
    exact ⟨s, e, kept_ne hg' o2 (own_not_map o2 hm)⟩
  · refine (TFr.of_ext E).trans ?_
    have t1 : TFr B bt bk bd w1 w := ⟨hg1.os, hg1.tape, hg1.output, hg1.size, fun i hi => by
      by_cases e : (svV ((F key).getD none)).ownBlock = some i
      · right
        have hk1 := hl.keys key
        rcases hk1.2 with ⟨hn, _⟩ | ⟨b, cap, cur, hv, hbb, hgg, rest⟩
        · rw [hn] at e; cases e
        · rw [hv] at e; injection e with e; subst e
          exact ⟨hbb, .inr (.inr (.inr ⟨cur, hgg⟩))⟩
      · exact .inl (hg1.block i hi (fun e' => e e'.symm))⟩
    refine t1.trans ⟨hg'.os, hg'.tape, hg'.output, hg'.size, fun i hi => ?_⟩
    by_cases e : i = bk
    · subst e; exact .inr ⟨hl.hBk, .inr (.inl rfl)⟩
    · exact .inl (hg'.block i hi (fun e' => e (by injection e')))
end Go.Proofs.YtimchedebcoohaaGreat
