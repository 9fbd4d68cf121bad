/- Contracts and lemmas for the proof of TopPlan; each theorem states its own conditions. -/
import Derived.Test.YtimchedebcoohaaGreatQTopPlanbo
import Derived.Test.YtimchedebcoohaaGreatQTopPlanah
import Derived.Test.YtimchedebcoohaaGreatQTopPlanba
set_option linter.unusedVariables false
set_option linter.unusedSimpArgs false
/- Contracts and lemmas for the proofs of this seat; each theorem states its own conditions. -/
namespace Go.Proofs.YtimchedebcoohaaGreat
open Go.RowKit Go.Maps
/-! Add -/
/-- the claims once d is in at the keys of L' -/
def clA (A : List Ops) (g : Nat → Bool) (d : Ops) (L' : List ByteArray) (k : ByteArray) : Clm := if memB L' k = true then clmTo A g k A.length ++ [(A.length, memB (wrs d) k)] else clmTo A g k A.length
theorem clA_nil (A : List Ops) (g : Nat → Bool) (d : Ops) : clA A g d [] = fun k => clmTo A g k A.length := by
  funext k; simp [clA, memB]
theorem clA_step (A : List Ops) (g : Nat → Bool) (d : Ops) {L' : List ByteArray} {key : ByteArray} (h : key ∉ L') : (fun k => if k = key then clA A g d L' key ++ [(A.length, memB (wrs d) key)] else clA A g d L' k) = clA A g d (L' ++ [key]) := by
  funext k
  by_cases e : k = key
  · subst e
    have h1 : memB (L' ++ [k]) k = true := memB_iff.2 (by simp)
    have h2 : memB L' k = false := memB_not.2 h
    simp [clA, h1, h2]
  · have : memB (L' ++ [key]) k = memB L' k := by
      rw [Bool.eq_iff_iff, memB_iff, memB_iff]; simp [e]
    simp only [if_neg e, clA, this]
theorem clA_all (A : List Ops) {g : Nat → Bool} (d : Ops) (hg : g A.length = false) (k : ByteArray) : clA A g d (tkL d) k = clmTo (A ++ [d]) g k (A ++ [d]).length := by
  have hl : (A ++ [d]).length = A.length + 1 := by simp
  rw [hl, clm_add hg]
  unfold clA
  cases h : memB (tkL d) k with
  | true =>
    rw [if_pos rfl, if_pos ((tkL_mem _ k).1 (memB_iff.1 h))]
  | false =>
    have : ¬ tchB d k = true := fun e => by rw [memB_iff.2 ((tkL_mem _ k).2 e)] at h; cases h
    rw [if_neg (by simp), if_neg this, List.append_nil]
theorem tkL_srt (d : Ops) : (tkL d).Pairwise fun a b => blt a b = true := sortU_srt _
theorem tkL_new (d : Ops) {j : Nat} (hj : j < (tkL d).length) : (tkL d)[j] ∉ (tkL d).take j := fun hm => by
  obtain ⟨i, hi, he⟩ := List.mem_iff_getElem.1 hm
  rw [List.length_take] at hi
  rw [List.getElem_take] at he
  have := List.pairwise_iff_getElem.1 (tkL_srt d) i j (by omega) hj (by omega)
  rw [he, blt_irrefl] at this; cases this
/-- where r and w lie: sortU of both is the sorted row of all -/
theorem mem_sortU_wrs (d : Ops) (k : ByteArray) : memB (sortU (wrs d)) k = memB (wrs d) k := by
  rw [Bool.eq_iff_iff, memB_iff, memB_iff, sortU_mem]
theorem tk_comp (d : Ops) : ((Go.Lib.compact (srtB (sortU (rds d) ++ sortU (wrs d)))).map Go.Proofs.encStr) = cS (tkL d) ∧ (Go.Lib.compact (srtB (sortU (rds d) ++ sortU (wrs d)))).length = (tkL d).length := by
  have h : tkL d = (Go.Lib.compact (srtB (sortU (rds d) ++ sortU (wrs d)))).map ofL := rfl
  rw [h]
  exact ⟨(cS_of _).symm, by simp⟩
theorem cK_snoc (l : Clm) (n : Nat) (b : Bool) : cK (l ++ [(n, b)]) = cK l ++ [.int .i64 (n : Int), .bool b] := by rw [cK_app]; simp [cK]
theorem clA_len (A : List Ops) (g : Nat → Bool) (d : Ops) (L' : List ByteArray) (k : ByteArray) : (clA A g d L' k).length ≤ A.length + 1 := by
  have : ∀ n, (clmTo A g k n).length ≤ n := by
    intro n; induction n with
    | zero => simp [clmTo]
    | succ n ih => rw [clmTo, List.length_append]; unfold clm1; split <;> simp <;> omega
  have h1 := this A.length
  unfold clA
  split
  · simp; omega
  · omega
set_option maxRecDepth 100000 in
set_option maxHeartbeats 4000000 in
theorem add_ok {w : World} {B bt bk bd : Nat} {A : List Ops} {g : Nat → Bool} {F : ByteArray → Option SV} {G : Int → Option SV} (h : LockSt w B bt bk bd A g F G) (vd : Value) (d : Ops) (hvd : Seg w vd 4 d.length (cO d)) (hd : DeedOk d) (hf : ∀ o ∈ d, o.from_.size ≤ 9223372036854775807) (hlt : A.length < 60) :
    Calls Tryz.prog 104 #[.pointer (some ⟨bt, 0, none⟩), .agg #[vd]] w fun e w' => e = .returned (.tuple #[.int .i64 A.length, .int .i64 0]) ∧ (∃ F' G', LockSt w' B bt bk bd (A ++ [d]) g F' G') ∧ TFr B bt bk bd w w' := by
  obtain ⟨a0, c0, rfl⟩ := seg_form hvd
  have E0 := (Ext.refl w).alloc (.cells #[.slice a0 d.length c0] 29)
  have c00 := cell_of_one (heap_alloc_new w (.cells #[.slice a0 d.length c0] 29))
  have K := hid (keys_ok (.slice a0 d.length c0) d (w.alloc (.cells #[.slice a0 d.length c0] 29)) (hvd.ext E0) hd hf)
  have hg0 := hid (h.later A.length (Nat.le_refl _))
  have H := hid h
  have hBw : B ≤ w.heap.size := by
    have := (Array.getElem?_eq_some_iff.1 h.box).1
    have := h.hBt; omega
  clear h
  go_enter Tryz.func104, Tryz.ntmps104
  go_wp2_with fail
  refine (K.out).mono ?_
  rintro e w1 ⟨v1, v2, rfl, o1, o2, E1⟩
  clear K
  replace E1 := E0.trans E1
  have hbox := (H.out.ext E1).box
  have cb2 : w1.cell? ⟨bt, 2, none⟩ = some (.int .i64 A.length) := by simp [World.cell?, hbox]
  have fz2 : w1.frozen? ⟨bt, 2, none⟩ = false := by simp [World.frozen?, hbox]
  have q60 : ((A.length : Int) == 60) = false := by simp; omega
  have LN := lock_next (H.out.ext E1).g (A.length + 1)
  have hY : ((A.length + 1 : Nat) : Int) = (A.length : Int) + 1 := by omega
  have gc := grown_cell w1 bt 2 (.int .i64 ((A.length + 1 : Nat) : Int))
  have p1 := kept_ne gc o1 (own_ne o1 hbox (by decide))
  have p2 := kept_ne gc o2 (own_ne o2 hbox (by decide))
  rw [hY] at LN gc p1 p2
  obtain ⟨LN, T2⟩ := LN
  have T2 := hid ((TFr.of_ext (B := B) (bt := bt) (bk := bk) (bd := bd) E1).trans T2)
  have hB2 : B ≤ (w1.setCell ⟨bt, 2, none⟩ (.int .i64 ((A.length : Int) + 1))).heap.size := by have := gc.size; have := E1.size'; omega
  obtain ⟨a1, c1, rfl⟩ := own_form p1
  obtain ⟨a2, c2, rfl⟩ := own_form p2
  have TC := hid (tk_comp d)
  have hLl := tkL_len hd.hi
  have HL := hid (And.intro (tkL_mem d) (And.intro (clA_all A d hg0.out) (fun {j} => tkL_new d (j := j))))
  have l1 := Nat.le_trans (sortU_len (rds d)) (by have := rds_len d d.length; rw [List.take_of_length_le (Nat.le_refl _)] at this; have := hd.hi; omega : (rds d).length ≤ 16)
  have l2 := Nat.le_trans (sortU_len (wrs d)) (by have := rds_len d d.length; rw [List.take_of_length_le (Nat.le_refl _)] at this; have := hd.hi; omega : (wrs d).length ≤ 16)
  have MW := hid (mem_sortU_wrs d)
  have CST := hid (fun (L' : List ByteArray) (key : ByteArray) (hk : key ∉ L') => clA_step A g d (L' := L') (key := key) hk)
  have TK := hid (fun k (hk : k ∈ tkL d) => (tch_key hd ((tkL_mem _ k).1 hk) : keyB k = true))
  clear o1 o2 hY gc E0 c00 hvd
  generalize sortU (rds d) = R at p1 TC l1
  generalize sortU (wrs d) = Wd at p2 TC l2 MW
  obtain ⟨L, hL⟩ : ∃ L, tkL d = L := ⟨_, rfl⟩
  rw [hL] at TC hLl HL TK
  have HTL := hid hL
  clear hL
  have hok : okI (A.length : Int) := WalkArith.wf_i64 (by omega)
  have hkeyI := keyOf_int_mk Tryz.underlying3 (P := Tryz.prog) (k := 3) hok
  have hzero := fun w => Tryz.zeroValue23 w
  have hzeroK := fun w => Tryz.zeroValue178 w
  generalize hw2 : w1.setCell ⟨bt, 2, none⟩ (.int .i64 ((A.length : Int) + 1)) = w2 at LN T2 p1 p2 hB2
  have HLN := hid LN
  obtain ⟨nd, Dd, hmapd, hnd, hFd, hszd⟩ := LN.dm
  have HSZ := hid hszd
  have hbox2 := LN.box
  clear LN hbox hszd
  go_wp2_with (first
    | (at_builtin; refine (wpList_app rfl _ _ 23 rfl w2.heap.size 9 (.string ⟨#[]⟩) 1 16 Tryz.underlying23 infoStr rfl (by decide) _ 0 [] rfl (World.ownsRow_nil _ _ _ _) _ R.length (cS R) rfl (own_seg p1) (cS_one _) (by omega) (by unfold maxLen; omega) (Nat.le_refl _) ?_); intro v3 w3 ho3 hg3; simp only [Nat.zero_add, List.nil_append] at ho3; have E23 : Ext w2 w3 := (Ext.refl w2).grown hg3 (fun k hk => by cases hk); have p23 := own_ext p2 E23; obtain ⟨a3, c3, rfl⟩ := own_form ho3; have s23 := E23.size')
    | (at_builtin; refine (wpList_app rfl _ _ 23 rfl w2.heap.size 9 (.string ⟨#[]⟩) 1 16 Tryz.underlying23 infoStr rfl (by decide) _ R.length (cS R) rfl ho3 _ Wd.length (cS Wd) rfl (own_seg p23) (cS_one _) (by omega) (by unfold maxLen; omega) s23 ?_); intro v4 w4 ho4 hg4; obtain ⟨a4, c4, rfl⟩ := own_form ho4))
  clear hw2
  have E24 := E23.grown hg4 (fun k hk => own_ge ho3 k hk)
  replace ho4 : w4.ownsRow w2.heap.size 9 1 (.slice a4 (R.length + Wd.length) c4) (R ++ Wd).length (cS (R ++ Wd)) := by
    rw [cS_app, List.length_append]; exact ho4
  have S := hid (sort_own w2.heap.size (.slice a4 (R.length + Wd.length) c4) (R ++ Wd) w4 ho4 (by rw [List.length_append]; omega))
  go_wp2_with fail
  refine (S.out).mono ?_
  rintro e w5 ⟨rfl, ho5, hg5⟩
  have E5 := E24.grown hg5 (fun k hk => own_ge ho4 k hk)
  have hsl := srtB_len (R ++ Wd)
  rw [List.length_append] at hsl
  clear S ho3 hg3 ho4 hg4 hg5 E23 E24 s23 p23 p1
  generalize srtB (R ++ Wd) = M at ho5 TC hsl
  have CM := fun w' (E : Ext w5 w') => compact_own w2.heap.size (.slice a4 (R.length + Wd.length) c4) M w' (own_ext ho5 E) (by omega)
  rw [TC.out.1, TC.out.2] at CM
  have CM := hid CM
  clear hsl ho5 TC
  obtain ⟨N0, hN0⟩ : ∃ N0, 32 * (A.length + (A.length - liveN g A.length)) = N0 := ⟨_, rfl⟩
  have HN0 := hid hN0
  rw [hN0] at HLN
  have hN0' : N0 ≤ 4000 := by omega
  clear hN0
  go_wp2_with fail
  refine wp_region_turn (by kernel_rfl) (by kernel_rfl) (fun ii => match ii with | 0 => some (.pointer (some ⟨bt, 0, none⟩)) | 1 => some (.pointer (some ⟨bt, 0, none⟩)) | 2 => some (.pointer (some ⟨bt, 1, none⟩)) | 3 => some (.map (some bd)) | 4 => some (.int .i64 A.length) | 5 => some (.slice a4 (R.length + Wd.length) c4) | _ => none) 6 7 (by decide) (by kernel_rfl) (by kernel_rfl) (fun w' => w'.heap[bt]? = some (.cells #[.map (some bk), .map (some bd), .int .i64 (A.length + 1 : Nat)] 177 (0, 0))) (fun w' => Ext w5 w') (fun v w' => ∃ sv, v = svV sv ∧ Ext w2 w' ∧ w'.ownsRow w2.heap.size 9 1 (svV sv) L.length (cS L)) (fun w' => ∃ sv, LockG w' B bt bk bd (A ++ [d]) g F (fun z => if z = (A.length : Int) then some sv else G z) (fun k => clmTo A g k A.length) N0 (A.length + 1) ∧ TFr B bt bk bd w2 w') ?st0 ?st1 ?k0 ?k1 ?h0 ?hs ?he
  case hs =>
    refine ⟨?s0, ?s1, ?s2, ?s3, ?s4, ?s5, ?sm, ?sz, trivial⟩
    case s0 =>
      intro x w' hd
      try simp [Region.binds] at hd
      refine ⟨fun _ _ hK => ?_, fun h => absurd h (by decide), fun h => absurd h (by decide)⟩
      have kc : w'.cell? ⟨bt, 1, none⟩ = some (.map (some bd)) := by simp [World.cell?, show w'.heap[bt]? = _ from hK]
      unfold TPost
      first | simp only [frL, List.length_cons, List.length_nil, List.take_succ_cons, List.take_zero, Nat.reduceAdd, Nat.zero_add, List.setIfInBounds_toArray, List.set_cons_zero, List.set_cons_succ, hd] | simp only [frL, List.length_cons, List.length_nil, List.take_succ_cons, List.take_zero, Nat.reduceAdd, Nat.zero_add, List.setIfInBounds_toArray, List.set_cons_zero, List.set_cons_succ]
      go_wp2
      first | (with_reducible exact Ext.refl _) | exact ⟨rfl, _, rfl, (fun u hu => by simpa using hu), (by (repeat (first | (with_reducible assumption) | (with_reducible exact Ext.refl _) | (with_reducible refine Ext.drew ?_) | (with_reducible refine Ext.drewN ?_ _) | (with_reducible refine Ext.alloc ?_ _) | (with_reducible refine Ext.trans ?_ (by with_reducible assumption)))))⟩ | (with_reducible exact (by (repeat (first | (with_reducible assumption) | (with_reducible exact Ext.refl _) | (with_reducible refine Ext.drew ?_) | (with_reducible refine Ext.drewN ?_ _) | (with_reducible refine Ext.alloc ?_ _) | (with_reducible refine Ext.trans ?_ (by with_reducible assumption))))))
    case s1 =>
      intro x w' hd
      try simp [Region.binds] at hd
      refine ⟨fun _ _ hK => ?_, fun h => absurd h (by decide), fun h => absurd h (by decide)⟩
      have kc : w'.cell? ⟨bt, 1, none⟩ = some (.map (some bd)) := by simp [World.cell?, show w'.heap[bt]? = _ from hK]
      unfold TPost
      first | simp only [frL, List.length_cons, List.length_nil, List.take_succ_cons, List.take_zero, Nat.reduceAdd, Nat.zero_add, List.setIfInBounds_toArray, List.set_cons_zero, List.set_cons_succ, hd] | simp only [frL, List.length_cons, List.length_nil, List.take_succ_cons, List.take_zero, Nat.reduceAdd, Nat.zero_add, List.setIfInBounds_toArray, List.set_cons_zero, List.set_cons_succ]
      go_wp2
      first | (with_reducible exact Ext.refl _) | exact ⟨rfl, _, rfl, (fun u hu => by simpa using hu), (by (repeat (first | (with_reducible assumption) | (with_reducible exact Ext.refl _) | (with_reducible refine Ext.drew ?_) | (with_reducible refine Ext.drewN ?_ _) | (with_reducible refine Ext.alloc ?_ _) | (with_reducible refine Ext.trans ?_ (by with_reducible assumption)))))⟩ | (with_reducible exact (by (repeat (first | (with_reducible assumption) | (with_reducible exact Ext.refl _) | (with_reducible refine Ext.drew ?_) | (with_reducible refine Ext.drewN ?_ _) | (with_reducible refine Ext.alloc ?_ _) | (with_reducible refine Ext.trans ?_ (by with_reducible assumption))))))
    case s2 =>
      intro x w' hd
      try simp [Region.binds] at hd
      refine ⟨fun _ _ hK => ?_, fun h => absurd h (by decide), fun h => absurd h (by decide)⟩
      have kc : w'.cell? ⟨bt, 1, none⟩ = some (.map (some bd)) := by simp [World.cell?, show w'.heap[bt]? = _ from hK]
      unfold TPost
      first | simp only [frL, List.length_cons, List.length_nil, List.take_succ_cons, List.take_zero, Nat.reduceAdd, Nat.zero_add, List.setIfInBounds_toArray, List.set_cons_zero, List.set_cons_succ, hd] | simp only [frL, List.length_cons, List.length_nil, List.take_succ_cons, List.take_zero, Nat.reduceAdd, Nat.zero_add, List.setIfInBounds_toArray, List.set_cons_zero, List.set_cons_succ]
      go_wp2
      first | (with_reducible exact Ext.refl _) | exact ⟨rfl, _, rfl, (fun u hu => by simpa using hu), (by (repeat (first | (with_reducible assumption) | (with_reducible exact Ext.refl _) | (with_reducible refine Ext.drew ?_) | (with_reducible refine Ext.drewN ?_ _) | (with_reducible refine Ext.alloc ?_ _) | (with_reducible refine Ext.trans ?_ (by with_reducible assumption)))))⟩ | (with_reducible exact (by (repeat (first | (with_reducible assumption) | (with_reducible exact Ext.refl _) | (with_reducible refine Ext.drew ?_) | (with_reducible refine Ext.drewN ?_ _) | (with_reducible refine Ext.alloc ?_ _) | (with_reducible refine Ext.trans ?_ (by with_reducible assumption))))))
    case s3 =>
      intro x w' hd
      try simp [Region.binds] at hd
      refine ⟨fun _ _ hK => ?_, fun h => absurd h (by decide), fun h => absurd h (by decide)⟩
      have kc : w'.cell? ⟨bt, 1, none⟩ = some (.map (some bd)) := by simp [World.cell?, show w'.heap[bt]? = _ from hK]
      unfold TPost
      first | simp only [frL, List.length_cons, List.length_nil, List.take_succ_cons, List.take_zero, Nat.reduceAdd, Nat.zero_add, List.setIfInBounds_toArray, List.set_cons_zero, List.set_cons_succ, hd] | simp only [frL, List.length_cons, List.length_nil, List.take_succ_cons, List.take_zero, Nat.reduceAdd, Nat.zero_add, List.setIfInBounds_toArray, List.set_cons_zero, List.set_cons_succ]
      go_wp2
      first | (with_reducible exact Ext.refl _) | exact ⟨rfl, _, rfl, (fun u hu => by simpa using hu), (by (repeat (first | (with_reducible assumption) | (with_reducible exact Ext.refl _) | (with_reducible refine Ext.drew ?_) | (with_reducible refine Ext.drewN ?_ _) | (with_reducible refine Ext.alloc ?_ _) | (with_reducible refine Ext.trans ?_ (by with_reducible assumption)))))⟩ | (with_reducible exact (by (repeat (first | (with_reducible assumption) | (with_reducible exact Ext.refl _) | (with_reducible refine Ext.drew ?_) | (with_reducible refine Ext.drewN ?_ _) | (with_reducible refine Ext.alloc ?_ _) | (with_reducible refine Ext.trans ?_ (by with_reducible assumption))))))
    case s4 =>
      intro x w' hd
      try simp [Region.binds] at hd
      refine ⟨fun _ _ hK => ?_, fun h => absurd h (by decide), fun h => absurd h (by decide)⟩
      have kc : w'.cell? ⟨bt, 1, none⟩ = some (.map (some bd)) := by simp [World.cell?, show w'.heap[bt]? = _ from hK]
      unfold TPost
      first | simp only [frL, List.length_cons, List.length_nil, List.take_succ_cons, List.take_zero, Nat.reduceAdd, Nat.zero_add, List.setIfInBounds_toArray, List.set_cons_zero, List.set_cons_succ, hd] | simp only [frL, List.length_cons, List.length_nil, List.take_succ_cons, List.take_zero, Nat.reduceAdd, Nat.zero_add, List.setIfInBounds_toArray, List.set_cons_zero, List.set_cons_succ]
      go_wp2
      first | (with_reducible exact Ext.refl _) | exact ⟨rfl, _, rfl, (fun u hu => by simpa using hu), (by (repeat (first | (with_reducible assumption) | (with_reducible exact Ext.refl _) | (with_reducible refine Ext.drew ?_) | (with_reducible refine Ext.drewN ?_ _) | (with_reducible refine Ext.alloc ?_ _) | (with_reducible refine Ext.trans ?_ (by with_reducible assumption)))))⟩ | (with_reducible exact (by (repeat (first | (with_reducible assumption) | (with_reducible exact Ext.refl _) | (with_reducible refine Ext.drew ?_) | (with_reducible refine Ext.drewN ?_ _) | (with_reducible refine Ext.alloc ?_ _) | (with_reducible refine Ext.trans ?_ (by with_reducible assumption))))))
    case s5 =>
      intro x w' hd
      try simp [Region.binds] at hd
      refine ⟨fun _ _ hK => ?_, fun h => absurd h (by decide), fun h => absurd h (by decide)⟩
      have kc : w'.cell? ⟨bt, 1, none⟩ = some (.map (some bd)) := by simp [World.cell?, show w'.heap[bt]? = _ from hK]
      unfold TPost
      first | simp only [frL, List.length_cons, List.length_nil, List.take_succ_cons, List.take_zero, Nat.reduceAdd, Nat.zero_add, List.setIfInBounds_toArray, List.set_cons_zero, List.set_cons_succ, hd] | simp only [frL, List.length_cons, List.length_nil, List.take_succ_cons, List.take_zero, Nat.reduceAdd, Nat.zero_add, List.setIfInBounds_toArray, List.set_cons_zero, List.set_cons_succ]
      go_wp2
      first | (with_reducible exact Ext.refl _) | exact ⟨rfl, _, rfl, (fun u hu => by simpa using hu), (by (repeat (first | (with_reducible assumption) | (with_reducible exact Ext.refl _) | (with_reducible refine Ext.drew ?_) | (with_reducible refine Ext.drewN ?_ _) | (with_reducible refine Ext.alloc ?_ _) | (with_reducible refine Ext.trans ?_ (by with_reducible assumption)))))⟩ | (with_reducible exact (by (repeat (first | (with_reducible assumption) | (with_reducible exact Ext.refl _) | (with_reducible refine Ext.drew ?_) | (with_reducible refine Ext.drewN ?_ _) | (with_reducible refine Ext.alloc ?_ _) | (with_reducible refine Ext.trans ?_ (by with_reducible assumption))))))
    case sm =>
      intro x w' hd
      try simp [Region.binds] at hd
      refine ⟨fun h => absurd rfl h, fun _ hS => ?_, fun h => absurd h (by decide)⟩
      have hE : Ext w5 w' := hS
      have D1 := hid (CM.out w' hE)
      unfold TPost
      first | simp only [frL, List.length_cons, List.length_nil, List.take_succ_cons, List.take_zero, Nat.reduceAdd, Nat.zero_add, List.setIfInBounds_toArray, List.set_cons_zero, List.set_cons_succ, hd] | simp only [frL, List.length_cons, List.length_nil, List.take_succ_cons, List.take_zero, Nat.reduceAdd, Nat.zero_add, List.setIfInBounds_toArray, List.set_cons_zero, List.set_cons_succ]
      go_wp2_with fail
      refine (D1.out).mono ?_
      rintro e wa ⟨v', rfl, ho, hg, hb⟩
      have ge := fun k (hk : (Value.slice a4 (R.length + Wd.length) c4).ownBlock = some k) => (own_ge ho k (hb.trans hk) : w2.heap.size ≤ k)
      go_wp2
      obtain ⟨sv, rfl, _⟩ := sv_of_own ho
      exact ⟨sv, rfl, (E5.trans hE).grown hg ge, ho⟩
    case sz =>
      intro x w' hd
      try simp [Region.binds] at hd
      refine ⟨fun _ h => absurd rfl h, fun h => absurd h (by decide), fun _ hS => ?_⟩
      obtain ⟨sv, hx, hE, ho⟩ := hS
      have hm1 := ownsMap_ext hmapd hE
      unfold TPost
      first | simp only [frL, List.length_cons, List.length_nil, List.take_succ_cons, List.take_zero, Nat.reduceAdd, Nat.zero_add, List.setIfInBounds_toArray, List.set_cons_zero, List.set_cons_succ, hd, hx] | simp only [frL, List.length_cons, List.length_nil, List.take_succ_cons, List.take_zero, Nat.reduceAdd, Nat.zero_add, List.setIfInBounds_toArray, List.set_cons_zero, List.set_cons_succ, hx]
      go_wp2_with (first | (at_mapUpdate; refine wpList_mapUpdate_own _ rfl _ _ _ 175 rfl 3 23 lawInt Tryz.underlying175 _ bd nd Dd rfl hm1 (by unfold maxLen; omega) _ _ (kI A.length) rfl rfl hkeyI (dV sv) [] (svElem_mk sv) ?_; intro w3 hown3 hg3))
      obtain ⟨q1, q2⟩ := lock_deed (d := d) (HLN.out.ext hE) hg0.out (H.out.nones _ fun n e h1 _ => by omega) hm1 hnd hFd HSZ.out hok (own_base (by rw [HTL.out]; exact ho) hB2) hown3 hg3
      exact ⟨⟨sv, q1⟩, (TFr.of_ext hE).trans q2⟩
  case st0 => intro a b E h; exact Ext.trans h E
  case st1 =>
    rintro v a b E ⟨sv, e, h, hm⟩
    exact ⟨sv, e, h.trans E, own_ext hm E⟩
  case k0 =>
    intro a h
    exact (E5.trans h).heap hbox2
  case k1 =>
    rintro v a ⟨sv, e, h, hm⟩
    exact h.heap hbox2
  case h0 => exact (Ext.refl _).drew
  case he =>
    intro x w6 hd hS
    obtain ⟨sv, q1, q2⟩ := hS
    simp only [frL, List.length_cons, List.length_nil, List.take_succ_cons, List.take_zero, Nat.reduceAdd, Nat.zero_add, List.setIfInBounds_toArray, List.set_cons_zero, List.set_cons_succ]
    clear hd
    have o26 := q2.ownG HLN.out p2 (by decide) (by decide)
    obtain ⟨sv', hsv', own6⟩ := q1.rows A.length (by simp) hg0.out
    simp only [if_true] at hsv'
    injection hsv' with hsv'
    subst hsv'
    rw [show (A ++ [d]).getD A.length [] = d by simp, HTL.out] at own6
    obtain ⟨nd6, Dd6, hmapd6, hnd6, hFd6, _⟩ := q1.dm
    have hbox6 := q1.box
    have cb6 : w6.cell? ⟨bt, 1, none⟩ = some (.map (some bd)) := by simp [World.cell?, hbox6]
    have HQ := hid q1
    have T6 := hid ((T2.out).trans q2)
    obtain ⟨ar, cr, hsv⟩ := own_form own6
    rw [hsv] at own6
    have HSV := hid hsv
    clear q1 hsv hbox2 hbox6 p2 hmapd hFd hnd q2 CM E5
    go_wp2_with (first | (at_lookup; refine wpList_lookup_sv _ rfl _ _ 175 rfl 3 23 lawInt Tryz.underlying175 (hzero _) bd nd6 Dd6 _ hFd6 rfl hmapd6 _ (A.length : Int) hok rfl hkeyI ?_; simp only [if_true, Option.getD_some, HSV.out]))
    clear hmapd6 hFd6 hnd6 cb6
    go_loopw [12, 58] (fun _ iv wr => ∃ (j : Nat) (F' : ByteArray → Option SV), j ≤ L.length ∧ iv = .int .i64 j ∧ LockG wr B bt bk bd (A ++ [d]) g F' (fun z => if z = (A.length : Int) then some sv else G z) (clA A g d (L.take j)) (N0 + j) (A.length + 1) ∧ TFr B bt bk bd w6 wr) (fun _ iv _ => L.length - (intOf iv).toNat)
    case atStart => exact ⟨0, F, Nat.zero_le _, rfl, by rw [List.take_zero, clA_nil]; exact HQ.out, TFr.refl _⟩
    case round =>
      obtain ⟨wo, rfl⟩ : ∃ wo : World, wo = wr := ⟨_, rfl⟩
      obtain ⟨j, F', hj, rfl, hG', hT⟩ := hrel
      by_cases hlt' : j < L.length
      · have hrow' := hT.ownG HQ.out own6 (by decide) (by decide)
        have w2' := hT.ownG HQ.out o26 (by decide) (by decide)
        obtain ⟨gr, cr', he, _, _⟩ := own_form_g hrow' (by omega)
        injection he with he1 _ he3
        subst he1; subst he3
        obtain ⟨_, _, he, _, _, _, hc⟩ := seg_cells (own_seg hrow') (by omega)
        injection he with he; injection he with he1 he2
        subst he1; subst he2
        have x0 := hc j (.string L[j]) (by simp [cS, hlt'])
        rw [Nat.zero_add] at x0
        have kj := TK.out L[j] (List.getElem_mem hlt')
        have hno := HL.out.2.2 hlt'
        have hstep := CST.out (L.take j) L[j] hno
        rw [← List.take_succ_eq_append_getElem hlt'] at hstep
        have hcl := clA_len A g d (L.take j) L[j]
        clear hc hno
        generalize L[j] = key at x0 kj hstep hcl
        have hokS : okS key := by have := keyB_size kj; unfold okS maxLen; omega
        have hkey := WideMaps.keyOf_string_mk Tryz.underlying9 (P := Tryz.prog) (k := 9) (s := key) hokS
        obtain ⟨n, D, hmap, hn, hF⟩ := hG'.km
        have hbox := hG'.box
        have cbx : wo.cell? ⟨bt, 0, none⟩ = some (.map (some bk)) := by simp [World.cell?, hbox]
        have hown := hG'.keys key
        have hne := claim_ne_box hG' key
        have hwne : (Value.slice a2 Wd.length c2).ownBlock = none ∨ (Value.slice a2 Wd.length c2).ownBlock ≠ (svV ((F' key).getD none)).ownBlock := own_own_ne w2' hown (by decide)
        have hBo : B ≤ wo.heap.size := by
          have := (Array.getElem?_eq_some_iff.1 hbox).1
          have := hG'.hBt; omega
        obtain ⟨bb, hbb⟩ : ∃ b, memB (wrs d) key = b := ⟨_, rfl⟩
        have CN := hid ((MW.out key).trans hbb)
        rw [hbb] at hstep
        have GN := hid (fun k (hk : wo.heap.size ≤ k) => (gk_none (fun e => by have := (hown.lt k e).2; omega) : GK (svV ((F' key).getD none)) (clA A g d (L.take j) key).length [.int .i64 A.length, .bool bb] k = none))
        have HG' := hid hG'
        clear hG' kj hbb
        obtain ⟨cl, hcle⟩ : ∃ cl, clA A g d (L.take j) key = cl := ⟨_, rfl⟩
        rw [hcle] at hstep hcl hown GN
        have HST := hid hstep
        clear hstep hcle
        go_wp2_with fail
        refine PR.wp_region_ph (gf_fr (GK (svV ((F' key).getD none)) cl.length [.int .i64 A.length, .bool bb])) [PR.RS.k (.pointer (some ⟨bt, 0, none⟩)), PR.RS.k (.pointer (some ⟨bt, 0, none⟩)), PR.RS.k (.pointer (some ⟨bt, 0, none⟩)), PR.RS.k (.map (some bk)), PR.RS.k (.string key), PR.RS.k (.pointer (some ⟨bt, 0, none⟩)), PR.RS.k (.pointer (some ⟨bt, 0, none⟩)), PR.RS.k (.pointer (some ⟨bt, 0, none⟩)), PR.RS.k (.map (some bk)), PR.RS.k (.string key), PR.RS.k (svV ((F' key).getD none)), PR.RS.k (.int .i64 A.length), PR.RS.k (.slice a2 Wd.length c2), PR.RS.k (.string key), PR.RS.k (.bool bb), PR.RS.k (.agg #[.int .i64 A.length, .bool bb]), PR.RS.p (NewB wo.heap.size #[.int .i64 A.length, .bool bb] 181 1), PR.RS.p (AppK (GK (svV ((F' key).getD none)) cl.length [.int .i64 A.length, .bool bb]) wo.heap.size B (svV ((F' key).getD none)) (cl.length + 1) (cK cl ++ [.int .i64 A.length, .bool bb]))] [[], [], [], [], [], [], [], [], [], [], [], [], [], [], [], [], [], []] [] (by kernel_rfl) (by kernel_rfl) (by kernel_rfl) rfl rfl rfl (by kernel_rfl) ?hs ?hC ?he
        case hC =>
          intro i hi
          simp at hi
        case hs =>
          refine ⟨?_, ?_, ?_, ?_, ?_, ?_, ?_, ?_, ?_, ?_, ?_, ?_, ?_, ?_, ?_, ?_, ?_, ?_, trivial⟩
          all_goals (
            intro x w' hE hd
            try simp [PR.PhDeps, PR.at_k, PR.at_p, PR.at_d, PR.at_any, Region.binds] at hd
            have hb' := gf_heap hE hbox (gk_none hne.1)
            have d3 : w'.cell? ⟨bt, 0, none⟩ = some (.map (some bk)) := by simp [World.cell?, hb']
            clear hb'
            have dm := hmap.kept (gk_grown hE) (fun e => hne.2.1 e.symm)
            have sw := own_seg (gk_ne hE w2' hwne)
            have ow := OwnG.st hE (gk_own hown)
            have sz := gf_size hE
            first | simp only [frL, List.length_cons, List.length_nil, List.take_succ_cons, List.take_zero, Nat.reduceAdd, Nat.zero_add, List.setIfInBounds_toArray, List.set_cons_zero, List.set_cons_succ, hd] | simp only [frL, List.length_cons, List.length_nil, List.take_succ_cons, List.take_zero, Nat.reduceAdd, Nat.zero_add, List.setIfInBounds_toArray, List.set_cons_zero, List.set_cons_succ]
            go_wp2_with (first | (at_lookup; refine wpList_lookup_sv _ rfl _ _ 174 rfl 9 178 lawStr Tryz.underlying174 (hzeroK _) bk n D F' hF rfl dm _ key hokS rfl hkey ?_) | (go_at_call 122; refine (contains_Str _ Wd _ sw key).mono ?_; rintro e wa ⟨rfl, rfl⟩; rw [CN.out]) | (at_builtin; refine (wpList_appG rfl _ _ 178 rfl B 181 (.agg #[.int .i64 0, .bool false]) 2 16 Tryz.underlying178 infoDelK rfl (by decide) _ cl.length (cK cl) rfl ow.1 _ 1 [.int .i64 A.length, .bool bb] rfl (by decide) (hd.2.1.now (fun a b => NewB.st GN.out a b)).segK (one_claim _ _) (by omega) (by unfold maxLen; omega) (by omega) (GK (svV ((F' key).getD none)) cl.length [.int .i64 A.length, .bool bb]) (fun g hg => ⟨_, rfl, g2_fst g hg⟩) (fun k hk => GN.out k (by omega)) ?_); intro v' w'' o1 o2 o3))
            all_goals first
              | ((with_reducible refine PR.phK ?_ ?_); (focus rfl); exact gf_ext (by (repeat (first | (with_reducible assumption) | (with_reducible exact Ext.refl _) | (with_reducible refine Ext.drew ?_) | (with_reducible refine Ext.drewN ?_ _) | (with_reducible refine Ext.alloc ?_ _) | (with_reducible refine Ext.trans ?_ (by with_reducible assumption))))))
              | (exact PR.phN (gf_fr _) ⟨o1, fun k hk => (o3 k hk).imp id (fun h => by omega)⟩ hE o2)
              | (with_reducible exact phNew hE))
        case he =>
          intro x w9 hF9 hd
          simp [PR.PhEnd, PR.at_k, PR.at_p, PR.at_d] at hd
          obtain ⟨e0, e1, e2, e3, e4, e5, e6, e7, e8, e9, e10, e11, e12, e13, e14, e15, u16, u17⟩ := hd
          have MA := mid_app (l' := cl ++ [(A.length, bb)]) HG'.out hF9 u17 (by simp) (cK_snoc _ _ _).symm
          have hm9 := hmap.kept (gk_grown hF9) (fun e => hne.2.1 e.symm)
          simp only [frL, List.length_cons, List.length_nil, List.take_succ_cons, List.take_zero, Nat.reduceAdd, Nat.zero_add, List.setIfInBounds_toArray, List.set_cons_zero, List.set_cons_succ, e0, e1, e2, e3, e4, e5, e6, e7, e8, e9, e10, e11, e12, e13, e14, e15, List.length_cons, List.length_nil, List.drop_succ_cons, List.drop_zero]
          clear e0 e1 e2 e3 e4 e5 e6 e7 e8 e9 e10 e11 e12 e13 e14 e15 u16 u17 hF9
          generalize x 17 = v9 at MA ⊢
          obtain ⟨_, _, _, how, _⟩ := id MA
          obtain ⟨sv9, rfl, _⟩ := sv_of_own how
          have MA := hid MA
          clear how
          go_wp2_with (first | (at_mapUpdate; refine wpList_mapUpdate_own _ rfl _ _ _ 174 rfl 9 178 lawStr Tryz.underlying174 _ bk n D rfl hm9 (by unfold maxLen; omega) _ _ (kS key) rfl rfl hkey (dV sv9) [] (svElem_mk sv9) ?_; intro w10 hown10 hg10))
          obtain ⟨r1, r2⟩ := mid_store MA.out hokS hm9 hn hF hown10 hg10
          rw [HST.out, Nat.add_assoc] at r1
          have R1 := hid r1
          clear r1
          go_roundw
          case rel => exact ⟨j + 1, _, by omega, by go_num, R1.out, hT.trans r2⟩
          case measure => simp [intOf] <;> omega
      · obtain rfl : j = L.length := by omega
        rw [List.take_of_length_le (Nat.le_refl _)] at hG'
        have hlen : (A ++ [d]).length = A.length + 1 := by simp
        rw [← hlen] at hG'
        have LF : LockSt wo B bt bk bd (A ++ [d]) g F' (fun z => if z = (A.length : Int) then some sv else G z) := by
          refine hG'.st ?_ (fun k => HL.out.2.1 k) (fun z hz => ?_) (fun m hm => H.out.later m (by rw [hlen] at hm; omega)) (by rw [hlen]; omega) (fun d' hd' => ?_)
          · rw [hlen]
            have e1 : liveN g (A.length + 1) = liveN g A.length + 1 := by simp [liveN, hg0.out]
            have e2 := live_le g A.length
            have e3 := HN0.out
            rw [e1]; omega
          · by_cases e : z = (A.length : Int)
            · exact (hz A.length e (by rw [hlen]; omega) hg0.out).elim
            · rw [if_neg e]
              exact H.out.nones z fun m e1 h1 h2 => hz m e1 (by rw [hlen]; omega) h2
          · rcases List.mem_append.1 hd' with e | e
            · exact H.out.dok d' e
            · simp at e; subst e; exact hd
        have LF := hid LF
        clear hG' hlen
        go_wp2
        go_ret2
        exact ⟨rT2 rfl rfl, ⟨_, _, LF.out⟩, (T6.out).trans hT⟩
end Go.Proofs.YtimchedebcoohaaGreat
