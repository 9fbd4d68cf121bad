/- Contracts and lemmas for the proof of MergePlays; each theorem states its own conditions. -/
import Derived.Test.YtddghaoejnbkaaaDoorQMergePlaysax
import Derived.Test.YtddghaoejnbkaaaDoorQMergePlaysam
set_option linter.unusedVariables false
set_option linter.unusedSimpArgs false
/- Contracts and lemmas for the proofs of this seat; each theorem states its own conditions. -/
namespace Go.Proofs.YtddghaoejnbkaaaDoor
open Go.RowKit
variable {eB : Nat}
/-! merge.check, merge.Add, merge.New -/
def entE (x : Ent) : Int := if x.im = true then mapErr x.cuts x.own else deedE x.ops
structure EntSz (x : Ent) : Prop where
  ops : opsSm x.ops
  cuts : ∀ k ∈ x.cuts, k.size ≤ 9223372036854775807
set_option maxRecDepth 100000 in
set_option maxHeartbeats 2000000 in
theorem echeck_any (e : EV) (x : Ent) (w : World) (h : EntSeg w e x) (sz : EntSz x) :
    Calls Tryd.prog 21 #[evV e] w fun r w' => r = .returned (.int .i64 (entE x)) ∧ Ext w w' := by
  obtain ⟨v1, b, v2, v3⟩ := e
  obtain ⟨h1, hb, h2, h3⟩ := h
  dsimp only at h1 hb h2 h3
  have b0 := heap_alloc_new w (.cells #[v1, .bool b, v2, v3] 41)
  have E0 := (Ext.refl w).alloc (.cells #[v1, .bool b, v2, v3] 41)
  have k0 := blk4 b0
  have C1 := hid (mcheck_any (.agg #[v2, v3]) x.cuts x.own _ ⟨v2, v3, rfl, h2.ext E0, h3.ext E0⟩ sz.cuts)
  have C2 := hid (dcheck_any v1 x.ops _ (h1.ext E0) sz.ops)
  show Calls _ _ #[.agg #[v1, .bool b, v2, v3]] _ _
  have hE : entE x = if b = true then mapErr x.cuts x.own else deedE x.ops := by rw [hb]; rfl
  rw [hE]
  clear h1 h2 h3 hb hE sz
  cases b with
  | true =>
    rw [if_pos rfl]
    go_enter Tryd.func21, Tryd.ntmps21
    go_wp2_with fail
    refine (C1.out).mono ?_
    rintro r w1 ⟨rfl, E1⟩
    go_wp2
    go_ret
    exact ⟨rfl, E0.trans E1⟩
  | false =>
    rw [if_neg (by decide)]
    go_enter Tryd.func21, Tryd.ntmps21
    go_wp2_with fail
    refine (C2.out).mono ?_
    rintro r w1 ⟨rfl, E1⟩
    go_wp2
    go_ret
    exact ⟨rfl, E0.trans E1⟩
/-- a merge's entry that has been made -/
def NewE (eB : Nat) (y : Ent) (u : Value) (w : World) : Prop := ∃ e', u = evV e' ∧ EntSt eB w e' y
theorem NewE.ext {y : Ent} {u : Value} {a b : World} (h : NewE eB y u a) (E : Ext a b) : NewE eB y u b := by
  obtain ⟨e, h1, h2⟩ := h
  exact ⟨e, h1, h2.ext E⟩
def NewEB (eB : Nat) (y : Ent) (v : Value) (w : World) : Prop := ∃ e' b, EntSt eB w e' y ∧ v = .slice (some ⟨b, 0, none⟩) 1 1 ∧ w.heap[b]? = some (.cells (evC e').toArray 41 (0, 0))
theorem NewEB.ext {y : Ent} {v : Value} {a b : World} (h : NewEB eB y v a) (E : Ext a b) : NewEB eB y v b := by
  obtain ⟨e, k, h1, h2, h3⟩ := h
  exact ⟨e, k, h1.ext E, h2, E.heap h3⟩
def AppE (eB : Nat) (w : World) (y : Ent) (n : Nat) (es : List EV) (r v : Value) (w' : World) : Prop := ∃ e', AppM w 41 4 (n + 1) (cEn es ++ evC e') r v w' ∧ EntSt eB w' e' y
theorem AppE.ext {w : World} {y : Ent} {n : Nat} {es : List EV} {r v : Value} {a b : World} (h : AppE eB w y n es r v a) (E : Ext a b) : AppE eB w y n es r v b := by
  obtain ⟨e, h1, h2⟩ := h
  exact ⟨e, h1.ext E, h2.ext E⟩
def StoE (eB : Nat) (w : World) (y : Ent) (n : Nat) (es : List EV) (r : Value) (b i : Nat) (w' : World) : Prop := ∃ v w1, AppE eB w y n es r v w1 ∧ w' = w1.setCell ⟨b, i, none⟩ v
set_option maxRecDepth 100000 in
set_option maxHeartbeats 4000000 in
theorem madd_any {w : World} {S : Nat → Prop} {bm : Nat} {cl : List (List Bat)} {op : List Bat} (h : MergeSt eB w S bm cl op) (i : Nat) (hi : i < cl.length) (e : EV) (x : Ent) (hx : EntSeg w e x) (sm : EntSm (plainE x)) (sz : EntSz x) (hok : entE x = 0)
    (hfew : manyM cl op < 60) (hcl : ∀ i, i < cl.length → (cl.getD i []).length ≤ 1000000) (hop : (op.getD i []).length < 60) :
    Calls Tryd.prog 10 #[.pointer (some ⟨bm, 0, none⟩), .int .i64 i, evV e] w fun r w' => r = .returned (.int .i64 0) ∧ ∃ S', MergeSt eB w' S' bm cl (addM op i (plainE x)) ∧ Kp S w w' S' := by
  have E0 := (Ext.refl w).alloc (.cells (evC e).toArray 41)
  have b0 := heap_alloc_new w (.cells (evC e).toArray 41)
  have MM := hid (fun w' (E : Ext w w') => mmany_ok (h.ext E) (by omega) hcl)
  have EC := hid (fun w' (E : Ext w w') => echeck_any e x w' (hx.ext E) sz)
  have EP := hid (fun w' (E : Ext w w') => eplain_any' (eB := eB) e x w' (hx.ext E) sm (Nat.le_trans h.bs E.size'))
  obtain ⟨bc, bo, vc, vo, h⟩ := h
  have H := hid h
  have n0 := h.n0
  have n4 := h.n4
  have cb := h.cells.1
  have cb' := h.cells.2
  obtain ⟨oi, fo⟩ := h.cellO hi
  obtain ⟨es, hes, hown, hin⟩ := h.opn i hi
  obtain ⟨ao, ko, e2⟩ := own_form hown
  have nbm := own_ne hown h.box (by decide)
  have nbc := own_ne hown h.crow (by decide)
  have nbo := own_ne hown h.orow (by decide)
  have HA := hid (fun (W : World) (E : Ext w W) w' e' v a b c d => add_store (W := W) (w' := w') (e' := e') (v := v) (y := plainE x) (h.ext E) hi (hes.ext E) (own_ext hown E) hin a b c d)
  have HNB := hid (fun (q : (vo i).ownBlock = some w.heap.size) => Nat.lt_irrefl _ (hown.lt _ q).2)
  have HE2 := hid e2
  rw [e2] at oi hown nbm nbc nbo HA HNB
  clear h hes hin e2
  rw [hok] at EC
  obtain ⟨M, hM⟩ : ∃ M, (op.getD i []).length = M := ⟨_, rfl⟩
  rw [hM] at oi hown nbm nbc nbo hop HA HE2 HNB
  clear hM
  generalize plainE x = y at EP HA ⊢
  obtain ⟨T, hT⟩ : ∃ T, manyM cl op = T := ⟨_, rfl⟩
  rw [hT] at MM hfew
  clear hT hx sm sz hok hcl
  obtain ⟨v1, b, v2, v3⟩ := e
  dsimp only [evC] at E0 b0
  have k0 := blk4 (show (w.alloc (.cells #[v1, .bool b, v2, v3] 41)).heap[w.heap.size]? = some (.cells #[v1, .bool b, v2, v3] 41 (0, 0)) from b0)
  have qa : ¬ ((i : Int) < 0) := by omega
  have qb : ¬ ((i : Int) ≥ (cl.length : Int)) := by omega
  have qc : ((T : Int) == 60) = false := by simp; omega
  have cb1 := E0.cell cb'
  show Calls _ _ #[_, _, .agg #[v1, .bool b, v2, v3]] _ _
  go_enter Tryd.func10, Tryd.ntmps10
  go_wp2_with fail
  refine (EC.out _ E0).mono ?_
  rintro r w1 ⟨rfl, E1⟩
  have E01 := E0.trans E1
  go_wp2_with fail
  refine (MM.out _ E01).mono ?_
  rintro r w2 ⟨rfl, E2⟩
  have E02 := E01.trans E2
  have HB2 := hid ((E1.trans E2).heap (show (w.alloc (.cells #[v1, .bool b, v2, v3] 41)).heap[w.heap.size]? = some (.cells #[v1, .bool b, v2, v3] 41 (0, 0)) from b0))
  replace k0 := blk4 ((E1.trans E2).heap (show (w.alloc (.cells #[v1, .bool b, v2, v3] 41)).heap[w.heap.size]? = some (.cells #[v1, .bool b, v2, v3] 41 (0, 0)) from b0))
  replace cb' := E02.cell cb'
  replace oi := E02.cell oi
  replace hown := own_ext hown E02
  clear cb1 E0 E1 E2 E01 MM EC cb fo b0
  go_wp2_with fail
  refine wp_region_pq (by kernel_rfl) (by kernel_rfl) (fun ii => match ii with | 0 => some (.pointer (some ⟨bm, 0, none⟩)) | 1 => some (.pointer (some ⟨bm, 0, none⟩)) | 2 => some (.pointer (some ⟨bm, 1, none⟩)) | 3 => some (.slice (some ⟨bo, 0, none⟩) cl.length cl.length) | 4 => some (.int .i64 i) | 5 => some (.pointer (some ⟨bm, 0, none⟩)) | 6 => some (.pointer (some ⟨bm, 0, none⟩)) | 7 => some (.pointer (some ⟨bm, 1, none⟩)) | 8 => some (.slice (some ⟨bo, 0, none⟩) cl.length cl.length) | 9 => some (.int .i64 i) | 10 => some (.pointer (some ⟨bo, i, none⟩)) | 11 => some (.slice ao M ko) | 12 => some (.agg #[v1, .bool b, v2, v3]) | 16 => some (.pointer (some ⟨bo, i, none⟩)) | _ => none) 13 14 15 17 (by decide) (by kernel_rfl) (by kernel_rfl) (by kernel_rfl) (by kernel_rfl) (by kernel_rfl) (fun w' => w'.cell? ⟨bm, 1, none⟩ = some (.slice (some ⟨bo, 0, none⟩) cl.length cl.length) ∧ w'.cell? ⟨bo, i, none⟩ = some (.slice ao M ko) ∧ w'.cell? ⟨w.heap.size, 0, none⟩ = some v1 ∧ w'.cell? ⟨w.heap.size, 1, none⟩ = some (.bool b) ∧ w'.cell? ⟨w.heap.size, 2, none⟩ = some v2 ∧ w'.cell? ⟨w.heap.size, 3, none⟩ = some v3) (fun w' => Ext w2 w') (fun v w' => NewE eB y v w') (fun _ v w' => NewEB eB y v w') (fun v w' => AppE eB w2 y M es (.slice ao M ko) v w') (fun w' => StoE eB w2 y M es (.slice ao M ko) bo i w') ?st0 ?stp ?stq ?st1 ?k0 ?k1 ?h0 ?hs ?he
  case hs =>
    refine ⟨?s0, ?s1, ?s2, ?s3, ?s4, ?s5, ?s6, ?s7, ?s8, ?s9, ?s10, ?s11, ?s12, ?sp, ?sq, ?sm, ?s16, ?sz, trivial⟩
    case s0 =>
      intro x w' hd
      try simp [Region.binds] at hd
      refine ⟨fun _ _ _ _ hK => ?_, fun h => absurd h (by decide), fun h => absurd h (by decide), fun h => absurd h (by decide), fun h => absurd h (by decide)⟩
      obtain ⟨d1, d2, d3, d4, d5, d6⟩ := hK
      unfold TPost
      first | simp only [frL, List.length_cons, List.length_nil, List.take_succ_cons, List.take_zero, Nat.reduceAdd, Nat.zero_add, List.setIfInBounds_toArray, List.set_cons_zero, List.set_cons_succ, hd] | simp only [frL, List.length_cons, List.length_nil, List.take_succ_cons, List.take_zero, Nat.reduceAdd, Nat.zero_add, List.setIfInBounds_toArray, List.set_cons_zero, List.set_cons_succ]
      go_wp2
      first | (with_reducible exact Ext.refl _) | exact ⟨rfl, _, rfl, (fun u hu => by simpa using hu), (by (repeat (first | (with_reducible assumption) | (with_reducible exact Ext.refl _) | (with_reducible refine Ext.drew ?_) | (with_reducible refine Ext.drewN ?_ _) | (with_reducible refine Ext.alloc ?_ _) | (with_reducible refine Ext.trans ?_ (by with_reducible assumption)))))⟩ | (with_reducible exact (by (repeat (first | (with_reducible assumption) | (with_reducible exact Ext.refl _) | (with_reducible refine Ext.drew ?_) | (with_reducible refine Ext.drewN ?_ _) | (with_reducible refine Ext.alloc ?_ _) | (with_reducible refine Ext.trans ?_ (by with_reducible assumption))))))
    case s1 =>
      intro x w' hd
      try simp [Region.binds] at hd
      refine ⟨fun _ _ _ _ hK => ?_, fun h => absurd h (by decide), fun h => absurd h (by decide), fun h => absurd h (by decide), fun h => absurd h (by decide)⟩
      obtain ⟨d1, d2, d3, d4, d5, d6⟩ := hK
      unfold TPost
      first | simp only [frL, List.length_cons, List.length_nil, List.take_succ_cons, List.take_zero, Nat.reduceAdd, Nat.zero_add, List.setIfInBounds_toArray, List.set_cons_zero, List.set_cons_succ, hd] | simp only [frL, List.length_cons, List.length_nil, List.take_succ_cons, List.take_zero, Nat.reduceAdd, Nat.zero_add, List.setIfInBounds_toArray, List.set_cons_zero, List.set_cons_succ]
      go_wp2
      first | (with_reducible exact Ext.refl _) | exact ⟨rfl, _, rfl, (fun u hu => by simpa using hu), (by (repeat (first | (with_reducible assumption) | (with_reducible exact Ext.refl _) | (with_reducible refine Ext.drew ?_) | (with_reducible refine Ext.drewN ?_ _) | (with_reducible refine Ext.alloc ?_ _) | (with_reducible refine Ext.trans ?_ (by with_reducible assumption)))))⟩ | (with_reducible exact (by (repeat (first | (with_reducible assumption) | (with_reducible exact Ext.refl _) | (with_reducible refine Ext.drew ?_) | (with_reducible refine Ext.drewN ?_ _) | (with_reducible refine Ext.alloc ?_ _) | (with_reducible refine Ext.trans ?_ (by with_reducible assumption))))))
    case s2 =>
      intro x w' hd
      try simp [Region.binds] at hd
      refine ⟨fun _ _ _ _ hK => ?_, fun h => absurd h (by decide), fun h => absurd h (by decide), fun h => absurd h (by decide), fun h => absurd h (by decide)⟩
      obtain ⟨d1, d2, d3, d4, d5, d6⟩ := hK
      unfold TPost
      first | simp only [frL, List.length_cons, List.length_nil, List.take_succ_cons, List.take_zero, Nat.reduceAdd, Nat.zero_add, List.setIfInBounds_toArray, List.set_cons_zero, List.set_cons_succ, hd] | simp only [frL, List.length_cons, List.length_nil, List.take_succ_cons, List.take_zero, Nat.reduceAdd, Nat.zero_add, List.setIfInBounds_toArray, List.set_cons_zero, List.set_cons_succ]
      go_wp2
      first | (with_reducible exact Ext.refl _) | exact ⟨rfl, _, rfl, (fun u hu => by simpa using hu), (by (repeat (first | (with_reducible assumption) | (with_reducible exact Ext.refl _) | (with_reducible refine Ext.drew ?_) | (with_reducible refine Ext.drewN ?_ _) | (with_reducible refine Ext.alloc ?_ _) | (with_reducible refine Ext.trans ?_ (by with_reducible assumption)))))⟩ | (with_reducible exact (by (repeat (first | (with_reducible assumption) | (with_reducible exact Ext.refl _) | (with_reducible refine Ext.drew ?_) | (with_reducible refine Ext.drewN ?_ _) | (with_reducible refine Ext.alloc ?_ _) | (with_reducible refine Ext.trans ?_ (by with_reducible assumption))))))
    case s3 =>
      intro x w' hd
      try simp [Region.binds] at hd
      refine ⟨fun _ _ _ _ hK => ?_, fun h => absurd h (by decide), fun h => absurd h (by decide), fun h => absurd h (by decide), fun h => absurd h (by decide)⟩
      obtain ⟨d1, d2, d3, d4, d5, d6⟩ := hK
      unfold TPost
      first | simp only [frL, List.length_cons, List.length_nil, List.take_succ_cons, List.take_zero, Nat.reduceAdd, Nat.zero_add, List.setIfInBounds_toArray, List.set_cons_zero, List.set_cons_succ, hd] | simp only [frL, List.length_cons, List.length_nil, List.take_succ_cons, List.take_zero, Nat.reduceAdd, Nat.zero_add, List.setIfInBounds_toArray, List.set_cons_zero, List.set_cons_succ]
      go_wp2
      first | (with_reducible exact Ext.refl _) | exact ⟨rfl, _, rfl, (fun u hu => by simpa using hu), (by (repeat (first | (with_reducible assumption) | (with_reducible exact Ext.refl _) | (with_reducible refine Ext.drew ?_) | (with_reducible refine Ext.drewN ?_ _) | (with_reducible refine Ext.alloc ?_ _) | (with_reducible refine Ext.trans ?_ (by with_reducible assumption)))))⟩ | (with_reducible exact (by (repeat (first | (with_reducible assumption) | (with_reducible exact Ext.refl _) | (with_reducible refine Ext.drew ?_) | (with_reducible refine Ext.drewN ?_ _) | (with_reducible refine Ext.alloc ?_ _) | (with_reducible refine Ext.trans ?_ (by with_reducible assumption))))))
    case s4 =>
      intro x w' hd
      try simp [Region.binds] at hd
      refine ⟨fun _ _ _ _ hK => ?_, fun h => absurd h (by decide), fun h => absurd h (by decide), fun h => absurd h (by decide), fun h => absurd h (by decide)⟩
      obtain ⟨d1, d2, d3, d4, d5, d6⟩ := hK
      unfold TPost
      first | simp only [frL, List.length_cons, List.length_nil, List.take_succ_cons, List.take_zero, Nat.reduceAdd, Nat.zero_add, List.setIfInBounds_toArray, List.set_cons_zero, List.set_cons_succ, hd] | simp only [frL, List.length_cons, List.length_nil, List.take_succ_cons, List.take_zero, Nat.reduceAdd, Nat.zero_add, List.setIfInBounds_toArray, List.set_cons_zero, List.set_cons_succ]
      go_wp2
      first | (with_reducible exact Ext.refl _) | exact ⟨rfl, _, rfl, (fun u hu => by simpa using hu), (by (repeat (first | (with_reducible assumption) | (with_reducible exact Ext.refl _) | (with_reducible refine Ext.drew ?_) | (with_reducible refine Ext.drewN ?_ _) | (with_reducible refine Ext.alloc ?_ _) | (with_reducible refine Ext.trans ?_ (by with_reducible assumption)))))⟩ | (with_reducible exact (by (repeat (first | (with_reducible assumption) | (with_reducible exact Ext.refl _) | (with_reducible refine Ext.drew ?_) | (with_reducible refine Ext.drewN ?_ _) | (with_reducible refine Ext.alloc ?_ _) | (with_reducible refine Ext.trans ?_ (by with_reducible assumption))))))
    case s5 =>
      intro x w' hd
      try simp [Region.binds] at hd
      refine ⟨fun _ _ _ _ hK => ?_, fun h => absurd h (by decide), fun h => absurd h (by decide), fun h => absurd h (by decide), fun h => absurd h (by decide)⟩
      obtain ⟨d1, d2, d3, d4, d5, d6⟩ := hK
      unfold TPost
      first | simp only [frL, List.length_cons, List.length_nil, List.take_succ_cons, List.take_zero, Nat.reduceAdd, Nat.zero_add, List.setIfInBounds_toArray, List.set_cons_zero, List.set_cons_succ, hd] | simp only [frL, List.length_cons, List.length_nil, List.take_succ_cons, List.take_zero, Nat.reduceAdd, Nat.zero_add, List.setIfInBounds_toArray, List.set_cons_zero, List.set_cons_succ]
      go_wp2
      first | (with_reducible exact Ext.refl _) | exact ⟨rfl, _, rfl, (fun u hu => by simpa using hu), (by (repeat (first | (with_reducible assumption) | (with_reducible exact Ext.refl _) | (with_reducible refine Ext.drew ?_) | (with_reducible refine Ext.drewN ?_ _) | (with_reducible refine Ext.alloc ?_ _) | (with_reducible refine Ext.trans ?_ (by with_reducible assumption)))))⟩ | (with_reducible exact (by (repeat (first | (with_reducible assumption) | (with_reducible exact Ext.refl _) | (with_reducible refine Ext.drew ?_) | (with_reducible refine Ext.drewN ?_ _) | (with_reducible refine Ext.alloc ?_ _) | (with_reducible refine Ext.trans ?_ (by with_reducible assumption))))))
    case s6 =>
      intro x w' hd
      try simp [Region.binds] at hd
      refine ⟨fun _ _ _ _ hK => ?_, fun h => absurd h (by decide), fun h => absurd h (by decide), fun h => absurd h (by decide), fun h => absurd h (by decide)⟩
      obtain ⟨d1, d2, d3, d4, d5, d6⟩ := hK
      unfold TPost
      first | simp only [frL, List.length_cons, List.length_nil, List.take_succ_cons, List.take_zero, Nat.reduceAdd, Nat.zero_add, List.setIfInBounds_toArray, List.set_cons_zero, List.set_cons_succ, hd] | simp only [frL, List.length_cons, List.length_nil, List.take_succ_cons, List.take_zero, Nat.reduceAdd, Nat.zero_add, List.setIfInBounds_toArray, List.set_cons_zero, List.set_cons_succ]
      go_wp2
      first | (with_reducible exact Ext.refl _) | exact ⟨rfl, _, rfl, (fun u hu => by simpa using hu), (by (repeat (first | (with_reducible assumption) | (with_reducible exact Ext.refl _) | (with_reducible refine Ext.drew ?_) | (with_reducible refine Ext.drewN ?_ _) | (with_reducible refine Ext.alloc ?_ _) | (with_reducible refine Ext.trans ?_ (by with_reducible assumption)))))⟩ | (with_reducible exact (by (repeat (first | (with_reducible assumption) | (with_reducible exact Ext.refl _) | (with_reducible refine Ext.drew ?_) | (with_reducible refine Ext.drewN ?_ _) | (with_reducible refine Ext.alloc ?_ _) | (with_reducible refine Ext.trans ?_ (by with_reducible assumption))))))
    case s7 =>
      intro x w' hd
      try simp [Region.binds] at hd
      refine ⟨fun _ _ _ _ hK => ?_, fun h => absurd h (by decide), fun h => absurd h (by decide), fun h => absurd h (by decide), fun h => absurd h (by decide)⟩
      obtain ⟨d1, d2, d3, d4, d5, d6⟩ := hK
      unfold TPost
      first | simp only [frL, List.length_cons, List.length_nil, List.take_succ_cons, List.take_zero, Nat.reduceAdd, Nat.zero_add, List.setIfInBounds_toArray, List.set_cons_zero, List.set_cons_succ, hd] | simp only [frL, List.length_cons, List.length_nil, List.take_succ_cons, List.take_zero, Nat.reduceAdd, Nat.zero_add, List.setIfInBounds_toArray, List.set_cons_zero, List.set_cons_succ]
      go_wp2
      first | (with_reducible exact Ext.refl _) | exact ⟨rfl, _, rfl, (fun u hu => by simpa using hu), (by (repeat (first | (with_reducible assumption) | (with_reducible exact Ext.refl _) | (with_reducible refine Ext.drew ?_) | (with_reducible refine Ext.drewN ?_ _) | (with_reducible refine Ext.alloc ?_ _) | (with_reducible refine Ext.trans ?_ (by with_reducible assumption)))))⟩ | (with_reducible exact (by (repeat (first | (with_reducible assumption) | (with_reducible exact Ext.refl _) | (with_reducible refine Ext.drew ?_) | (with_reducible refine Ext.drewN ?_ _) | (with_reducible refine Ext.alloc ?_ _) | (with_reducible refine Ext.trans ?_ (by with_reducible assumption))))))
    case s8 =>
      intro x w' hd
      try simp [Region.binds] at hd
      refine ⟨fun _ _ _ _ hK => ?_, fun h => absurd h (by decide), fun h => absurd h (by decide), fun h => absurd h (by decide), fun h => absurd h (by decide)⟩
      obtain ⟨d1, d2, d3, d4, d5, d6⟩ := hK
      unfold TPost
      first | simp only [frL, List.length_cons, List.length_nil, List.take_succ_cons, List.take_zero, Nat.reduceAdd, Nat.zero_add, List.setIfInBounds_toArray, List.set_cons_zero, List.set_cons_succ, hd] | simp only [frL, List.length_cons, List.length_nil, List.take_succ_cons, List.take_zero, Nat.reduceAdd, Nat.zero_add, List.setIfInBounds_toArray, List.set_cons_zero, List.set_cons_succ]
      go_wp2
      first | (with_reducible exact Ext.refl _) | exact ⟨rfl, _, rfl, (fun u hu => by simpa using hu), (by (repeat (first | (with_reducible assumption) | (with_reducible exact Ext.refl _) | (with_reducible refine Ext.drew ?_) | (with_reducible refine Ext.drewN ?_ _) | (with_reducible refine Ext.alloc ?_ _) | (with_reducible refine Ext.trans ?_ (by with_reducible assumption)))))⟩ | (with_reducible exact (by (repeat (first | (with_reducible assumption) | (with_reducible exact Ext.refl _) | (with_reducible refine Ext.drew ?_) | (with_reducible refine Ext.drewN ?_ _) | (with_reducible refine Ext.alloc ?_ _) | (with_reducible refine Ext.trans ?_ (by with_reducible assumption))))))
    case s9 =>
      intro x w' hd
      try simp [Region.binds] at hd
      refine ⟨fun _ _ _ _ hK => ?_, fun h => absurd h (by decide), fun h => absurd h (by decide), fun h => absurd h (by decide), fun h => absurd h (by decide)⟩
      obtain ⟨d1, d2, d3, d4, d5, d6⟩ := hK
      unfold TPost
      first | simp only [frL, List.length_cons, List.length_nil, List.take_succ_cons, List.take_zero, Nat.reduceAdd, Nat.zero_add, List.setIfInBounds_toArray, List.set_cons_zero, List.set_cons_succ, hd] | simp only [frL, List.length_cons, List.length_nil, List.take_succ_cons, List.take_zero, Nat.reduceAdd, Nat.zero_add, List.setIfInBounds_toArray, List.set_cons_zero, List.set_cons_succ]
      go_wp2
      first | (with_reducible exact Ext.refl _) | exact ⟨rfl, _, rfl, (fun u hu => by simpa using hu), (by (repeat (first | (with_reducible assumption) | (with_reducible exact Ext.refl _) | (with_reducible refine Ext.drew ?_) | (with_reducible refine Ext.drewN ?_ _) | (with_reducible refine Ext.alloc ?_ _) | (with_reducible refine Ext.trans ?_ (by with_reducible assumption)))))⟩ | (with_reducible exact (by (repeat (first | (with_reducible assumption) | (with_reducible exact Ext.refl _) | (with_reducible refine Ext.drew ?_) | (with_reducible refine Ext.drewN ?_ _) | (with_reducible refine Ext.alloc ?_ _) | (with_reducible refine Ext.trans ?_ (by with_reducible assumption))))))
    case s10 =>
      intro x w' hd
      try simp [Region.binds] at hd
      refine ⟨fun _ _ _ _ hK => ?_, fun h => absurd h (by decide), fun h => absurd h (by decide), fun h => absurd h (by decide), fun h => absurd h (by decide)⟩
      obtain ⟨d1, d2, d3, d4, d5, d6⟩ := hK
      unfold TPost
      first | simp only [frL, List.length_cons, List.length_nil, List.take_succ_cons, List.take_zero, Nat.reduceAdd, Nat.zero_add, List.setIfInBounds_toArray, List.set_cons_zero, List.set_cons_succ, hd] | simp only [frL, List.length_cons, List.length_nil, List.take_succ_cons, List.take_zero, Nat.reduceAdd, Nat.zero_add, List.setIfInBounds_toArray, List.set_cons_zero, List.set_cons_succ]
      go_wp2
      first | (with_reducible exact Ext.refl _) | exact ⟨rfl, _, rfl, (fun u hu => by simpa using hu), (by (repeat (first | (with_reducible assumption) | (with_reducible exact Ext.refl _) | (with_reducible refine Ext.drew ?_) | (with_reducible refine Ext.drewN ?_ _) | (with_reducible refine Ext.alloc ?_ _) | (with_reducible refine Ext.trans ?_ (by with_reducible assumption)))))⟩ | (with_reducible exact (by (repeat (first | (with_reducible assumption) | (with_reducible exact Ext.refl _) | (with_reducible refine Ext.drew ?_) | (with_reducible refine Ext.drewN ?_ _) | (with_reducible refine Ext.alloc ?_ _) | (with_reducible refine Ext.trans ?_ (by with_reducible assumption))))))
    case s11 =>
      intro x w' hd
      try simp [Region.binds] at hd
      refine ⟨fun _ _ _ _ hK => ?_, fun h => absurd h (by decide), fun h => absurd h (by decide), fun h => absurd h (by decide), fun h => absurd h (by decide)⟩
      obtain ⟨d1, d2, d3, d4, d5, d6⟩ := hK
      unfold TPost
      first | simp only [frL, List.length_cons, List.length_nil, List.take_succ_cons, List.take_zero, Nat.reduceAdd, Nat.zero_add, List.setIfInBounds_toArray, List.set_cons_zero, List.set_cons_succ, hd] | simp only [frL, List.length_cons, List.length_nil, List.take_succ_cons, List.take_zero, Nat.reduceAdd, Nat.zero_add, List.setIfInBounds_toArray, List.set_cons_zero, List.set_cons_succ]
      go_wp2
      first | (with_reducible exact Ext.refl _) | exact ⟨rfl, _, rfl, (fun u hu => by simpa using hu), (by (repeat (first | (with_reducible assumption) | (with_reducible exact Ext.refl _) | (with_reducible refine Ext.drew ?_) | (with_reducible refine Ext.drewN ?_ _) | (with_reducible refine Ext.alloc ?_ _) | (with_reducible refine Ext.trans ?_ (by with_reducible assumption)))))⟩ | (with_reducible exact (by (repeat (first | (with_reducible assumption) | (with_reducible exact Ext.refl _) | (with_reducible refine Ext.drew ?_) | (with_reducible refine Ext.drewN ?_ _) | (with_reducible refine Ext.alloc ?_ _) | (with_reducible refine Ext.trans ?_ (by with_reducible assumption))))))
    case s12 =>
      intro x w' hd
      try simp [Region.binds] at hd
      refine ⟨fun _ _ _ _ hK => ?_, fun h => absurd h (by decide), fun h => absurd h (by decide), fun h => absurd h (by decide), fun h => absurd h (by decide)⟩
      obtain ⟨d1, d2, d3, d4, d5, d6⟩ := hK
      unfold TPost
      first | simp only [frL, List.length_cons, List.length_nil, List.take_succ_cons, List.take_zero, Nat.reduceAdd, Nat.zero_add, List.setIfInBounds_toArray, List.set_cons_zero, List.set_cons_succ, hd] | simp only [frL, List.length_cons, List.length_nil, List.take_succ_cons, List.take_zero, Nat.reduceAdd, Nat.zero_add, List.setIfInBounds_toArray, List.set_cons_zero, List.set_cons_succ]
      go_wp2
      first | (with_reducible exact Ext.refl _) | exact ⟨rfl, _, rfl, (fun u hu => by simpa using hu), (by (repeat (first | (with_reducible assumption) | (with_reducible exact Ext.refl _) | (with_reducible refine Ext.drew ?_) | (with_reducible refine Ext.drewN ?_ _) | (with_reducible refine Ext.alloc ?_ _) | (with_reducible refine Ext.trans ?_ (by with_reducible assumption)))))⟩ | (with_reducible exact (by (repeat (first | (with_reducible assumption) | (with_reducible exact Ext.refl _) | (with_reducible refine Ext.drew ?_) | (with_reducible refine Ext.drewN ?_ _) | (with_reducible refine Ext.alloc ?_ _) | (with_reducible refine Ext.trans ?_ (by with_reducible assumption))))))
    case s16 =>
      intro x w' hd
      try simp [Region.binds] at hd
      refine ⟨fun _ _ _ _ hK => ?_, fun h => absurd h (by decide), fun h => absurd h (by decide), fun h => absurd h (by decide), fun h => absurd h (by decide)⟩
      obtain ⟨d1, d2, d3, d4, d5, d6⟩ := hK
      unfold TPost
      first | simp only [frL, List.length_cons, List.length_nil, List.take_succ_cons, List.take_zero, Nat.reduceAdd, Nat.zero_add, List.setIfInBounds_toArray, List.set_cons_zero, List.set_cons_succ, hd] | simp only [frL, List.length_cons, List.length_nil, List.take_succ_cons, List.take_zero, Nat.reduceAdd, Nat.zero_add, List.setIfInBounds_toArray, List.set_cons_zero, List.set_cons_succ]
      go_wp2
      first | (with_reducible exact Ext.refl _) | exact ⟨rfl, _, rfl, (fun u hu => by simpa using hu), (by (repeat (first | (with_reducible assumption) | (with_reducible exact Ext.refl _) | (with_reducible refine Ext.drew ?_) | (with_reducible refine Ext.drewN ?_ _) | (with_reducible refine Ext.alloc ?_ _) | (with_reducible refine Ext.trans ?_ (by with_reducible assumption)))))⟩ | (with_reducible exact (by (repeat (first | (with_reducible assumption) | (with_reducible exact Ext.refl _) | (with_reducible refine Ext.drew ?_) | (with_reducible refine Ext.drewN ?_ _) | (with_reducible refine Ext.alloc ?_ _) | (with_reducible refine Ext.trans ?_ (by with_reducible assumption))))))
    case sp =>
      intro x' w' hd
      try simp [Region.binds] at hd
      refine ⟨fun h => absurd rfl h, fun _ hS => ?_, fun h => absurd h (by decide), fun h => absurd h (by decide), fun h => absurd h (by decide)⟩
      have hE : Ext w2 w' := hS
      unfold TPost
      first | simp only [frL, List.length_cons, List.length_nil, List.take_succ_cons, List.take_zero, Nat.reduceAdd, Nat.zero_add, List.setIfInBounds_toArray, List.set_cons_zero, List.set_cons_succ, hd] | simp only [frL, List.length_cons, List.length_nil, List.take_succ_cons, List.take_zero, Nat.reduceAdd, Nat.zero_add, List.setIfInBounds_toArray, List.set_cons_zero, List.set_cons_succ]
      go_wp2_with fail
      refine (EP.out _ (E02.trans hE)).mono ?_
      rintro r w3 ⟨e', rfl, he', E3⟩
      go_wp2
      exact ⟨e', rfl, he'⟩
    case sq =>
      intro x' w' hd
      try simp [Region.binds] at hd
      refine ⟨fun _ h => absurd rfl h, fun h => absurd h (by decide), fun _ hS hP => ?_, fun h => absurd h (by decide), fun h => absurd h (by decide)⟩
      obtain ⟨⟨u1, b1, u2, u3⟩, hx', he'⟩ := hP
      have he := hid he'
      obtain ⟨p1, q1, e1⟩ := own_form he'.ops
      obtain ⟨p2, q2, e2⟩ := own_form he'.cuts
      obtain ⟨p3, q3, e3⟩ := own_form he'.own
      clear he'
      dsimp only at e1 e2 e3
      subst e1; subst e2; subst e3
      simp only [evV] at hx'
      unfold TPost
      first | simp only [frL, List.length_cons, List.length_nil, List.take_succ_cons, List.take_zero, Nat.reduceAdd, Nat.zero_add, List.setIfInBounds_toArray, List.set_cons_zero, List.set_cons_succ, hd, hx'] | simp only [frL, List.length_cons, List.length_nil, List.take_succ_cons, List.take_zero, Nat.reduceAdd, Nat.zero_add, List.setIfInBounds_toArray, List.set_cons_zero, List.set_cons_succ, hx']
      go_wp2
      exact ⟨(Ext.refl _).alloc _, _, _, he.out.ext ((Ext.refl _).alloc _), rfl, heap_alloc_new _ _⟩
    case sm =>
      intro x' w' hd
      try simp [Region.binds] at hd
      refine ⟨fun _ _ h => absurd rfl h, fun h => absurd h (by decide), fun h => absurd h (by decide), fun _ hS hQ => ?_, fun h => absurd h (by decide)⟩
      have hE : Ext w2 w' := hS
      obtain ⟨e', bq, he', hx', hbk⟩ := hQ
      have ho := own_ext hown hE
      have hsg : Seg w' (.slice (some ⟨bq, 0, none⟩) 1 1) 4 1 (evC e') := seg_blk hbk rfl (Nat.le_refl _) (by simp [maxLen])
      have hone := he'.one
      have he := hid he'
      clear he' hbk
      unfold TPost
      first | simp only [frL, List.length_cons, List.length_nil, List.take_succ_cons, List.take_zero, Nat.reduceAdd, Nat.zero_add, List.setIfInBounds_toArray, List.set_cons_zero, List.set_cons_succ, hd, hx'] | simp only [frL, List.length_cons, List.length_nil, List.take_succ_cons, List.take_zero, Nat.reduceAdd, Nat.zero_add, List.setIfInBounds_toArray, List.set_cons_zero, List.set_cons_succ, hx']
      go_wp2_with (first | (at_builtin; refine (wpList_appR rfl _ _ 23 rfl 0 41 (.agg #[.slice none 0 0, .bool false, .slice none 0 0, .slice none 0 0]) 4 80 Tryd.underlying23 infoEn rfl (by decide) _ M (cEn es) rfl ho _ 1 (evC e') rfl (by decide) hsg hone (by omega) (by unfold maxLen; omega) (Nat.zero_le _) ?_); intro v' w9 ho' hg hb'))
      exact ⟨e', ⟨ho', ext_grown hE hg, fun k hk => (hb' k hk).imp id (fun h => by have := hE.size'; omega)⟩, ⟨grown_own hg he.out.ops (own_own_ne he.out.ops ho (by decide)), he.out.im, grown_own hg he.out.cuts (own_own_ne he.out.cuts ho (by decide)), grown_own hg he.out.own (own_own_ne he.out.own ho (by decide))⟩⟩
    case sz =>
      intro x' w' hd
      try simp [Region.binds] at hd
      refine ⟨fun _ _ _ h => absurd rfl h, fun h => absurd h (by decide), fun h => absurd h (by decide), fun h => absurd h (by decide), fun _ hS => ?_⟩
      have hA := hid hS
      obtain ⟨e', ⟨ho', hg, hb'⟩, _⟩ := hS
      have hbo9 := grown_heap hg ((H.out.ext E02).orow) nbo
      have f1 : w'.frozen? ⟨bo, i, none⟩ = false := by simp [World.frozen?, hbo9]
      have c1 := cells_of hbo9 i _ (rowV_at vo hi)
      obtain ⟨a9, c9, e9⟩ := own_form ho'
      rw [e9] at hA
      clear ho' hg hb' hbo9
      unfold TPost
      first | simp only [frL, List.length_cons, List.length_nil, List.take_succ_cons, List.take_zero, Nat.reduceAdd, Nat.zero_add, List.setIfInBounds_toArray, List.set_cons_zero, List.set_cons_succ, hd, e9] | simp only [frL, List.length_cons, List.length_nil, List.take_succ_cons, List.take_zero, Nat.reduceAdd, Nat.zero_add, List.setIfInBounds_toArray, List.set_cons_zero, List.set_cons_succ, e9]
      go_wp2
      exact ⟨_, _, hA.out, rfl⟩
  case st0 => intro a b E h; exact Ext.trans h E
  case stp => intro v a b E h; exact NewE.ext h E
  case stq => intro u v a b E h; exact NewEB.ext h E
  case st1 => intro v a b E h; exact AppE.ext h E
  case k0 =>
    intro a hE
    exact ⟨Ext.cell hE cb', Ext.cell hE oi, Ext.cell hE k0.1, Ext.cell hE k0.2.1, Ext.cell hE k0.2.2.1, Ext.cell hE k0.2.2.2⟩
  case k1 =>
    rintro v a ⟨e', hA, _⟩
    obtain ⟨_, x2, _, x4⟩ := (H.out.ext E02).kept4 hA.grown nbm nbc nbo hi
    rw [HE2.out] at x4
    have hb' := blk4 (grown_heap hA.grown HB2.out HNB.out)
    exact ⟨x2, x4, hb'.1, hb'.2.1, hb'.2.2.1, hb'.2.2.2⟩
  case h0 => exact (Ext.refl _).drew
  case he =>
    intro x' w6 hd hS
    obtain ⟨v, w1', ⟨e', hA, he'⟩, rfl⟩ := hS
    simp only [frL, List.length_cons, List.length_nil, List.take_succ_cons, List.take_zero, Nat.reduceAdd, Nat.zero_add, List.setIfInBounds_toArray, List.set_cons_zero, List.set_cons_succ]
    clear hd
    obtain ⟨S', G7, K7⟩ := HA.out w2 E02 w1' e' v hA.own he' hA.grown hA.lies
    have R7 := hid (show ∃ S', MergeSt eB _ S' bm cl (addM op i y) ∧ Kp S w _ S' from ⟨S', ⟨bc, bo, _, _, G7⟩, Kp.after E02 K7⟩)
    clear G7 K7 hA he'
    go_wp2
    go_ret
    exact ⟨rfl, R7.out⟩
end Go.Proofs.YtddghaoejnbkaaaDoor
