/- Contracts and lemmas for the proof of MergePlays; each theorem states its own conditions. -/
import Derived.Test.YtddghaoejnbkaaaDoorQMergePlaysaw
set_option linter.unusedVariables false
set_option linter.unusedSimpArgs false
/- Contracts and lemmas for the proofs of this seat; each theorem states its own conditions. -/
namespace Go.Proofs.YtddghaoejnbkaaaDoor
open Go.RowKit
variable {eB : Nat}
/-! merge.Close -/
theorem one_sl (a : Option Addr) (n c : Nat) : ∀ u ∈ [Value.slice a n c], u.oneCell' = true := by
  intro u hu; simp at hu; subst hu; rfl
theorem MergeG.three {w : World} {S : Nat → Prop} {bm bc bo : Nat} {vc vo : Nat → Value} {cl : List (List Bat)} {op : List Bat} (h : MergeG eB w S bm bc bo vc vo cl op) : bm ≠ bc ∧ bm ≠ bo ∧ bc ≠ bo :=
  ⟨fun e => by have a := h.box; have b := h.crow; rw [e, b] at a; injection a with a; injection a with _ a; exact absurd a (by decide),
    fun e => by have a := h.box; have b := h.orow; rw [e, b] at a; injection a with a; injection a with _ a; exact absurd a (by decide),
    fun e => by have a := h.crow; have b := h.orow; rw [e, b] at a; injection a with a; injection a with _ a; exact absurd a (by decide)⟩
theorem MergeG.kept4 {w w' : World} {S : Nat → Prop} {bm bc bo : Nat} {vc vo : Nat → Value} {cl : List (List Bat)} {op : List Bat} (h : MergeG eB w S bm bc bo vc vo cl op) {row : Option Nat} (hg : w.grownBy w' row) (n1 : row ≠ some bm) (n2 : row ≠ some bc) (n3 : row ≠ some bo) {i : Nat} (hi : i < cl.length) :
    w'.cell? ⟨bm, 0, none⟩ = some (.slice (some ⟨bc, 0, none⟩) cl.length cl.length) ∧ w'.cell? ⟨bm, 1, none⟩ = some (.slice (some ⟨bo, 0, none⟩) cl.length cl.length) ∧ w'.cell? ⟨bc, i, none⟩ = some (vc i) ∧ w'.cell? ⟨bo, i, none⟩ = some (vo i) := by
  have b1 := grown_heap hg h.box n1
  have b2 := grown_heap hg h.crow n2
  have b3 := grown_heap hg h.orow n3
  exact ⟨by simp [World.cell?, b1], by simp [World.cell?, b1], cells_of b2 i _ (rowV_at vc hi), cells_of b3 i _ (rowV_at vo hi)⟩
/-- a row appended to: what it is, what has turned, where it lies -/
structure AppM (w : World) (e sz n : Nat) (xs : List Value) (r v : Value) (w' : World) : Prop where
  own : w'.ownsRow 0 e sz v n xs
  grown : w.grownBy w' r.ownBlock
  lies : ∀ k, v.ownBlock = some k → r.ownBlock = some k ∨ w.heap.size ≤ k
theorem AppM.ext {w : World} {e sz n : Nat} {xs : List Value} {r v : Value} {a b : World} (h : AppM w e sz n xs r v a) (E : Ext a b) : AppM w e sz n xs r v b := ⟨own_ext h.own E, grown_extR h.grown E, h.lies⟩
/-- a block that stands -/
def NewC (cs : Array Value) (e m : Nat) (v : Value) (w : World) : Prop := ∃ b, v = .slice (some ⟨b, 0, none⟩) m m ∧ w.heap[b]? = some (.cells cs e (0, 0))
theorem NewC.ext {cs : Array Value} {e m : Nat} {v : Value} {a b : World} (h : NewC cs e m v a) (E : Ext a b) : NewC cs e m v b := by
  obtain ⟨c, e, h⟩ := h
  exact ⟨c, e, E.heap h⟩
theorem newC_alloc (w : World) (cs : Array Value) (e m : Nat) : NewC cs e m (.slice (some ⟨w.heap.size, 0, none⟩) m m) (w.alloc (.cells cs e (0, 0))) := ⟨_, rfl, heap_alloc_new _ _⟩
/-- stored -/
def StoM (w : World) (e sz n : Nat) (xs : List Value) (r : Value) (b i : Nat) (w' : World) : Prop := ∃ v w1, AppM w e sz n xs r v w1 ∧ Ext (w1.setCell ⟨b, i, none⟩ v) w'
set_option maxRecDepth 100000 in
set_option maxHeartbeats 4000000 in
theorem mclose_ok {w : World} {S : Nat → Prop} {bm : Nat} {cl : List (List Bat)} {op : List Bat} (h : MergeSt eB w S bm cl op) (i : Nat) (hi : i < cl.length) (hfew : (cl.getD i []).length < 60) :
    Calls Tryd.prog 12 #[.pointer (some ⟨bm, 0, none⟩), .int .i64 i] w fun e w' => e = .returned (.tuple #[.int .i64 ((cl.getD i []).length + 1 : Nat), .int .i64 0]) ∧ ∃ S', MergeSt eB w' S' bm (clsM cl i (op.getD i [])) (op.set i []) ∧ Kp S w w' S' := by
  obtain ⟨bc, bo, vc, vo, h⟩ := h
  have H := hid h
  have n0 := h.n0
  have n4 := h.n4
  have cb := h.cells.1
  have cb' := h.cells.2
  obtain ⟨ci, fi⟩ := h.cellC hi
  obtain ⟨oi, fo⟩ := h.cellO hi
  obtain ⟨us, hus, hown, hin, hbs⟩ := h.cls i hi
  obtain ⟨ai, ki, e1⟩ := own_form hown
  obtain ⟨ao, ko, e2⟩ := (h.opn i hi).form
  have HI := hid hin
  have HB := hid hbs
  have HU := hid hus
  have HC := hid (fun v w' W3 a b c d => cls_store (w' := w') (W3 := W3) (v := v) h hi hus hown hin hbs a b c d)
  have nbm := own_ne hown h.box (by decide)
  have nbc := own_ne hown h.crow (by decide)
  have nbo := h.cbo i hi
  rw [e1] at ci hown nbm nbc nbo HC
  rw [e2] at oi HC
  have HE1 := hid e1
  have HE2 := hid e2
  clear h hin hbs hus e1
  obtain ⟨N, hN⟩ : ∃ N, (cl.getD i []).length = N := ⟨_, rfl⟩
  obtain ⟨M, hM⟩ : ∃ M, (op.getD i []).length = M := ⟨_, rfl⟩
  rw [hN] at hfew ci hown nbm nbc nbo HC HU HE1 ⊢
  rw [hM] at oi HC HE2
  clear hN hM e2
  have qa : ¬ ((i : Int) < 0) := by omega
  have qb : ¬ ((i : Int) ≥ (cl.length : Int)) := by omega
  have qc : ((N : Int) == 60) = false := by simp; omega
  go_enter Tryd.func12, Tryd.ntmps12
  go_wp2_with fail
  refine wp_region_pq (by kernel_rfl) (by kernel_rfl) (fun ii => match ii with | 0 => some (.pointer (some ⟨bm, 0, none⟩)) | 1 => some (.pointer (some ⟨bm, 0, none⟩)) | 2 => some (.pointer (some ⟨bm, 0, none⟩)) | 3 => some (.slice (some ⟨bc, 0, none⟩) cl.length cl.length) | 4 => some (.int .i64 i) | 5 => some (.pointer (some ⟨bm, 0, none⟩)) | 6 => some (.pointer (some ⟨bm, 0, none⟩)) | 7 => some (.pointer (some ⟨bm, 0, none⟩)) | 8 => some (.slice (some ⟨bc, 0, none⟩) cl.length cl.length) | 9 => some (.int .i64 i) | 10 => some (.pointer (some ⟨bc, i, none⟩)) | 11 => some (.slice ai N ki) | 12 => some (.pointer (some ⟨bm, 0, none⟩)) | 13 => some (.pointer (some ⟨bm, 0, none⟩)) | 14 => some (.pointer (some ⟨bm, 1, none⟩)) | 15 => some (.slice (some ⟨bo, 0, none⟩) cl.length cl.length) | 16 => some (.int .i64 i) | 17 => some (.pointer (some ⟨bo, i, none⟩)) | 18 => some (.slice ao M ko) | 21 => some (.pointer (some ⟨bc, i, none⟩)) | _ => none) 18 19 20 22 (by decide) (by kernel_rfl) (by kernel_rfl) (by kernel_rfl) (by kernel_rfl) (by kernel_rfl) (fun w' => w'.cell? ⟨bm, 0, none⟩ = some (.slice (some ⟨bc, 0, none⟩) cl.length cl.length) ∧ w'.cell? ⟨bm, 1, none⟩ = some (.slice (some ⟨bo, 0, none⟩) cl.length cl.length) ∧ w'.cell? ⟨bc, i, none⟩ = some (.slice ai N ki) ∧ w'.cell? ⟨bo, i, none⟩ = some (.slice ao M ko)) (fun w' => Ext w w') (fun v _ => v = .slice ao M ko) (fun _ v w' => NewC #[.slice ao M ko] 23 1 v w') (fun v w' => AppM w 23 1 (N + 1) (us ++ [.slice ao M ko]) (.slice ai N ki) v w') (fun w' => StoM w 23 1 (N + 1) (us ++ [.slice ao M ko]) (.slice ai N ki) bc i w') ?st0 ?stp ?stq ?st1 ?k0 ?k1 ?h0 ?hs ?he
  case hs =>
    refine ⟨?s0, ?s1, ?s2, ?s3, ?s4, ?s5, ?s6, ?s7, ?s8, ?s9, ?s10, ?s11, ?s12, ?s13, ?s14, ?s15, ?s16, ?s17, ?sp, ?sq, ?sm, ?s21, ?sz, trivial⟩
    case s0 =>
      intro x w' hd
      try simp [Region.binds] at hd
      refine ⟨fun _ _ _ _ hK => ?_, fun h => absurd h (by decide), fun h => absurd h (by decide), fun h => absurd h (by decide), fun h => absurd h (by decide)⟩
      obtain ⟨d1, d2, d3, d4⟩ := hK
      unfold TPost
      first | simp only [frL, List.length_cons, List.length_nil, List.take_succ_cons, List.take_zero, Nat.reduceAdd, Nat.zero_add, List.setIfInBounds_toArray, List.set_cons_zero, List.set_cons_succ, hd] | simp only [frL, List.length_cons, List.length_nil, List.take_succ_cons, List.take_zero, Nat.reduceAdd, Nat.zero_add, List.setIfInBounds_toArray, List.set_cons_zero, List.set_cons_succ]
      go_wp2
      first | (with_reducible exact Ext.refl _) | exact ⟨rfl, _, rfl, (fun u hu => by simpa using hu), (by (repeat (first | (with_reducible assumption) | (with_reducible exact Ext.refl _) | (with_reducible refine Ext.drew ?_) | (with_reducible refine Ext.drewN ?_ _) | (with_reducible refine Ext.alloc ?_ _) | (with_reducible refine Ext.trans ?_ (by with_reducible assumption)))))⟩ | (with_reducible exact (by (repeat (first | (with_reducible assumption) | (with_reducible exact Ext.refl _) | (with_reducible refine Ext.drew ?_) | (with_reducible refine Ext.drewN ?_ _) | (with_reducible refine Ext.alloc ?_ _) | (with_reducible refine Ext.trans ?_ (by with_reducible assumption))))))
    case s1 =>
      intro x w' hd
      try simp [Region.binds] at hd
      refine ⟨fun _ _ _ _ hK => ?_, fun h => absurd h (by decide), fun h => absurd h (by decide), fun h => absurd h (by decide), fun h => absurd h (by decide)⟩
      obtain ⟨d1, d2, d3, d4⟩ := hK
      unfold TPost
      first | simp only [frL, List.length_cons, List.length_nil, List.take_succ_cons, List.take_zero, Nat.reduceAdd, Nat.zero_add, List.setIfInBounds_toArray, List.set_cons_zero, List.set_cons_succ, hd] | simp only [frL, List.length_cons, List.length_nil, List.take_succ_cons, List.take_zero, Nat.reduceAdd, Nat.zero_add, List.setIfInBounds_toArray, List.set_cons_zero, List.set_cons_succ]
      go_wp2
      first | (with_reducible exact Ext.refl _) | exact ⟨rfl, _, rfl, (fun u hu => by simpa using hu), (by (repeat (first | (with_reducible assumption) | (with_reducible exact Ext.refl _) | (with_reducible refine Ext.drew ?_) | (with_reducible refine Ext.drewN ?_ _) | (with_reducible refine Ext.alloc ?_ _) | (with_reducible refine Ext.trans ?_ (by with_reducible assumption)))))⟩ | (with_reducible exact (by (repeat (first | (with_reducible assumption) | (with_reducible exact Ext.refl _) | (with_reducible refine Ext.drew ?_) | (with_reducible refine Ext.drewN ?_ _) | (with_reducible refine Ext.alloc ?_ _) | (with_reducible refine Ext.trans ?_ (by with_reducible assumption))))))
    case s2 =>
      intro x w' hd
      try simp [Region.binds] at hd
      refine ⟨fun _ _ _ _ hK => ?_, fun h => absurd h (by decide), fun h => absurd h (by decide), fun h => absurd h (by decide), fun h => absurd h (by decide)⟩
      obtain ⟨d1, d2, d3, d4⟩ := hK
      unfold TPost
      first | simp only [frL, List.length_cons, List.length_nil, List.take_succ_cons, List.take_zero, Nat.reduceAdd, Nat.zero_add, List.setIfInBounds_toArray, List.set_cons_zero, List.set_cons_succ, hd] | simp only [frL, List.length_cons, List.length_nil, List.take_succ_cons, List.take_zero, Nat.reduceAdd, Nat.zero_add, List.setIfInBounds_toArray, List.set_cons_zero, List.set_cons_succ]
      go_wp2
      first | (with_reducible exact Ext.refl _) | exact ⟨rfl, _, rfl, (fun u hu => by simpa using hu), (by (repeat (first | (with_reducible assumption) | (with_reducible exact Ext.refl _) | (with_reducible refine Ext.drew ?_) | (with_reducible refine Ext.drewN ?_ _) | (with_reducible refine Ext.alloc ?_ _) | (with_reducible refine Ext.trans ?_ (by with_reducible assumption)))))⟩ | (with_reducible exact (by (repeat (first | (with_reducible assumption) | (with_reducible exact Ext.refl _) | (with_reducible refine Ext.drew ?_) | (with_reducible refine Ext.drewN ?_ _) | (with_reducible refine Ext.alloc ?_ _) | (with_reducible refine Ext.trans ?_ (by with_reducible assumption))))))
    case s3 =>
      intro x w' hd
      try simp [Region.binds] at hd
      refine ⟨fun _ _ _ _ hK => ?_, fun h => absurd h (by decide), fun h => absurd h (by decide), fun h => absurd h (by decide), fun h => absurd h (by decide)⟩
      obtain ⟨d1, d2, d3, d4⟩ := hK
      unfold TPost
      first | simp only [frL, List.length_cons, List.length_nil, List.take_succ_cons, List.take_zero, Nat.reduceAdd, Nat.zero_add, List.setIfInBounds_toArray, List.set_cons_zero, List.set_cons_succ, hd] | simp only [frL, List.length_cons, List.length_nil, List.take_succ_cons, List.take_zero, Nat.reduceAdd, Nat.zero_add, List.setIfInBounds_toArray, List.set_cons_zero, List.set_cons_succ]
      go_wp2
      first | (with_reducible exact Ext.refl _) | exact ⟨rfl, _, rfl, (fun u hu => by simpa using hu), (by (repeat (first | (with_reducible assumption) | (with_reducible exact Ext.refl _) | (with_reducible refine Ext.drew ?_) | (with_reducible refine Ext.drewN ?_ _) | (with_reducible refine Ext.alloc ?_ _) | (with_reducible refine Ext.trans ?_ (by with_reducible assumption)))))⟩ | (with_reducible exact (by (repeat (first | (with_reducible assumption) | (with_reducible exact Ext.refl _) | (with_reducible refine Ext.drew ?_) | (with_reducible refine Ext.drewN ?_ _) | (with_reducible refine Ext.alloc ?_ _) | (with_reducible refine Ext.trans ?_ (by with_reducible assumption))))))
    case s4 =>
      intro x w' hd
      try simp [Region.binds] at hd
      refine ⟨fun _ _ _ _ hK => ?_, fun h => absurd h (by decide), fun h => absurd h (by decide), fun h => absurd h (by decide), fun h => absurd h (by decide)⟩
      obtain ⟨d1, d2, d3, d4⟩ := hK
      unfold TPost
      first | simp only [frL, List.length_cons, List.length_nil, List.take_succ_cons, List.take_zero, Nat.reduceAdd, Nat.zero_add, List.setIfInBounds_toArray, List.set_cons_zero, List.set_cons_succ, hd] | simp only [frL, List.length_cons, List.length_nil, List.take_succ_cons, List.take_zero, Nat.reduceAdd, Nat.zero_add, List.setIfInBounds_toArray, List.set_cons_zero, List.set_cons_succ]
      go_wp2
      first | (with_reducible exact Ext.refl _) | exact ⟨rfl, _, rfl, (fun u hu => by simpa using hu), (by (repeat (first | (with_reducible assumption) | (with_reducible exact Ext.refl _) | (with_reducible refine Ext.drew ?_) | (with_reducible refine Ext.drewN ?_ _) | (with_reducible refine Ext.alloc ?_ _) | (with_reducible refine Ext.trans ?_ (by with_reducible assumption)))))⟩ | (with_reducible exact (by (repeat (first | (with_reducible assumption) | (with_reducible exact Ext.refl _) | (with_reducible refine Ext.drew ?_) | (with_reducible refine Ext.drewN ?_ _) | (with_reducible refine Ext.alloc ?_ _) | (with_reducible refine Ext.trans ?_ (by with_reducible assumption))))))
    case s5 =>
      intro x w' hd
      try simp [Region.binds] at hd
      refine ⟨fun _ _ _ _ hK => ?_, fun h => absurd h (by decide), fun h => absurd h (by decide), fun h => absurd h (by decide), fun h => absurd h (by decide)⟩
      obtain ⟨d1, d2, d3, d4⟩ := hK
      unfold TPost
      first | simp only [frL, List.length_cons, List.length_nil, List.take_succ_cons, List.take_zero, Nat.reduceAdd, Nat.zero_add, List.setIfInBounds_toArray, List.set_cons_zero, List.set_cons_succ, hd] | simp only [frL, List.length_cons, List.length_nil, List.take_succ_cons, List.take_zero, Nat.reduceAdd, Nat.zero_add, List.setIfInBounds_toArray, List.set_cons_zero, List.set_cons_succ]
      go_wp2
      first | (with_reducible exact Ext.refl _) | exact ⟨rfl, _, rfl, (fun u hu => by simpa using hu), (by (repeat (first | (with_reducible assumption) | (with_reducible exact Ext.refl _) | (with_reducible refine Ext.drew ?_) | (with_reducible refine Ext.drewN ?_ _) | (with_reducible refine Ext.alloc ?_ _) | (with_reducible refine Ext.trans ?_ (by with_reducible assumption)))))⟩ | (with_reducible exact (by (repeat (first | (with_reducible assumption) | (with_reducible exact Ext.refl _) | (with_reducible refine Ext.drew ?_) | (with_reducible refine Ext.drewN ?_ _) | (with_reducible refine Ext.alloc ?_ _) | (with_reducible refine Ext.trans ?_ (by with_reducible assumption))))))
    case s6 =>
      intro x w' hd
      try simp [Region.binds] at hd
      refine ⟨fun _ _ _ _ hK => ?_, fun h => absurd h (by decide), fun h => absurd h (by decide), fun h => absurd h (by decide), fun h => absurd h (by decide)⟩
      obtain ⟨d1, d2, d3, d4⟩ := hK
      unfold TPost
      first | simp only [frL, List.length_cons, List.length_nil, List.take_succ_cons, List.take_zero, Nat.reduceAdd, Nat.zero_add, List.setIfInBounds_toArray, List.set_cons_zero, List.set_cons_succ, hd] | simp only [frL, List.length_cons, List.length_nil, List.take_succ_cons, List.take_zero, Nat.reduceAdd, Nat.zero_add, List.setIfInBounds_toArray, List.set_cons_zero, List.set_cons_succ]
      go_wp2
      first | (with_reducible exact Ext.refl _) | exact ⟨rfl, _, rfl, (fun u hu => by simpa using hu), (by (repeat (first | (with_reducible assumption) | (with_reducible exact Ext.refl _) | (with_reducible refine Ext.drew ?_) | (with_reducible refine Ext.drewN ?_ _) | (with_reducible refine Ext.alloc ?_ _) | (with_reducible refine Ext.trans ?_ (by with_reducible assumption)))))⟩ | (with_reducible exact (by (repeat (first | (with_reducible assumption) | (with_reducible exact Ext.refl _) | (with_reducible refine Ext.drew ?_) | (with_reducible refine Ext.drewN ?_ _) | (with_reducible refine Ext.alloc ?_ _) | (with_reducible refine Ext.trans ?_ (by with_reducible assumption))))))
    case s7 =>
      intro x w' hd
      try simp [Region.binds] at hd
      refine ⟨fun _ _ _ _ hK => ?_, fun h => absurd h (by decide), fun h => absurd h (by decide), fun h => absurd h (by decide), fun h => absurd h (by decide)⟩
      obtain ⟨d1, d2, d3, d4⟩ := hK
      unfold TPost
      first | simp only [frL, List.length_cons, List.length_nil, List.take_succ_cons, List.take_zero, Nat.reduceAdd, Nat.zero_add, List.setIfInBounds_toArray, List.set_cons_zero, List.set_cons_succ, hd] | simp only [frL, List.length_cons, List.length_nil, List.take_succ_cons, List.take_zero, Nat.reduceAdd, Nat.zero_add, List.setIfInBounds_toArray, List.set_cons_zero, List.set_cons_succ]
      go_wp2
      first | (with_reducible exact Ext.refl _) | exact ⟨rfl, _, rfl, (fun u hu => by simpa using hu), (by (repeat (first | (with_reducible assumption) | (with_reducible exact Ext.refl _) | (with_reducible refine Ext.drew ?_) | (with_reducible refine Ext.drewN ?_ _) | (with_reducible refine Ext.alloc ?_ _) | (with_reducible refine Ext.trans ?_ (by with_reducible assumption)))))⟩ | (with_reducible exact (by (repeat (first | (with_reducible assumption) | (with_reducible exact Ext.refl _) | (with_reducible refine Ext.drew ?_) | (with_reducible refine Ext.drewN ?_ _) | (with_reducible refine Ext.alloc ?_ _) | (with_reducible refine Ext.trans ?_ (by with_reducible assumption))))))
    case s8 =>
      intro x w' hd
      try simp [Region.binds] at hd
      refine ⟨fun _ _ _ _ hK => ?_, fun h => absurd h (by decide), fun h => absurd h (by decide), fun h => absurd h (by decide), fun h => absurd h (by decide)⟩
      obtain ⟨d1, d2, d3, d4⟩ := hK
      unfold TPost
      first | simp only [frL, List.length_cons, List.length_nil, List.take_succ_cons, List.take_zero, Nat.reduceAdd, Nat.zero_add, List.setIfInBounds_toArray, List.set_cons_zero, List.set_cons_succ, hd] | simp only [frL, List.length_cons, List.length_nil, List.take_succ_cons, List.take_zero, Nat.reduceAdd, Nat.zero_add, List.setIfInBounds_toArray, List.set_cons_zero, List.set_cons_succ]
      go_wp2
      first | (with_reducible exact Ext.refl _) | exact ⟨rfl, _, rfl, (fun u hu => by simpa using hu), (by (repeat (first | (with_reducible assumption) | (with_reducible exact Ext.refl _) | (with_reducible refine Ext.drew ?_) | (with_reducible refine Ext.drewN ?_ _) | (with_reducible refine Ext.alloc ?_ _) | (with_reducible refine Ext.trans ?_ (by with_reducible assumption)))))⟩ | (with_reducible exact (by (repeat (first | (with_reducible assumption) | (with_reducible exact Ext.refl _) | (with_reducible refine Ext.drew ?_) | (with_reducible refine Ext.drewN ?_ _) | (with_reducible refine Ext.alloc ?_ _) | (with_reducible refine Ext.trans ?_ (by with_reducible assumption))))))
    case s9 =>
      intro x w' hd
      try simp [Region.binds] at hd
      refine ⟨fun _ _ _ _ hK => ?_, fun h => absurd h (by decide), fun h => absurd h (by decide), fun h => absurd h (by decide), fun h => absurd h (by decide)⟩
      obtain ⟨d1, d2, d3, d4⟩ := hK
      unfold TPost
      first | simp only [frL, List.length_cons, List.length_nil, List.take_succ_cons, List.take_zero, Nat.reduceAdd, Nat.zero_add, List.setIfInBounds_toArray, List.set_cons_zero, List.set_cons_succ, hd] | simp only [frL, List.length_cons, List.length_nil, List.take_succ_cons, List.take_zero, Nat.reduceAdd, Nat.zero_add, List.setIfInBounds_toArray, List.set_cons_zero, List.set_cons_succ]
      go_wp2
      first | (with_reducible exact Ext.refl _) | exact ⟨rfl, _, rfl, (fun u hu => by simpa using hu), (by (repeat (first | (with_reducible assumption) | (with_reducible exact Ext.refl _) | (with_reducible refine Ext.drew ?_) | (with_reducible refine Ext.drewN ?_ _) | (with_reducible refine Ext.alloc ?_ _) | (with_reducible refine Ext.trans ?_ (by with_reducible assumption)))))⟩ | (with_reducible exact (by (repeat (first | (with_reducible assumption) | (with_reducible exact Ext.refl _) | (with_reducible refine Ext.drew ?_) | (with_reducible refine Ext.drewN ?_ _) | (with_reducible refine Ext.alloc ?_ _) | (with_reducible refine Ext.trans ?_ (by with_reducible assumption))))))
    case s10 =>
      intro x w' hd
      try simp [Region.binds] at hd
      refine ⟨fun _ _ _ _ hK => ?_, fun h => absurd h (by decide), fun h => absurd h (by decide), fun h => absurd h (by decide), fun h => absurd h (by decide)⟩
      obtain ⟨d1, d2, d3, d4⟩ := hK
      unfold TPost
      first | simp only [frL, List.length_cons, List.length_nil, List.take_succ_cons, List.take_zero, Nat.reduceAdd, Nat.zero_add, List.setIfInBounds_toArray, List.set_cons_zero, List.set_cons_succ, hd] | simp only [frL, List.length_cons, List.length_nil, List.take_succ_cons, List.take_zero, Nat.reduceAdd, Nat.zero_add, List.setIfInBounds_toArray, List.set_cons_zero, List.set_cons_succ]
      go_wp2
      first | (with_reducible exact Ext.refl _) | exact ⟨rfl, _, rfl, (fun u hu => by simpa using hu), (by (repeat (first | (with_reducible assumption) | (with_reducible exact Ext.refl _) | (with_reducible refine Ext.drew ?_) | (with_reducible refine Ext.drewN ?_ _) | (with_reducible refine Ext.alloc ?_ _) | (with_reducible refine Ext.trans ?_ (by with_reducible assumption)))))⟩ | (with_reducible exact (by (repeat (first | (with_reducible assumption) | (with_reducible exact Ext.refl _) | (with_reducible refine Ext.drew ?_) | (with_reducible refine Ext.drewN ?_ _) | (with_reducible refine Ext.alloc ?_ _) | (with_reducible refine Ext.trans ?_ (by with_reducible assumption))))))
    case s11 =>
      intro x w' hd
      try simp [Region.binds] at hd
      refine ⟨fun _ _ _ _ hK => ?_, fun h => absurd h (by decide), fun h => absurd h (by decide), fun h => absurd h (by decide), fun h => absurd h (by decide)⟩
      obtain ⟨d1, d2, d3, d4⟩ := hK
      unfold TPost
      first | simp only [frL, List.length_cons, List.length_nil, List.take_succ_cons, List.take_zero, Nat.reduceAdd, Nat.zero_add, List.setIfInBounds_toArray, List.set_cons_zero, List.set_cons_succ, hd] | simp only [frL, List.length_cons, List.length_nil, List.take_succ_cons, List.take_zero, Nat.reduceAdd, Nat.zero_add, List.setIfInBounds_toArray, List.set_cons_zero, List.set_cons_succ]
      go_wp2
      first | (with_reducible exact Ext.refl _) | exact ⟨rfl, _, rfl, (fun u hu => by simpa using hu), (by (repeat (first | (with_reducible assumption) | (with_reducible exact Ext.refl _) | (with_reducible refine Ext.drew ?_) | (with_reducible refine Ext.drewN ?_ _) | (with_reducible refine Ext.alloc ?_ _) | (with_reducible refine Ext.trans ?_ (by with_reducible assumption)))))⟩ | (with_reducible exact (by (repeat (first | (with_reducible assumption) | (with_reducible exact Ext.refl _) | (with_reducible refine Ext.drew ?_) | (with_reducible refine Ext.drewN ?_ _) | (with_reducible refine Ext.alloc ?_ _) | (with_reducible refine Ext.trans ?_ (by with_reducible assumption))))))
    case s12 =>
      intro x w' hd
      try simp [Region.binds] at hd
      refine ⟨fun _ _ _ _ hK => ?_, fun h => absurd h (by decide), fun h => absurd h (by decide), fun h => absurd h (by decide), fun h => absurd h (by decide)⟩
      obtain ⟨d1, d2, d3, d4⟩ := hK
      unfold TPost
      first | simp only [frL, List.length_cons, List.length_nil, List.take_succ_cons, List.take_zero, Nat.reduceAdd, Nat.zero_add, List.setIfInBounds_toArray, List.set_cons_zero, List.set_cons_succ, hd] | simp only [frL, List.length_cons, List.length_nil, List.take_succ_cons, List.take_zero, Nat.reduceAdd, Nat.zero_add, List.setIfInBounds_toArray, List.set_cons_zero, List.set_cons_succ]
      go_wp2
      first | (with_reducible exact Ext.refl _) | exact ⟨rfl, _, rfl, (fun u hu => by simpa using hu), (by (repeat (first | (with_reducible assumption) | (with_reducible exact Ext.refl _) | (with_reducible refine Ext.drew ?_) | (with_reducible refine Ext.drewN ?_ _) | (with_reducible refine Ext.alloc ?_ _) | (with_reducible refine Ext.trans ?_ (by with_reducible assumption)))))⟩ | (with_reducible exact (by (repeat (first | (with_reducible assumption) | (with_reducible exact Ext.refl _) | (with_reducible refine Ext.drew ?_) | (with_reducible refine Ext.drewN ?_ _) | (with_reducible refine Ext.alloc ?_ _) | (with_reducible refine Ext.trans ?_ (by with_reducible assumption))))))
    case s13 =>
      intro x w' hd
      try simp [Region.binds] at hd
      refine ⟨fun _ _ _ _ hK => ?_, fun h => absurd h (by decide), fun h => absurd h (by decide), fun h => absurd h (by decide), fun h => absurd h (by decide)⟩
      obtain ⟨d1, d2, d3, d4⟩ := hK
      unfold TPost
      first | simp only [frL, List.length_cons, List.length_nil, List.take_succ_cons, List.take_zero, Nat.reduceAdd, Nat.zero_add, List.setIfInBounds_toArray, List.set_cons_zero, List.set_cons_succ, hd] | simp only [frL, List.length_cons, List.length_nil, List.take_succ_cons, List.take_zero, Nat.reduceAdd, Nat.zero_add, List.setIfInBounds_toArray, List.set_cons_zero, List.set_cons_succ]
      go_wp2
      first | (with_reducible exact Ext.refl _) | exact ⟨rfl, _, rfl, (fun u hu => by simpa using hu), (by (repeat (first | (with_reducible assumption) | (with_reducible exact Ext.refl _) | (with_reducible refine Ext.drew ?_) | (with_reducible refine Ext.drewN ?_ _) | (with_reducible refine Ext.alloc ?_ _) | (with_reducible refine Ext.trans ?_ (by with_reducible assumption)))))⟩ | (with_reducible exact (by (repeat (first | (with_reducible assumption) | (with_reducible exact Ext.refl _) | (with_reducible refine Ext.drew ?_) | (with_reducible refine Ext.drewN ?_ _) | (with_reducible refine Ext.alloc ?_ _) | (with_reducible refine Ext.trans ?_ (by with_reducible assumption))))))
    case s14 =>
      intro x w' hd
      try simp [Region.binds] at hd
      refine ⟨fun _ _ _ _ hK => ?_, fun h => absurd h (by decide), fun h => absurd h (by decide), fun h => absurd h (by decide), fun h => absurd h (by decide)⟩
      obtain ⟨d1, d2, d3, d4⟩ := hK
      unfold TPost
      first | simp only [frL, List.length_cons, List.length_nil, List.take_succ_cons, List.take_zero, Nat.reduceAdd, Nat.zero_add, List.setIfInBounds_toArray, List.set_cons_zero, List.set_cons_succ, hd] | simp only [frL, List.length_cons, List.length_nil, List.take_succ_cons, List.take_zero, Nat.reduceAdd, Nat.zero_add, List.setIfInBounds_toArray, List.set_cons_zero, List.set_cons_succ]
      go_wp2
      first | (with_reducible exact Ext.refl _) | exact ⟨rfl, _, rfl, (fun u hu => by simpa using hu), (by (repeat (first | (with_reducible assumption) | (with_reducible exact Ext.refl _) | (with_reducible refine Ext.drew ?_) | (with_reducible refine Ext.drewN ?_ _) | (with_reducible refine Ext.alloc ?_ _) | (with_reducible refine Ext.trans ?_ (by with_reducible assumption)))))⟩ | (with_reducible exact (by (repeat (first | (with_reducible assumption) | (with_reducible exact Ext.refl _) | (with_reducible refine Ext.drew ?_) | (with_reducible refine Ext.drewN ?_ _) | (with_reducible refine Ext.alloc ?_ _) | (with_reducible refine Ext.trans ?_ (by with_reducible assumption))))))
    case s15 =>
      intro x w' hd
      try simp [Region.binds] at hd
      refine ⟨fun _ _ _ _ hK => ?_, fun h => absurd h (by decide), fun h => absurd h (by decide), fun h => absurd h (by decide), fun h => absurd h (by decide)⟩
      obtain ⟨d1, d2, d3, d4⟩ := hK
      unfold TPost
      first | simp only [frL, List.length_cons, List.length_nil, List.take_succ_cons, List.take_zero, Nat.reduceAdd, Nat.zero_add, List.setIfInBounds_toArray, List.set_cons_zero, List.set_cons_succ, hd] | simp only [frL, List.length_cons, List.length_nil, List.take_succ_cons, List.take_zero, Nat.reduceAdd, Nat.zero_add, List.setIfInBounds_toArray, List.set_cons_zero, List.set_cons_succ]
      go_wp2
      first | (with_reducible exact Ext.refl _) | exact ⟨rfl, _, rfl, (fun u hu => by simpa using hu), (by (repeat (first | (with_reducible assumption) | (with_reducible exact Ext.refl _) | (with_reducible refine Ext.drew ?_) | (with_reducible refine Ext.drewN ?_ _) | (with_reducible refine Ext.alloc ?_ _) | (with_reducible refine Ext.trans ?_ (by with_reducible assumption)))))⟩ | (with_reducible exact (by (repeat (first | (with_reducible assumption) | (with_reducible exact Ext.refl _) | (with_reducible refine Ext.drew ?_) | (with_reducible refine Ext.drewN ?_ _) | (with_reducible refine Ext.alloc ?_ _) | (with_reducible refine Ext.trans ?_ (by with_reducible assumption))))))
    case s16 =>
      intro x w' hd
      try simp [Region.binds] at hd
      refine ⟨fun _ _ _ _ hK => ?_, fun h => absurd h (by decide), fun h => absurd h (by decide), fun h => absurd h (by decide), fun h => absurd h (by decide)⟩
      obtain ⟨d1, d2, d3, d4⟩ := hK
      unfold TPost
      first | simp only [frL, List.length_cons, List.length_nil, List.take_succ_cons, List.take_zero, Nat.reduceAdd, Nat.zero_add, List.setIfInBounds_toArray, List.set_cons_zero, List.set_cons_succ, hd] | simp only [frL, List.length_cons, List.length_nil, List.take_succ_cons, List.take_zero, Nat.reduceAdd, Nat.zero_add, List.setIfInBounds_toArray, List.set_cons_zero, List.set_cons_succ]
      go_wp2
      first | (with_reducible exact Ext.refl _) | exact ⟨rfl, _, rfl, (fun u hu => by simpa using hu), (by (repeat (first | (with_reducible assumption) | (with_reducible exact Ext.refl _) | (with_reducible refine Ext.drew ?_) | (with_reducible refine Ext.drewN ?_ _) | (with_reducible refine Ext.alloc ?_ _) | (with_reducible refine Ext.trans ?_ (by with_reducible assumption)))))⟩ | (with_reducible exact (by (repeat (first | (with_reducible assumption) | (with_reducible exact Ext.refl _) | (with_reducible refine Ext.drew ?_) | (with_reducible refine Ext.drewN ?_ _) | (with_reducible refine Ext.alloc ?_ _) | (with_reducible refine Ext.trans ?_ (by with_reducible assumption))))))
    case s17 =>
      intro x w' hd
      try simp [Region.binds] at hd
      refine ⟨fun _ _ _ _ hK => ?_, fun h => absurd h (by decide), fun h => absurd h (by decide), fun h => absurd h (by decide), fun h => absurd h (by decide)⟩
      obtain ⟨d1, d2, d3, d4⟩ := hK
      unfold TPost
      first | simp only [frL, List.length_cons, List.length_nil, List.take_succ_cons, List.take_zero, Nat.reduceAdd, Nat.zero_add, List.setIfInBounds_toArray, List.set_cons_zero, List.set_cons_succ, hd] | simp only [frL, List.length_cons, List.length_nil, List.take_succ_cons, List.take_zero, Nat.reduceAdd, Nat.zero_add, List.setIfInBounds_toArray, List.set_cons_zero, List.set_cons_succ]
      go_wp2
      first | (with_reducible exact Ext.refl _) | exact ⟨rfl, _, rfl, (fun u hu => by simpa using hu), (by (repeat (first | (with_reducible assumption) | (with_reducible exact Ext.refl _) | (with_reducible refine Ext.drew ?_) | (with_reducible refine Ext.drewN ?_ _) | (with_reducible refine Ext.alloc ?_ _) | (with_reducible refine Ext.trans ?_ (by with_reducible assumption)))))⟩ | (with_reducible exact (by (repeat (first | (with_reducible assumption) | (with_reducible exact Ext.refl _) | (with_reducible refine Ext.drew ?_) | (with_reducible refine Ext.drewN ?_ _) | (with_reducible refine Ext.alloc ?_ _) | (with_reducible refine Ext.trans ?_ (by with_reducible assumption))))))
    case s21 =>
      intro x w' hd
      try simp [Region.binds] at hd
      refine ⟨fun _ _ _ _ hK => ?_, fun h => absurd h (by decide), fun h => absurd h (by decide), fun h => absurd h (by decide), fun h => absurd h (by decide)⟩
      obtain ⟨d1, d2, d3, d4⟩ := hK
      unfold TPost
      first | simp only [frL, List.length_cons, List.length_nil, List.take_succ_cons, List.take_zero, Nat.reduceAdd, Nat.zero_add, List.setIfInBounds_toArray, List.set_cons_zero, List.set_cons_succ, hd] | simp only [frL, List.length_cons, List.length_nil, List.take_succ_cons, List.take_zero, Nat.reduceAdd, Nat.zero_add, List.setIfInBounds_toArray, List.set_cons_zero, List.set_cons_succ]
      go_wp2
      first | (with_reducible exact Ext.refl _) | exact ⟨rfl, _, rfl, (fun u hu => by simpa using hu), (by (repeat (first | (with_reducible assumption) | (with_reducible exact Ext.refl _) | (with_reducible refine Ext.drew ?_) | (with_reducible refine Ext.drewN ?_ _) | (with_reducible refine Ext.alloc ?_ _) | (with_reducible refine Ext.trans ?_ (by with_reducible assumption)))))⟩ | (with_reducible exact (by (repeat (first | (with_reducible assumption) | (with_reducible exact Ext.refl _) | (with_reducible refine Ext.drew ?_) | (with_reducible refine Ext.drewN ?_ _) | (with_reducible refine Ext.alloc ?_ _) | (with_reducible refine Ext.trans ?_ (by with_reducible assumption))))))
    case sp =>
      intro x w' hd
      try simp [Region.binds] at hd
      refine ⟨fun h => absurd rfl h, fun _ hS => ?_, fun h => absurd h (by decide), fun h => absurd h (by decide), fun h => absurd h (by decide)⟩
      have hE : Ext w w' := hS
      have d4 := hE.cell oi
      unfold TPost
      first | simp only [frL, List.length_cons, List.length_nil, List.take_succ_cons, List.take_zero, Nat.reduceAdd, Nat.zero_add, List.setIfInBounds_toArray, List.set_cons_zero, List.set_cons_succ, hd] | simp only [frL, List.length_cons, List.length_nil, List.take_succ_cons, List.take_zero, Nat.reduceAdd, Nat.zero_add, List.setIfInBounds_toArray, List.set_cons_zero, List.set_cons_succ]
      go_wp2
      exact Ext.refl _
    case sq =>
      intro x w' hd
      try simp [Region.binds] at hd
      refine ⟨fun _ h => absurd rfl h, fun h => absurd h (by decide), fun _ hS hP => ?_, fun h => absurd h (by decide), fun h => absurd h (by decide)⟩
      unfold TPost
      first | simp only [frL, List.length_cons, List.length_nil, List.take_succ_cons, List.take_zero, Nat.reduceAdd, Nat.zero_add, List.setIfInBounds_toArray, List.set_cons_zero, List.set_cons_succ, hd] | simp only [frL, List.length_cons, List.length_nil, List.take_succ_cons, List.take_zero, Nat.reduceAdd, Nat.zero_add, List.setIfInBounds_toArray, List.set_cons_zero, List.set_cons_succ]
      go_wp2
      exact ⟨(Ext.refl _).alloc _, newC_alloc _ _ _ _⟩
    case sm =>
      intro x w' hd
      try simp [Region.binds] at hd
      refine ⟨fun _ _ h => absurd rfl h, fun h => absurd h (by decide), fun h => absurd h (by decide), fun _ hS hQ => ?_, fun h => absurd h (by decide)⟩
      have hE : Ext w w' := hS
      obtain ⟨b, hx, hbk⟩ := hQ
      have ho := own_ext hown hE
      have hsg := seg_one hbk
      unfold TPost
      first | simp only [frL, List.length_cons, List.length_nil, List.take_succ_cons, List.take_zero, Nat.reduceAdd, Nat.zero_add, List.setIfInBounds_toArray, List.set_cons_zero, List.set_cons_succ, hd, hx] | simp only [frL, List.length_cons, List.length_nil, List.take_succ_cons, List.take_zero, Nat.reduceAdd, Nat.zero_add, List.setIfInBounds_toArray, List.set_cons_zero, List.set_cons_succ, hx]
      go_wp2_with (first | (at_builtin; refine (wpList_appR rfl _ _ 52 rfl 0 23 (.slice none 0 0) 1 24 Tryd.underlying52 infoEs rfl (by decide) _ N us rfl ho _ 1 [.slice ao M ko] rfl (by decide) hsg (one_sl _ _ _) (by omega) (by unfold maxLen; omega) (Nat.zero_le _) ?_); intro v' w9 ho' hg hb'))
      exact ⟨ho', ext_grown hE hg, fun k hk => (hb' k hk).imp id (fun h => by have := hE.size'; omega)⟩
    case sz =>
      intro x w' hd
      try simp [Region.binds] at hd
      refine ⟨fun _ _ _ h => absurd rfl h, fun h => absurd h (by decide), fun h => absurd h (by decide), fun h => absurd h (by decide), fun _ hS => ?_⟩
      have hA := hid hS
      obtain ⟨ho', hg, hb'⟩ := hS
      have f1 : w'.frozen? ⟨bc, i, none⟩ = false := by
        have hb9 := grown_heap hg H.out.crow nbc
        simp [World.frozen?, hb9]
      have c1 := cells_of (grown_heap hg H.out.crow nbc) i _ (rowV_at vc hi)
      obtain ⟨a9, c9, e9⟩ := own_form ho'
      rw [e9] at hA
      clear ho' hg hb'
      unfold TPost
      first | simp only [frL, List.length_cons, List.length_nil, List.take_succ_cons, List.take_zero, Nat.reduceAdd, Nat.zero_add, List.setIfInBounds_toArray, List.set_cons_zero, List.set_cons_succ, hd, e9] | simp only [frL, List.length_cons, List.length_nil, List.take_succ_cons, List.take_zero, Nat.reduceAdd, Nat.zero_add, List.setIfInBounds_toArray, List.set_cons_zero, List.set_cons_succ, e9]
      go_wp2
      exact ⟨_, _, hA.out, Ext.refl _⟩
  case st0 => intro a b E h; exact Ext.trans h E
  case stp => intro v a b E h; exact h
  case stq => intro u v a b E h; exact NewC.ext h E
  case st1 => intro v a b E h; exact AppM.ext h E
  case k0 =>
    intro a hE
    exact ⟨Ext.cell hE cb, Ext.cell hE cb', Ext.cell hE ci, Ext.cell hE oi⟩
  case k1 =>
    intro v a hA
    obtain ⟨x1, x2, x3, x4⟩ := H.out.kept4 hA.grown nbm nbc nbo hi
    rw [HE1.out] at x3
    rw [HE2.out] at x4
    exact ⟨x1, x2, x3, x4⟩
  case h0 => exact (Ext.refl _).drew
  case he =>
    intro x w6 hd hS
    obtain ⟨v, w1, hA, E6⟩ := hS
    simp only [frL, List.length_cons, List.length_nil, List.take_succ_cons, List.take_zero, Nat.reduceAdd, Nat.zero_add, List.setIfInBounds_toArray, List.set_cons_zero, List.set_cons_succ]
    clear hd
    obtain ⟨hmc, hmo, hco⟩ := H.out.three
    have bm6 := E6.heap (heap_set_far (p := ⟨bc, i, none⟩) (u := v) (grown_heap hA.grown H.out.box nbm) hmc)
    have bo6 := E6.heap (heap_set_far (p := ⟨bc, i, none⟩) (u := v) (grown_heap hA.grown H.out.orow nbo) (fun e => hco e.symm))
    have c6 : w6.cell? ⟨bm, 0, none⟩ = some (.slice (some ⟨bc, 0, none⟩) cl.length cl.length) := by simp [World.cell?, bm6]
    have c6' : w6.cell? ⟨bm, 1, none⟩ = some (.slice (some ⟨bo, 0, none⟩) cl.length cl.length) := by simp [World.cell?, bm6]
    have o6 := cells_of bo6 i _ (rowV_at vo hi)
    have f6 : w6.frozen? ⟨bo, i, none⟩ = false := by simp [World.frozen?, bo6]
    obtain ⟨S', G7, K7⟩ := HC.out v w1 w6 hA.own hA.grown hA.lies E6
    obtain ⟨a9, c9, rfl⟩ := own_form hA.own
    obtain ⟨W7, hW7⟩ : ∃ W7, w6.setCell ⟨bo, i, none⟩ (.slice none 0 0) = W7 := ⟨_, rfl⟩
    rw [hW7] at G7 K7
    have c7 := G7.cells.1
    have q7 := (G7.cellC (i := i) (by rw [cls_len]; exact hi)).1
    rw [cls_len] at c7
    rw [if_pos rfl] at q7
    have R7 := hid (show ∃ S', MergeSt eB W7 S' bm (clsM cl i (op.getD i [])) (op.set i []) ∧ Kp S w W7 S' from ⟨S', ⟨bc, bo, _, _, G7⟩, K7⟩)
    clear G7 K7 bm6 bo6 E6 hA
    go_wp2
    go_ret2
    exact ⟨rT2 (vI (by omega)) rfl, R7.out⟩
end Go.Proofs.YtddghaoejnbkaaaDoor
