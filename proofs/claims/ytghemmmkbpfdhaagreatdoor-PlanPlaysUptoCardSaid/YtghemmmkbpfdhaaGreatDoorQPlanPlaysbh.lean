/- Contracts and lemmas for the proof of PlanPlays; each theorem states its own conditions. -/
import Derived.Test.YtghemmmkbpfdhaaGreatDoorQPlanPlaysay
import Derived.Test.YtghemmmkbpfdhaaGreatDoorQPlanPlaysbg
import Derived.Test.YtghemmmkbpfdhaaGreatDoorQPlanPlaysaw
import Derived.Shelf.Spec.SlicesInsert
import Derived.Shelf.Spec.SlicesInsertGrow
import Derived.Shelf.Slices.Turned
import Derived.Shelf.Slices.Empties2
import Derived.Ground.Names2Prog
import Derived.Test.YtghemmmkbpfdhaaGreatDoorProg
import Derived.Test.YtghemmmkbpfdhaaGreatDoorQPlanPlaysaa
import Derived.Test.YtghemmmkbpfdhaaGreatDoorQPlanPlaysab
import Derived.Test.YtghemmmkbpfdhaaGreatDoorQPlanPlaysas
import Derived.Test.YtghemmmkbpfdhaaGreatDoorQPlanPlaysar
import Derived.Test.YtghemmmkbpfdhaaGreatDoorQPlanPlaysba
set_option linter.unusedVariables false
set_option linter.unusedSimpArgs false
/- Contracts and lemmas for the proofs of this seat; each theorem states its own conditions. -/
namespace Go.Proofs.YtghemmmkbpfdhaaGreatDoor
open Go.RowKit Go.Maps
/-! Free -/
theorem free1_any (x : Nat × Bool) (s b : Nat) (w : World) (hb : w.cell? ⟨b, 0, none⟩ = some (.int .i64 s)) : Calls Tryz.prog 71 #[.agg #[.int .i64 x.1, .bool x.2], .pointer (some ⟨b, 0, none⟩)] w fun e w' => e = .returned (.bool (decide (x.1 = s))) ∧ Ext w w' := by
  have xb := blk2 (heap_alloc_new w (.cells #[.int .i64 x.1, .bool x.2] 130))
  have hb' := ((Ext.refl w).alloc (.cells #[.int .i64 x.1, .bool x.2] 130)).cell hb
  by_cases h : x.1 = s
  · have hd : decide (x.1 = s) = true := by simp [h]
    have q : ((x.1 : Int) == (s : Int)) = true := by simp [h]
    rw [hd]
    clear h hd
    go_enter Tryz.func71, Tryz.ntmps71
    go_wp2
    go_ret
    exact ⟨rfl, (Ext.refl w).alloc _⟩
  · have hd : decide (x.1 = s) = false := by simp [h]
    have q : ((x.1 : Int) == (s : Int)) = false := by simp; omega
    rw [hd]
    clear h hd
    go_enter Tryz.func71, Tryz.ntmps71
    go_wp2
    go_ret
    exact ⟨rfl, (Ext.refl w).alloc _⟩
theorem free_none {w : World} {B bt bk bd : Nat} {A : List Ops} {g : Nat → Bool} {F : ByteArray → Option SV} {G : Int → Option SV} (h : LockSt w B bt bk bd A g F G) (z : Int) (hz : -9223372036854775808 ≤ z ∧ z ≤ 9223372036854775807) (hno : ∀ n : Nat, z = (n : Int) → n < A.length → g n = true) :
    Calls Tryz.prog 40 #[.pointer (some ⟨bt, 0, none⟩), .int .i64 z] w fun e w' => e = .returned (.int .i64 4) ∧ Ext w w' := by
  have E0 := (Ext.refl w).alloc (.cells #[.int .i64 z] 3)
  have y1 := cell_of_one (heap_alloc_new w (.cells #[.int .i64 z] 3))
  have MN := hid (may_none (h.ext E0) z hz hno)
  go_enter Tryz.func40, Tryz.ntmps40
  go_wp2_with fail
  refine (MN.out).mono ?_
  rintro e w1 ⟨rfl, E1⟩
  go_wp2
  go_ret
  exact ⟨rfl, E0.trans E1⟩
theorem free_wait {w : World} {B bt bk bd : Nat} {A : List Ops} {g : Nat → Bool} {F : ByteArray → Option SV} {G : Int → Option SV} (h : LockSt w B bt bk bd A g F G) (s : Nat) (hs : s < A.length) (hg : g s = false) (hm : mayB A g s = false) :
    Calls Tryz.prog 40 #[.pointer (some ⟨bt, 0, none⟩), .int .i64 s] w fun e w' => e = .returned (.int .i64 6) ∧ Ext w w' := by
  have E0 := (Ext.refl w).alloc (.cells #[.int .i64 s] 3)
  have y1 := cell_of_one (heap_alloc_new w (.cells #[.int .i64 s] 3))
  have MN := may_ok (h.ext E0) s hs hg
  rw [hm] at MN
  have MN := hid MN
  clear hg hm
  go_enter Tryz.func40, Tryz.ntmps40
  go_wp2_with fail
  refine (MN.out).mono ?_
  rintro e w1 ⟨rfl, E1⟩
  go_wp2
  go_ret
  exact ⟨rfl, E0.trans E1⟩
/-- the claims once s has gone from the keys of L' -/
def clF (A : List Ops) (g : Nat → Bool) (s : Nat) (L' : List ByteArray) (k : ByteArray) : Clm := if memB L' k = true then (clmTo A g k A.length).filter (fun c => !decide (c.1 = s)) else clmTo A g k A.length
theorem clF_nil (A : List Ops) (g : Nat → Bool) (s : Nat) : clF A g s [] = fun k => clmTo A g k A.length := by
  funext k; simp [clF, memB]
theorem clF_step (A : List Ops) (g : Nat → Bool) (s : Nat) (L' : List ByteArray) (key : ByteArray) : (fun k => if k = key then (clF A g s L' key).filter (fun c => !decide (c.1 = s)) else clF A g s L' k) = clF A g s (L' ++ [key]) := by
  funext k
  by_cases e : k = key
  · subst e
    have : memB (L' ++ [k]) k = true := memB_iff.2 (by simp)
    simp only [if_true, clF, this]
    split
    · simp [List.filter_filter]
    · rfl
  · have : memB (L' ++ [key]) k = memB L' k := by
      rw [Bool.eq_iff_iff, memB_iff, memB_iff]; simp [e]
    simp only [if_neg e, clF, this]
theorem clF_all (A : List Ops) (g : Nat → Bool) (s : Nat) (k : ByteArray) : clF A g s (tkL (A.getD s [])) k = clmTo A (goneW g s) k A.length := by
  unfold clF
  cases h : memB (tkL (A.getD s [])) k with
  | true => rw [if_pos rfl, clm_gone]
  | false =>
    rw [if_neg (by simp)]
    have : tchB (A.getD s []) k = false := by
      cases e : tchB (A.getD s []) k with
      | false => rfl
      | true => rw [memB_iff.2 ((tkL_mem _ k).2 e)] at h; cases h
    rw [clm_off this]
theorem tkL_len {d : Ops} (h : d.length ≤ 8) : (tkL d).length ≤ 32 := by
  have h1 := sortU_len (sortU (rds d) ++ sortU (wrs d))
  have h2 := sortU_len (rds d)
  have h3 := sortU_len (wrs d)
  have h4 := rds_len d d.length
  rw [List.take_of_length_le (Nat.le_refl _)] at h4
  rw [List.length_append] at h1
  unfold tkL; omega
theorem clF_len (A : List Ops) (g : Nat → Bool) (s : Nat) (L' : List ByteArray) (k : ByteArray) : (clF A g s L' k).length ≤ A.length := by
  have : ∀ n, (clmTo A g k n).length ≤ n := by
    intro n; induction n with
    | zero => simp [clmTo]
    | succ n ih => rw [clmTo, List.length_append]; unfold clm1; split <;> simp <;> omega
  have h1 := this A.length
  unfold clF
  split
  · exact Nat.le_trans (List.length_filter_le _ _) h1
  · exact h1
end Go.Proofs.YtghemmmkbpfdhaaGreatDoor

/- Contracts and lemmas for the proofs of this seat; each theorem states its own conditions. -/
namespace Go.Proofs.YtghemmmkbpfdhaaGreatDoor
open Go.RowKit
/-! make([]int, n), make([]bool, n); stores into such rows -/
theorem made_one (z : Value) (hz : z.cells = #[z]) (n : Nat) : (madeCells z.cells (n * 1)).toList = List.replicate n z := by
  apply List.ext_getElem
  · simp [madeCells]
  · intro i h1 h2
    simp [madeCells, hz, Nat.mod_one]
section
variable (w : World) {ops : Array Oper} {rest : List Oper} {o : Oper} {a : Act} {Q : Exit → Act → World → Prop}
theorem wpList_make_int (hg : o.guard = none) (l c : Operand) (hop : o.op = Op.makeSlice 24 l c) (n : Nat) (hl : a.eval l = .int .i64 n) (hc : a.eval c = .int .i64 n) (hn : n ≤ 1000000)
    (hK : ∀ v' w', w'.ownsRow w.heap.size 3 1 v' n (cI (List.replicate n 0)) → (∃ c, v' = .slice (some ⟨w.heap.size, 0, none⟩) n c) → Ext w w' → wpList Tryz.prog ops Q rest (a.put o.dst v') w') : wpList Tryz.prog ops Q (o :: rest) a w := by
  obtain ⟨i, i1, i2, i3, i4⟩ := info_parts (P := Tryz.prog) (e := 3) (z := .int .i64 0) (size := 1) (bytes := 8) (by kernel_rfl)
  refine wpList_make_full w hg l c 24 hop w.heap.size 3 i (.int .i64 0) 1 Tryz.underlying24 i1 i2 i3 .i64 .i64 n n n hl hc rfl rfl (by rw [i4]; omega) (by unfold maxLen; omega) (Nat.le_refl _) fun w' h1 h2 => ?_
  rw [made_one _ rfl] at h1
  refine hK _ w' ?_ ⟨_, rfl⟩ ((Ext.refl w).grown h2 (by simp))
  have : cI (List.replicate n 0) = List.replicate n (.int .i64 0) := by simp [cI]
  rw [this]; exact h1
theorem wpList_make_bool (hg : o.guard = none) (l c : Operand) (hop : o.op = Op.makeSlice 25 l c) (n : Nat) (hl : a.eval l = .int .i64 n) (hc : a.eval c = .int .i64 n) (hn : n ≤ 1000000)
    (hK : ∀ v' w', w'.ownsRow w.heap.size 4 1 v' n (cB (List.replicate n false)) → (∃ c, v' = .slice (some ⟨w.heap.size, 0, none⟩) n c) → Ext w w' → wpList Tryz.prog ops Q rest (a.put o.dst v') w') : wpList Tryz.prog ops Q (o :: rest) a w := by
  obtain ⟨i, i1, i2, i3, i4⟩ := info_parts (P := Tryz.prog) (e := 4) (z := .bool false) (size := 1) (bytes := 1) (by kernel_rfl)
  refine wpList_make_full w hg l c 25 hop w.heap.size 4 i (.bool false) 1 Tryz.underlying25 i1 i2 i3 .i64 .i64 n n n hl hc rfl rfl (by rw [i4]; omega) (by unfold maxLen; omega) (Nat.le_refl _) fun w' h1 h2 => ?_
  rw [made_one _ rfl] at h1
  refine hK _ w' ?_ ⟨_, rfl⟩ ((Ext.refl w).grown h2 (by simp))
  have : cB (List.replicate n false) = List.replicate n (.bool false) := by simp [cB]
  rw [this]; exact h1
end
theorem cI_set (l : List Int) (i : Nat) (x : Int) : (cI l).set i (.int .i64 x) = cI (l.set i x) := by simp [cI, List.map_set]
theorem cB_set (l : List Bool) (i : Nat) (x : Bool) : (cB l).set i (.bool x) = cB (l.set i x) := by simp [cB, List.map_set]
theorem own_int {w : World} {B n c g : Nat} {l : List Int} (h : w.ownsRow B 3 1 (.slice (some ⟨g, 0, none⟩) n c) n (cI l)) {i : Nat} (hi : i < l.length) : w.cell? ⟨g, i, none⟩ = some (.int .i64 (l.getD i 0)) ∧ w.frozen? ⟨g, i, none⟩ = false := by
  have hl : l.length = n := by have := h.1; simpa [cI] using this
  obtain ⟨_, _, he, _, _, _, hc⟩ := seg_cells (own_seg h) (by omega)
  injection he with he; injection he with he1 he2
  subst he1; subst he2
  have := hc i (.int .i64 (l.getD i 0)) (by simp [cI, hi])
  rw [Nat.zero_add] at this
  exact ⟨this, own_free h i⟩
theorem own_bool {w : World} {B n c g : Nat} {l : List Bool} (h : w.ownsRow B 4 1 (.slice (some ⟨g, 0, none⟩) n c) n (cB l)) {i : Nat} (hi : i < l.length) : w.cell? ⟨g, i, none⟩ = some (.bool (l.getD i false)) ∧ w.frozen? ⟨g, i, none⟩ = false := by
  have hl : l.length = n := by have := h.1; simpa [cB] using this
  obtain ⟨_, _, he, _, _, _, hc⟩ := seg_cells (own_seg h) (by omega)
  injection he with he; injection he with he1 he2
  subst he1; subst he2
  have := hc i (.bool (l.getD i false)) (by simp [cB, hi])
  rw [Nat.zero_add] at this
  exact ⟨this, own_free h i⟩
theorem own_int_set {w : World} {B n c g : Nat} {l : List Int} (h : w.ownsRow B 3 1 (.slice (some ⟨g, 0, none⟩) n c) n (cI l)) {i : Nat} (hi : i < l.length) (x : Int) : (w.setCell ⟨g, i, none⟩ (.int .i64 x)).ownsRow B 3 1 (.slice (some ⟨g, 0, none⟩) n c) n (cI (l.set i x)) := by
  rw [← cI_set]; exact own_cell_set h (by simpa [cI] using hi) _
theorem own_bool_set {w : World} {B n c g : Nat} {l : List Bool} (h : w.ownsRow B 4 1 (.slice (some ⟨g, 0, none⟩) n c) n (cB l)) {i : Nat} (hi : i < l.length) (x : Bool) : (w.setCell ⟨g, i, none⟩ (.bool x)).ownsRow B 4 1 (.slice (some ⟨g, 0, none⟩) n c) n (cB (l.set i x)) := by
  rw [← cB_set]; exact own_cell_set h (by simpa [cB] using hi) _
theorem own_form_g {w : World} {B e sz n : Nat} {v : Value} {xs : List Value} (h : w.ownsRow B e sz v n xs) (hn : 0 < n) : ∃ g c, v = .slice (some ⟨g, 0, none⟩) n c ∧ B ≤ g ∧ g < w.heap.size := by
  rcases h.2 with ⟨_, h0⟩ | ⟨g, cap, cur, rfl, hb, hg, _⟩
  · omega
  · exact ⟨g, cap, rfl, hb, (Array.getElem?_eq_some_iff.1 hg).1⟩
end Go.Proofs.YtghemmmkbpfdhaaGreatDoor

/- Contracts and lemmas for the proofs of this seat; each theorem states its own conditions. -/
namespace Go.Proofs.YtghemmmkbpfdhaaGreatDoor
open Go.Shelf
def lays109_ren : Go.Shelf.Ren := ⟨fun | 109 => 143 | n => n, fun | 31 => 48 | 9 => 9 | 3 => 3 | 0 => 0 | 4 => 4 | n => n, fun | n => n⟩
theorem lays109 : Go.Proofs.Lays.n109 Tryz.prog lays109_ren := {
  mixed := by kernel_rfl
  f109 := Tryz.func143.trans (congrArg some (by kernel_rfl))
  t0 := Tryz.underlying0
  a0 := Tryz.isAgg0
  z0 := Tryz.sizeOf0
  v0 := Tryz.zeroValue0
  t3 := Tryz.underlying3
  a3 := Tryz.isAgg3
  z3 := Tryz.sizeOf3
  v3 := Tryz.zeroValue3
  t4 := Tryz.underlying4
  a4 := Tryz.isAgg4
  z4 := Tryz.sizeOf4
  v4 := Tryz.zeroValue4
  t9 := Tryz.underlying9
  a9 := Tryz.isAgg9
  z9 := Tryz.sizeOf9
  v9 := Tryz.zeroValue9
  t31 := Tryz.underlying48
  a31 := Tryz.isAgg48
  z31 := Tryz.sizeOf48
  v31 := Tryz.zeroValue48 }
def lays110_ren : Go.Shelf.Ren := ⟨fun | 110 => 92 | 109 => 143 | n => n, fun | 31 => 48 | 9 => 9 | 4 => 4 | 3 => 3 | 0 => 0 | n => n, fun | n => n⟩
theorem lays110 : Go.Proofs.Lays.n110 Tryz.prog lays110_ren := {
  mixed := by kernel_rfl
  f109 := Tryz.func143.trans (congrArg some (by kernel_rfl))
  f110 := Tryz.func92.trans (congrArg some (by kernel_rfl))
  t0 := Tryz.underlying0
  a0 := Tryz.isAgg0
  z0 := Tryz.sizeOf0
  v0 := Tryz.zeroValue0
  t3 := Tryz.underlying3
  a3 := Tryz.isAgg3
  z3 := Tryz.sizeOf3
  v3 := Tryz.zeroValue3
  t4 := Tryz.underlying4
  a4 := Tryz.isAgg4
  z4 := Tryz.sizeOf4
  v4 := Tryz.zeroValue4
  t9 := Tryz.underlying9
  a9 := Tryz.isAgg9
  z9 := Tryz.sizeOf9
  v9 := Tryz.zeroValue9
  t31 := Tryz.underlying48
  a31 := Tryz.isAgg48
  z31 := Tryz.sizeOf48
  v31 := Tryz.zeroValue48 }
end Go.Proofs.YtghemmmkbpfdhaaGreatDoor

/- Contracts and lemmas for the proofs of this seat; each theorem states its own conditions. -/
namespace Go.Proofs.YtghemmmkbpfdhaaGreatDoor
open Go.RowKit Go.Shelf
/-- is it on the list? -/
def conS (zs : List ByteArray) (x : ByteArray) : Bool := zs.any fun y => decide (y = x)
theorem conS_eq (zs : List ByteArray) (x : ByteArray) : Lib.containsS zs x = conS zs x := by
  rw [Bool.eq_iff_iff, Lib.containsS_iff, conS, List.any_eq_true]
  exact ⟨fun h => ⟨x, h, by simp⟩, fun ⟨y, h, e⟩ => by simp at e; exact e ▸ h⟩
theorem conS_yes {zs : List ByteArray} {x : ByteArray} (h : x ∈ zs) : conS zs x = true := by
  rw [← conS_eq, Lib.containsS_iff]; exact h
theorem conS_no {zs : List ByteArray} {x : ByteArray} (h : x ∉ zs) : conS zs x = false := by
  cases hc : conS zs x with
  | false => rfl
  | true => rw [← conS_eq, Lib.containsS_iff] at hc; exact absurd hc h
theorem conS_any (v : Value) (zs : List ByteArray) (x : ByteArray) (w : World) (hv : Seg w v 1 zs.length (cS zs)) :
    Calls Tryz.prog 92 #[v, .string x] w fun e w' => e = .returned (.bool (conS zs x)) ∧ w' = w := by
  obtain ⟨h0, a, cap, rfl, h1, h2, h3⟩ := hv
  have hn : zs.length ≤ cap := h1
  unfold maxLen at h2
  rcases Nat.eq_zero_or_pos zs.length with h | h
  · obtain rfl := List.eq_nil_of_length_eq_zero h
    rw [conS_no (by simp)]
    exact Any.slices_Contains_string_empty lays110 a cap x w
  · obtain ⟨b, off, rfl, hc⟩ := h3 h
    have := Any.slices_Contains_string lays110 b off zs.length cap zs x w (Nat.le_refl _) (by omega) (fun j hj => by
      have := hc j _ (cS_at0 zs j hj)
      rw [this]; simp [hj])
    rw [List.take_of_length_le (Nat.le_refl _), conS_eq] at this
    exact this
end Go.Proofs.YtghemmmkbpfdhaaGreatDoor

/- Contracts and lemmas for the proofs of this seat; each theorem states its own conditions. -/
namespace Go.Proofs.YtghemmmkbpfdhaaGreatDoor
open Go.RowKit Go.Shelf Go.Lib Go.Sort
/-! slices.Sort, slices.Compact at rows of texts of one's own; slices.Contains -/
/-- what slices.Sort makes of texts -/
def srtB (L : List ByteArray) : List (List UInt8) := (L.map fun k => k.data.toList).mergeSort fun x y => decide (x ≤ y)
theorem srtB_len (L : List ByteArray) : (srtB L).length = L.length := by simp [srtB, List.length_mergeSort]
theorem sortU_srtB (L : List ByteArray) : (compact (srtB L)).map ofL = sortU L := rfl
theorem sort_own (B : Nat) (v : Value) (L : List ByteArray) (w : World) (ho : w.ownsRow B 9 1 v L.length (cS L)) (hn : L.length ≤ 1000000) :
    Calls Tryz.prog 90 #[v] w fun e w' => e = .returned (.tuple #[]) ∧ w'.ownsRow B 9 1 v (srtB L).length ((srtB L).map encStr) ∧ w.grownBy w' v.ownBlock := by
  by_cases h0 : L.length = 0
  · have hL : L = [] := List.eq_nil_of_length_eq_zero h0
    subst hL
    obtain ⟨a, c, rfl⟩ := own_form ho
    refine (Any.slices_Sort_string_none lays190 a c w).mono ?_
    rintro e w1 ⟨rfl, rfl⟩
    have : srtB [] = [] := by simp [srtB]
    rw [this]
    exact ⟨rfl, ho, World.grownBy.refl _ _⟩
  · obtain ⟨a, c, rfl⟩ := own_form ho
    obtain ⟨g, rfl, hg1, hg2, hg3, hg4⟩ := own_pos ho (by omega)
    rw [cS_enc] at ho
    have hl : (L.map fun k => k.data.toList).length = L.length := by simp
    have S1 := Any.slices_Sort_string lays190 g 0 c (L.map fun k => k.data.toList) w (holds_own ho) hg2 (by omega)
    have hls : (srtB L).length = L.length := srtB_len L
    have hH := holds_own ho
    rw [hl] at S1
    have PS := fun q => putRow_eq_setCells encStr w g 0 (L.map fun k => k.data.toList).toArray (srtB L) q hH (by rw [hls]; simp)
    refine S1.mono ?_
    rintro e w1 ⟨rfl, q, os, rfl⟩
    have := PS q
    unfold srtB at this
    rw [this]
    obtain ⟨ho1, hg'⟩ := own_puts ho (ys := (srtB L).map encStr) (by simpa using hls) q os
    rw [hls]
    exact ⟨rfl, ho1, hg'⟩
theorem compact_own (B : Nat) (v : Value) (M : List (List UInt8)) (w : World) (ho : w.ownsRow B 9 1 v M.length (M.map encStr)) (hn : M.length ≤ 1000000) :
    Calls Tryz.prog 91 #[v] w fun e w' => ∃ v', e = .returned v' ∧ w'.ownsRow B 9 1 v' (compact M).length ((compact M).map encStr) ∧ w.grownBy w' v.ownBlock ∧ v'.ownBlock = v.ownBlock := by
  by_cases h0 : M.length = 0
  · have hL : M = [] := List.eq_nil_of_length_eq_zero h0
    subst hL
    obtain ⟨a, c, rfl⟩ := own_form ho
    refine (Any.slices_Compact_string_empty lays194 a c w).mono ?_
    rintro e w1 ⟨rfl, rfl⟩
    have : compact ([] : List (List UInt8)) = [] := by simp [compact, compactUpTo]
    rw [this]
    exact ⟨_, rfl, ho, World.grownBy.refl _ _, rfl⟩
  · obtain ⟨a, c, rfl⟩ := own_form ho
    obtain ⟨g, rfl, hg1, hg2, hg3, hg4⟩ := own_pos ho (by omega)
    have hle := compact_length_le M
    have C1 := Any.slices_Compact_string lays194 g 0 c M w (holds_own ho) (by omega) (by omega)
    have hH := holds_own ho
    have PS := fun q => putRow_eq_setCells encStr w g 0 M.toArray (compact M ++ List.replicate (M.length - (compact M).length) []) q hH (by simp; omega)
    refine C1.mono ?_
    rintro e w1 ⟨rfl, q, rfl⟩
    rw [PS q]
    obtain ⟨ho2, hg2'⟩ := own_puts ho (ys := (compact M ++ List.replicate (M.length - (compact M).length) []).map encStr) (by simp; omega) q #[]
    rw [grow_empty] at ho2 hg2'
    have ho3 := own_shorter ho2 (m := (compact M).length) hle
    have et : ((compact M ++ List.replicate (M.length - (compact M).length) []).map encStr).take (compact M).length = (compact M).map encStr := by rw [List.map_append, List.take_left' (by simp)]
    rw [et] at ho3
    exact ⟨_, rfl, ho3, hg2', rfl⟩
theorem contains_Str (v : Value) (L : List ByteArray) (w : World) (hv : Seg w v 1 L.length (cS L)) (k : ByteArray) :
    Calls Tryz.prog 92 #[v, .string k] w fun e w' => e = .returned (.bool (memB L k)) ∧ w' = w := conS_any v L k w hv
end Go.Proofs.YtghemmmkbpfdhaaGreatDoor

/- Contracts and lemmas for the proofs of this seat; each theorem states its own conditions. -/
namespace Go.Proofs.YtghemmmkbpfdhaaGreatDoor
open Go.RowKit Go.Maps
/-! an append to a row of claims in a region that draws its order -/
abbrev GK (v : Value) (n : Nat) (ns : List Value) : Nat → Option (Nat × List Value) := G2 v (n * 2) ns (.slice none 0 0) 0 []
theorem gk_none {v : Value} {n k : Nat} {ns : List Value} (h : v.ownBlock ≠ some k) : GK v n ns k = none := by
  unfold GK G2
  rw [if_neg h, if_neg (by simp [Value.ownBlock])]
theorem gk_grown {v : Value} {n : Nat} {ns : List Value} {w w' : World} (h : GF (GK v n ns) w w') : w.grownBy w' v.ownBlock :=
  ⟨h.1, h.2.1, h.2.2.1, h.2.2.2.1, fun k hk hne => by
    rcases h.2.2.2.2 k hk with e | ⟨_, _, _, _, e, _⟩
    · exact e
    · rw [gk_none (fun e' => hne e'.symm)] at e; cases e⟩
def AppK (G : Nat → Option (Nat × List Value)) (N B : Nat) (r : Value) (n : Nat) (xs : List Value) (v : Value) (w : World) : Prop :=
  OwnG G B 130 2 v n xs w ∧ ∀ k, v.ownBlock = some k → r.ownBlock = some k ∨ N ≤ k
theorem AppK.st {G : Nat → Option (Nat × List Value)} {N B n : Nat} {r v : Value} {xs : List Value} {w w' : World} (hF : GF G w w') (h : AppK G N B r n xs v w) : AppK G N B r n xs v w' := ⟨OwnG.st hF h.1, h.2⟩
theorem one_claim (z : Nat) (b : Bool) : ∀ u ∈ [Value.int .i64 (z : Int), Value.bool b], u.oneCell' = true := by
  intro u hu; simp at hu; rcases hu with rfl | rfl <;> rfl
theorem gk_own {v : Value} {n B : Nat} {ns xs : List Value} {w : World} (h : w.ownsRow B 130 2 v n xs) : OwnG (GK v n ns) B 130 2 v n xs w :=
  ⟨h, fun g hg o os ho => by rw [show GK v n ns g = some (n * 2, ns) from g2_fst g hg] at ho; injection ho with ho; injection ho with h1 h2; left; omega⟩
theorem gk_ne {v u : Value} {n m B e sz : Nat} {ns xs : List Value} {w w' : World} (hF : GF (GK v n ns) w w') (h : w.ownsRow B e sz u m xs) (hne : u.ownBlock = none ∨ u.ownBlock ≠ v.ownBlock) : w'.ownsRow B e sz u m xs := grown_own (gk_grown hF) h hne
theorem NewB.segK {N : Nat} {z : Nat} {bb : Bool} {v : Value} {w : World} (h : NewB N #[.int .i64 (z : Int), .bool bb] 130 1 v w) : Seg w v 2 1 [.int .i64 (z : Int), .bool bb] := by
  obtain ⟨b, rfl, h2, _⟩ := h
  exact seg_blk h2 rfl (Nat.le_refl _) (by unfold maxLen; omega)
/-- a turned and grown row of claims -/
theorem mid_app {wo w9 : World} {B bt bk bd : Nat} {A : List Ops} {g : Nat → Bool} {F : ByteArray → Option SV} {G : Int → Option SV} {Cl : ByteArray → Clm} {N X : Nat} {key : ByteArray} {l' : Clm} {ns : List Value} {v : Value} {n m : Nat} {xs : List Value} (h : LockG wo B bt bk bd A g F G Cl N X) (hF : GF (GK (svV ((F key).getD none)) n ns) wo w9)
    (ha : PR.Up (GF (GK (svV ((F key).getD none)) n ns)) wo w9 (AppK (GK (svV ((F key).getD none)) n ns) wo.heap.size B (svV ((F key).getD none)) m xs v)) (hm : m = l'.length) (hx : xs = cK l') : Mid wo B bt bk bd A g F G Cl N X key l' v w9 := by
  obtain ⟨a1, a2⟩ := ha.now (fun a b => AppK.st a b)
  subst hm; subst hx
  refine ⟨wo, h, gk_grown hF, a1.1, ?_, Ext.refl _⟩
  cases e : v.ownBlock with
  | none => right; intro k hk; cases hk
  | some b =>
    rcases a2 b e with e' | e'
    · exact .inl e'.symm
    · right; intro k hk; injection hk with hk; subst hk; exact e'
end Go.Proofs.YtghemmmkbpfdhaaGreatDoor
