/- Contracts and lemmas for the proof of PlanSays; each theorem states its own conditions. -/
import Derived.Test.YtomgeolmfpijoaaDoorQPlanSaysax
import Derived.Test.YtomgeolmfpijoaaDoorQPlanSaysbg
import Derived.Test.YtomgeolmfpijoaaDoorQPlanSaysav
set_option linter.unusedVariables false
set_option linter.unusedSimpArgs false
/- Contracts and lemmas for the proofs of this seat; each theorem states its own conditions. -/
namespace Go.Proofs.YtomgeolmfpijoaaDoor
open Go.RowKit Go.Maps
/-! Free -/
theorem free1_any (x : Nat × Bool) (s b : Nat) (w : World) (hb : w.cell? ⟨b, 0, none⟩ = some (.int .i64 s)) : Calls Tryd.prog 102 #[.agg #[.int .i64 x.1, .bool x.2], .pointer (some ⟨b, 0, none⟩)] w fun e w' => e = .returned (.bool (decide (x.1 = s))) ∧ Ext w w' := by
  have xb := blk2 (heap_alloc_new w (.cells #[.int .i64 x.1, .bool x.2] 152))
  have hb' := ((Ext.refl w).alloc (.cells #[.int .i64 x.1, .bool x.2] 152)).cell hb
  by_cases h : x.1 = s
  · have hd : decide (x.1 = s) = true := by simp [h]
    have q : ((x.1 : Int) == (s : Int)) = true := by simp [h]
    rw [hd]
    clear h hd
    go_enter Tryd.func102, Tryd.ntmps102
    go_wp2
    go_ret
    exact ⟨rfl, (Ext.refl w).alloc _⟩
  · have hd : decide (x.1 = s) = false := by simp [h]
    have q : ((x.1 : Int) == (s : Int)) = false := by simp; omega
    rw [hd]
    clear h hd
    go_enter Tryd.func102, Tryd.ntmps102
    go_wp2
    go_ret
    exact ⟨rfl, (Ext.refl w).alloc _⟩
theorem free_none {w : World} {B bt bk bd : Nat} {A : List Ops} {g : Nat → Bool} {F : ByteArray → Option SV} {G : Int → Option SV} (h : LockSt w B bt bk bd A g F G) (z : Int) (hz : -9223372036854775808 ≤ z ∧ z ≤ 9223372036854775807) (hno : ∀ n : Nat, z = (n : Int) → n < A.length → g n = true) :
    Calls Tryd.prog 43 #[.pointer (some ⟨bt, 0, none⟩), .int .i64 z] w fun e w' => e = .returned (.int .i64 4) ∧ Ext w w' := by
  have E0 := (Ext.refl w).alloc (.cells #[.int .i64 z] 3)
  have y1 := cell_of_one (heap_alloc_new w (.cells #[.int .i64 z] 3))
  have MN := hid (may_none (h.ext E0) z hz hno)
  go_enter Tryd.func43, Tryd.ntmps43
  go_wp2_with fail
  refine (MN.out).mono ?_
  rintro e w1 ⟨rfl, E1⟩
  go_wp2
  go_ret
  exact ⟨rfl, E0.trans E1⟩
theorem free_wait {w : World} {B bt bk bd : Nat} {A : List Ops} {g : Nat → Bool} {F : ByteArray → Option SV} {G : Int → Option SV} (h : LockSt w B bt bk bd A g F G) (s : Nat) (hs : s < A.length) (hg : g s = false) (hm : mayB A g s = false) :
    Calls Tryd.prog 43 #[.pointer (some ⟨bt, 0, none⟩), .int .i64 s] w fun e w' => e = .returned (.int .i64 6) ∧ Ext w w' := by
  have E0 := (Ext.refl w).alloc (.cells #[.int .i64 s] 3)
  have y1 := cell_of_one (heap_alloc_new w (.cells #[.int .i64 s] 3))
  have MN := may_ok (h.ext E0) s hs hg
  rw [hm] at MN
  have MN := hid MN
  clear hg hm
  go_enter Tryd.func43, Tryd.ntmps43
  go_wp2_with fail
  refine (MN.out).mono ?_
  rintro e w1 ⟨rfl, E1⟩
  go_wp2
  go_ret
  exact ⟨rfl, E0.trans E1⟩
/-- the claims once s has gone from the keys of L' -/
def clF (A : List Ops) (g : Nat → Bool) (s : Nat) (L' : List ByteArray) (k : ByteArray) : Clm := if memB L' k = true then (clmTo A g k A.length).filter (fun c => !decide (c.1 = s)) else clmTo A g k A.length
theorem clF_nil (A : List Ops) (g : Nat → Bool) (s : Nat) : clF A g s [] = fun k => clmTo A g k A.length := by
  funext k; simp [clF, memB]
theorem clF_step (A : List Ops) (g : Nat → Bool) (s : Nat) (L' : List ByteArray) (key : ByteArray) : (fun k => if k = key then (clF A g s L' key).filter (fun c => !decide (c.1 = s)) else clF A g s L' k) = clF A g s (L' ++ [key]) := by
  funext k
  by_cases e : k = key
  · subst e
    have : memB (L' ++ [k]) k = true := memB_iff.2 (by simp)
    simp only [if_true, clF, this]
    split
    · simp [List.filter_filter]
    · rfl
  · have : memB (L' ++ [key]) k = memB L' k := by
      rw [Bool.eq_iff_iff, memB_iff, memB_iff]; simp [e]
    simp only [if_neg e, clF, this]
theorem clF_all (A : List Ops) (g : Nat → Bool) (s : Nat) (k : ByteArray) : clF A g s (tkL (A.getD s [])) k = clmTo A (goneW g s) k A.length := by
  unfold clF
  cases h : memB (tkL (A.getD s [])) k with
  | true => rw [if_pos rfl, clm_gone]
  | false =>
    rw [if_neg (by simp)]
    have : tchB (A.getD s []) k = false := by
      cases e : tchB (A.getD s []) k with
      | false => rfl
      | true => rw [memB_iff.2 ((tkL_mem _ k).2 e)] at h; cases h
    rw [clm_off this]
theorem tkL_len {d : Ops} (h : d.length ≤ 8) : (tkL d).length ≤ 32 := by
  have h1 := sortU_len (sortU (rds d) ++ sortU (wrs d))
  have h2 := sortU_len (rds d)
  have h3 := sortU_len (wrs d)
  have h4 := rds_len d d.length
  rw [List.take_of_length_le (Nat.le_refl _)] at h4
  rw [List.length_append] at h1
  unfold tkL; omega
theorem clF_len (A : List Ops) (g : Nat → Bool) (s : Nat) (L' : List ByteArray) (k : ByteArray) : (clF A g s L' k).length ≤ A.length := by
  have : ∀ n, (clmTo A g k n).length ≤ n := by
    intro n; induction n with
    | zero => simp [clmTo]
    | succ n ih => rw [clmTo, List.length_append]; unfold clm1; split <;> simp <;> omega
  have h1 := this A.length
  unfold clF
  split
  · exact Nat.le_trans (List.length_filter_le _ _) h1
  · exact h1
end Go.Proofs.YtomgeolmfpijoaaDoor

/- Contracts and lemmas for the proofs of this seat; each theorem states its own conditions. -/
namespace Go.Proofs.YtomgeolmfpijoaaDoor
open Go.RowKit
/-! make([]int, n), make([]bool, n); stores into such rows -/
theorem made_one (z : Value) (hz : z.cells = #[z]) (n : Nat) : (madeCells z.cells (n * 1)).toList = List.replicate n z := by
  apply List.ext_getElem
  · simp [madeCells]
  · intro i h1 h2
    simp [madeCells, hz, Nat.mod_one]
section
variable (w : World) {ops : Array Oper} {rest : List Oper} {o : Oper} {a : Act} {Q : Exit → Act → World → Prop}
theorem wpList_make_int (hg : o.guard = none) (l c : Operand) (hop : o.op = Op.makeSlice 22 l c) (n : Nat) (hl : a.eval l = .int .i64 n) (hc : a.eval c = .int .i64 n) (hn : n ≤ 1000000)
    (hK : ∀ v' w', w'.ownsRow w.heap.size 3 1 v' n (cI (List.replicate n 0)) → (∃ c, v' = .slice (some ⟨w.heap.size, 0, none⟩) n c) → Ext w w' → wpList Tryd.prog ops Q rest (a.put o.dst v') w') : wpList Tryd.prog ops Q (o :: rest) a w := by
  obtain ⟨i, i1, i2, i3, i4⟩ := info_parts (P := Tryd.prog) (e := 3) (z := .int .i64 0) (size := 1) (bytes := 8) (by kernel_rfl)
  refine wpList_make_full w hg l c 22 hop w.heap.size 3 i (.int .i64 0) 1 Tryd.underlying22 i1 i2 i3 .i64 .i64 n n n hl hc rfl rfl (by rw [i4]; omega) (by unfold maxLen; omega) (Nat.le_refl _) fun w' h1 h2 => ?_
  rw [made_one _ rfl] at h1
  refine hK _ w' ?_ ⟨_, rfl⟩ ((Ext.refl w).grown h2 (by simp))
  have : cI (List.replicate n 0) = List.replicate n (.int .i64 0) := by simp [cI]
  rw [this]; exact h1
theorem wpList_make_bool (hg : o.guard = none) (l c : Operand) (hop : o.op = Op.makeSlice 72 l c) (n : Nat) (hl : a.eval l = .int .i64 n) (hc : a.eval c = .int .i64 n) (hn : n ≤ 1000000)
    (hK : ∀ v' w', w'.ownsRow w.heap.size 4 1 v' n (cB (List.replicate n false)) → (∃ c, v' = .slice (some ⟨w.heap.size, 0, none⟩) n c) → Ext w w' → wpList Tryd.prog ops Q rest (a.put o.dst v') w') : wpList Tryd.prog ops Q (o :: rest) a w := by
  obtain ⟨i, i1, i2, i3, i4⟩ := info_parts (P := Tryd.prog) (e := 4) (z := .bool false) (size := 1) (bytes := 1) (by kernel_rfl)
  refine wpList_make_full w hg l c 72 hop w.heap.size 4 i (.bool false) 1 Tryd.underlying72 i1 i2 i3 .i64 .i64 n n n hl hc rfl rfl (by rw [i4]; omega) (by unfold maxLen; omega) (Nat.le_refl _) fun w' h1 h2 => ?_
  rw [made_one _ rfl] at h1
  refine hK _ w' ?_ ⟨_, rfl⟩ ((Ext.refl w).grown h2 (by simp))
  have : cB (List.replicate n false) = List.replicate n (.bool false) := by simp [cB]
  rw [this]; exact h1
end
theorem cI_set (l : List Int) (i : Nat) (x : Int) : (cI l).set i (.int .i64 x) = cI (l.set i x) := by simp [cI, List.map_set]
theorem cB_set (l : List Bool) (i : Nat) (x : Bool) : (cB l).set i (.bool x) = cB (l.set i x) := by simp [cB, List.map_set]
theorem own_int {w : World} {B n c g : Nat} {l : List Int} (h : w.ownsRow B 3 1 (.slice (some ⟨g, 0, none⟩) n c) n (cI l)) {i : Nat} (hi : i < l.length) : w.cell? ⟨g, i, none⟩ = some (.int .i64 (l.getD i 0)) ∧ w.frozen? ⟨g, i, none⟩ = false := by
  have hl : l.length = n := by have := h.1; simpa [cI] using this
  obtain ⟨_, _, he, _, _, _, hc⟩ := seg_cells (own_seg h) (by omega)
  injection he with he; injection he with he1 he2
  subst he1; subst he2
  have := hc i (.int .i64 (l.getD i 0)) (by simp [cI, hi])
  rw [Nat.zero_add] at this
  exact ⟨this, own_free h i⟩
theorem own_bool {w : World} {B n c g : Nat} {l : List Bool} (h : w.ownsRow B 4 1 (.slice (some ⟨g, 0, none⟩) n c) n (cB l)) {i : Nat} (hi : i < l.length) : w.cell? ⟨g, i, none⟩ = some (.bool (l.getD i false)) ∧ w.frozen? ⟨g, i, none⟩ = false := by
  have hl : l.length = n := by have := h.1; simpa [cB] using this
  obtain ⟨_, _, he, _, _, _, hc⟩ := seg_cells (own_seg h) (by omega)
  injection he with he; injection he with he1 he2
  subst he1; subst he2
  have := hc i (.bool (l.getD i false)) (by simp [cB, hi])
  rw [Nat.zero_add] at this
  exact ⟨this, own_free h i⟩
theorem own_int_set {w : World} {B n c g : Nat} {l : List Int} (h : w.ownsRow B 3 1 (.slice (some ⟨g, 0, none⟩) n c) n (cI l)) {i : Nat} (hi : i < l.length) (x : Int) : (w.setCell ⟨g, i, none⟩ (.int .i64 x)).ownsRow B 3 1 (.slice (some ⟨g, 0, none⟩) n c) n (cI (l.set i x)) := by
  rw [← cI_set]; exact own_cell_set h (by simpa [cI] using hi) _
theorem own_bool_set {w : World} {B n c g : Nat} {l : List Bool} (h : w.ownsRow B 4 1 (.slice (some ⟨g, 0, none⟩) n c) n (cB l)) {i : Nat} (hi : i < l.length) (x : Bool) : (w.setCell ⟨g, i, none⟩ (.bool x)).ownsRow B 4 1 (.slice (some ⟨g, 0, none⟩) n c) n (cB (l.set i x)) := by
  rw [← cB_set]; exact own_cell_set h (by simpa [cB] using hi) _
theorem own_form_g {w : World} {B e sz n : Nat} {v : Value} {xs : List Value} (h : w.ownsRow B e sz v n xs) (hn : 0 < n) : ∃ g c, v = .slice (some ⟨g, 0, none⟩) n c ∧ B ≤ g ∧ g < w.heap.size := by
  rcases h.2 with ⟨_, h0⟩ | ⟨g, cap, cur, rfl, hb, hg, _⟩
  · omega
  · exact ⟨g, cap, rfl, hb, (Array.getElem?_eq_some_iff.1 hg).1⟩
end Go.Proofs.YtomgeolmfpijoaaDoor
