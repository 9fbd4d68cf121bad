/- Contracts and lemmas for the proof of PartsPlay; each theorem states its own conditions. -/
import Derived.Test.YtimchedebcoohaaGreatDoorQPartsPlaybi
import Derived.Test.YtimchedebcoohaaGreatDoorQPartsPlayas
import Derived.Shelf.Sort.Plain
import Derived.Shelf.Slices.Turned
import Derived.Ground.Names2Prog
import Derived.Shelf.Slices.CompactI
import Derived.Shelf.Slices.In.SortNone
import Derived.Shelf.Slices.Empties2
import Derived.Test.YtimchedebcoohaaGreatDoorProg
import Derived.Test.YtimchedebcoohaaGreatDoorQPartsPlayaa
import Derived.Test.YtimchedebcoohaaGreatDoorQPartsPlaybc
import Derived.Test.YtimchedebcoohaaGreatDoorQPartsPlaybg
import Derived.Test.YtimchedebcoohaaGreatDoorQPartsPlaybb
set_option linter.unusedVariables false
set_option linter.unusedSimpArgs false
/- Contracts and lemmas for the proofs of this seat; each theorem states its own conditions. -/
namespace Go.Proofs.YtimchedebcoohaaGreatDoor
open Go.RowKit
/-! rokeep.partsBegun -/
def pbC : List ByteArray := [⟨#[109]⟩]
def pbO : List Int := [0, 1]
def pbS : Prs := [((⟨#[97]⟩ : ByteArray), (1 : Int)), ((⟨#[122]⟩ : ByteArray), (2 : Int))]
theorem pb_lit : mapErr pbC pbO = 0 ∧ storeErr pbS = 0 ∧ (parP pbC pbO pbS 1).length = 1 := by decide +kernel
end Go.Proofs.YtimchedebcoohaaGreatDoor

/- Contracts and lemmas for the proofs of this seat; each theorem states its own conditions. -/
namespace Go.Proofs.YtimchedebcoohaaGreatDoor
open Go.RowKit
/-! what a turn of a box of parts leaves -/
theorem OwnDs.keptB {w w' : World} {B b : Nat} {us : List Value} {D : List Ops} (h : OwnDs w B us D) (hg : w.grownBy w' (some b)) (hb : b < B) : OwnDs w' B us D :=
  ⟨h.len, fun i u d a e => grown_own hg (h.own i u d a e) (.inr (fun e' => by have := own_ge (h.own i u d a e) _ e'; omega)), h.ne⟩
theorem own_keptB {w w' : World} {B b e sz n : Nat} {v : Value} {xs : List Value} (h : w.ownsRow B e sz v n xs) (hg : w.grownBy w' (some b)) (hb : b < B) : w'.ownsRow B e sz v n xs :=
  grown_own hg h (.inr (fun e' => by have := own_ge h _ e'; omega))
theorem ext_keptB {w0 w w' : World} {b : Nat} (E : Ext w0 w) (hg : w.grownBy w' (some b)) (hb : w0.heap.size ≤ b) : Ext w0 w' := E.grown hg (fun k e => by injection e with e; omega)
theorem not_own {w : World} {B b e sz n : Nat} {v : Value} {xs : List Value} (h : w.ownsRow B e sz v n xs) (hb : b < B) : v.ownBlock ≠ some b := fun e' => by have := own_ge h _ e'; omega
theorem not_own' {w : World} {B b e sz n : Nat} {v : Value} {xs : List Value} (h : w.ownsRow B e sz v n xs) (hb : w.heap.size ≤ b) : v.ownBlock ≠ some b := fun e' => by have := (h.lt _ e').2; omega
/-- the deeds of a list at hand, one of them taken -/
theorem deed_cell {w : World} {B B' : Nat} {us : List Value} {D : List Ops} {aD : Option Addr} {cD : Nat} (hds : OwnDs w B us D) (ho : w.ownsRow B' 43 1 (.slice aD D.length cD) D.length us) {k : Nat} (hk : k < D.length) :
    ∃ b x y, aD = some ⟨b, 0, none⟩ ∧ w.cell? ⟨b, k, none⟩ = some (.slice x D[k].length y) ∧ Seg w (.slice x D[k].length y) 4 D[k].length (cO D[k]) ∧ D.length ≤ cD ∧ cD ≤ maxLen := by
  have hl := hds.len
  have hs : SegDs w (.slice aD D.length cD) D := by
    refine hds.seg (B' := B') ?_
    rw [hl]; exact ho
  obtain ⟨_, _, e, h1, h2, h3⟩ := hs.form
  injection e with e1 _ e3
  subst e1; subst e3
  obtain ⟨g, e', _⟩ := own_pos ho (by omega)
  obtain ⟨b, off, e, h4⟩ := h3 (by omega)
  rw [e'] at e
  injection e with e; injection e with e1 e2
  subst e1; subst e2
  obtain ⟨x, y, c, s⟩ := h4 k D[k] (List.getElem?_eq_getElem hk)
  rw [Nat.zero_add] at c
  exact ⟨g, x, y, e', c, s, h1, h2⟩
end Go.Proofs.YtimchedebcoohaaGreatDoor

/- Contracts and lemmas for the proofs of this seat; each theorem states its own conditions. -/
namespace Go.Proofs.YtimchedebcoohaaGreatDoor
open Go.Shelf
def lays189_ren : Go.Shelf.Ren := ⟨fun | 189 => 45 | 125 => 70 | 257 => 72 | 128 => 100 | 129 => 101 | 294 => 110 | 295 => 111 | 296 => 112 | 297 => 113 | 298 => 114 | 299 => 115 | 216 => 116 | 300 => 117 | 301 => 118 | 328 => 132 | 329 => 133 | 330 => 134 | 331 => 135 | 332 => 136 | 215 => 137 | 343 => 152 | n => n, fun | 28 => 23 | 3 => 3 | 46 => 82 | 0 => 0 | 51 => 143 | 53 => 145 | 4 => 4 | 183 => 155 | 182 => 154 | 131 => 105 | 5 => 5 | 9 => 9 | 218 => 171 | 222 => 169 | 228 => 184 | 229 => 182 | n => n, fun | n => n⟩
theorem lays189 : Go.Proofs.Lays.n189 Tryz.prog lays189_ren := {
  mixed := by kernel_rfl
  f125 := Tryz.func70.trans (congrArg some (by kernel_rfl))
  f128 := Tryz.func100.trans (congrArg some (by kernel_rfl))
  f129 := Tryz.func101.trans (congrArg some (by kernel_rfl))
  f189 := Tryz.func45.trans (congrArg some (by kernel_rfl))
  f215 := Tryz.func137.trans (congrArg some (by kernel_rfl))
  f216 := Tryz.func116.trans (congrArg some (by kernel_rfl))
  f257 := Tryz.func72.trans (congrArg some (by kernel_rfl))
  f294 := Tryz.func110.trans (congrArg some (by kernel_rfl))
  f295 := Tryz.func111.trans (congrArg some (by kernel_rfl))
  f296 := Tryz.func112.trans (congrArg some (by kernel_rfl))
  f297 := Tryz.func113.trans (congrArg some (by kernel_rfl))
  f298 := Tryz.func114.trans (congrArg some (by kernel_rfl))
  f299 := Tryz.func115.trans (congrArg some (by kernel_rfl))
  f300 := Tryz.func117.trans (congrArg some (by kernel_rfl))
  f301 := Tryz.func118.trans (congrArg some (by kernel_rfl))
  f328 := Tryz.func132.trans (congrArg some (by kernel_rfl))
  f329 := Tryz.func133.trans (congrArg some (by kernel_rfl))
  f330 := Tryz.func134.trans (congrArg some (by kernel_rfl))
  f331 := Tryz.func135.trans (congrArg some (by kernel_rfl))
  f332 := Tryz.func136.trans (congrArg some (by kernel_rfl))
  f343 := Tryz.func152.trans (congrArg some (by kernel_rfl))
  t0 := Tryz.underlying0
  a0 := Tryz.isAgg0
  z0 := Tryz.sizeOf0
  v0 := Tryz.zeroValue0
  t3 := Tryz.underlying3
  a3 := Tryz.isAgg3
  z3 := Tryz.sizeOf3
  v3 := Tryz.zeroValue3
  t4 := Tryz.underlying4
  a4 := Tryz.isAgg4
  z4 := Tryz.sizeOf4
  v4 := Tryz.zeroValue4
  t5 := Tryz.underlying5
  a5 := Tryz.isAgg5
  z5 := Tryz.sizeOf5
  v5 := Tryz.zeroValue5
  t9 := Tryz.underlying9
  a9 := Tryz.isAgg9
  z9 := Tryz.sizeOf9
  v9 := Tryz.zeroValue9
  t28 := Tryz.underlying23
  a28 := Tryz.isAgg23
  z28 := Tryz.sizeOf23
  v28 := Tryz.zeroValue23
  t46 := Tryz.underlying82
  a46 := Tryz.isAgg82
  z46 := Tryz.sizeOf82
  v46 := Tryz.zeroValue82
  t51 := Tryz.underlying143
  a51 := Tryz.isAgg143
  z51 := Tryz.sizeOf143
  v51 := Tryz.zeroValue143
  t53 := Tryz.underlying145
  a53 := Tryz.isAgg145
  z53 := Tryz.sizeOf145
  v53 := Tryz.zeroValue145
  t131 := Tryz.underlying105
  a131 := Tryz.isAgg105
  z131 := Tryz.sizeOf105
  v131 := Tryz.zeroValue105
  t182 := Tryz.underlying154
  a182 := Tryz.isAgg154
  z182 := Tryz.sizeOf154
  v182 := Tryz.zeroValue154
  t183 := Tryz.underlying155
  a183 := Tryz.isAgg155
  z183 := Tryz.sizeOf155
  v183 := Tryz.zeroValue155
  t218 := Tryz.underlying171
  a218 := Tryz.isAgg171
  z218 := Tryz.sizeOf171
  v218 := Tryz.zeroValue171
  t222 := Tryz.underlying169
  a222 := Tryz.isAgg169
  z222 := Tryz.sizeOf169
  v222 := Tryz.zeroValue169
  t228 := Tryz.underlying184
  a228 := Tryz.isAgg184
  z228 := Tryz.sizeOf184
  v228 := Tryz.zeroValue184
  t229 := Tryz.underlying182
  a229 := Tryz.isAgg182
  z229 := Tryz.sizeOf182
  v229 := Tryz.zeroValue182 }
def lays107_ren : Go.Shelf.Ren := ⟨fun | 107 => 22 | 108 => 50 | n => n, fun | 28 => 23 | 3 => 3 | 4 => 4 | 0 => 0 | n => n, fun | n => n⟩
theorem lays107 : Go.Proofs.Lays.n107 Tryz.prog lays107_ren := {
  mixed := by kernel_rfl
  f107 := Tryz.func22.trans (congrArg some (by kernel_rfl))
  f108 := Tryz.func50.trans (congrArg some (by kernel_rfl))
  t0 := Tryz.underlying0
  a0 := Tryz.isAgg0
  z0 := Tryz.sizeOf0
  v0 := Tryz.zeroValue0
  t3 := Tryz.underlying3
  a3 := Tryz.isAgg3
  z3 := Tryz.sizeOf3
  v3 := Tryz.zeroValue3
  t4 := Tryz.underlying4
  a4 := Tryz.isAgg4
  z4 := Tryz.sizeOf4
  v4 := Tryz.zeroValue4
  t28 := Tryz.underlying23
  a28 := Tryz.isAgg23
  z28 := Tryz.sizeOf23
  v28 := Tryz.zeroValue23 }
def lays2n20_ren : Go.Shelf.Ren := ⟨fun | 20 => 47 | n => n, fun | 22 => 23 | 3 => 3 | 4 => 4 | 0 => 0 | n => n, fun | n => n⟩
theorem lays2n20 : Go.Proofs.Lays2.n20 Tryz.prog lays2n20_ren := {
  mixed := by kernel_rfl
  f20 := Tryz.func47.trans (congrArg some (by kernel_rfl))
  t0 := Tryz.underlying0
  a0 := Tryz.isAgg0
  z0 := Tryz.sizeOf0
  v0 := Tryz.zeroValue0
  t3 := Tryz.underlying3
  a3 := Tryz.isAgg3
  z3 := Tryz.sizeOf3
  v3 := Tryz.zeroValue3
  t4 := Tryz.underlying4
  a4 := Tryz.isAgg4
  z4 := Tryz.sizeOf4
  v4 := Tryz.zeroValue4
  t22 := Tryz.underlying23
  a22 := Tryz.isAgg23
  z22 := Tryz.sizeOf23
  v22 := Tryz.zeroValue23
  i3 := by kernel_rfl }
end Go.Proofs.YtimchedebcoohaaGreatDoor

/- Contracts and lemmas for the proofs of this seat; each theorem states its own conditions. -/
namespace Go.Proofs.YtimchedebcoohaaGreatDoor
open Go.RowKit Go.Maps
/-! Free -/
/-- the claims once s has gone from the keys of L' -/
def clF (A : List Ops) (g : Nat → Bool) (s : Nat) (L' : List ByteArray) (k : ByteArray) : Clm := if memB L' k = true then (clmTo A g k A.length).filter (fun c => !decide (c.1 = s)) else clmTo A g k A.length
theorem clF_nil (A : List Ops) (g : Nat → Bool) (s : Nat) : clF A g s [] = fun k => clmTo A g k A.length := by
  funext k; simp [clF, memB]
theorem clF_step (A : List Ops) (g : Nat → Bool) (s : Nat) (L' : List ByteArray) (key : ByteArray) : (fun k => if k = key then (clF A g s L' key).filter (fun c => !decide (c.1 = s)) else clF A g s L' k) = clF A g s (L' ++ [key]) := by
  funext k
  by_cases e : k = key
  · subst e
    have : memB (L' ++ [k]) k = true := memB_iff.2 (by simp)
    simp only [if_true, clF, this]
    split
    · simp [List.filter_filter]
    · rfl
  · have : memB (L' ++ [key]) k = memB L' k := by
      rw [Bool.eq_iff_iff, memB_iff, memB_iff]; simp [e]
    simp only [if_neg e, clF, this]
theorem clF_all (A : List Ops) (g : Nat → Bool) (s : Nat) (k : ByteArray) : clF A g s (tkL (A.getD s [])) k = clmTo A (goneW g s) k A.length := by
  unfold clF
  cases h : memB (tkL (A.getD s [])) k with
  | true => rw [if_pos rfl, clm_gone]
  | false =>
    rw [if_neg (by simp)]
    have : tchB (A.getD s []) k = false := by
      cases e : tchB (A.getD s []) k with
      | false => rfl
      | true => rw [memB_iff.2 ((tkL_mem _ k).2 e)] at h; cases h
    rw [clm_off this]
theorem tkL_len {d : Ops} (h : d.length ≤ 8) : (tkL d).length ≤ 32 := by
  have h1 := sortU_len (sortU (rds d) ++ sortU (wrs d))
  have h2 := sortU_len (rds d)
  have h3 := sortU_len (wrs d)
  have h4 := rds_len d d.length
  rw [List.take_of_length_le (Nat.le_refl _)] at h4
  rw [List.length_append] at h1
  unfold tkL; omega
theorem clF_len (A : List Ops) (g : Nat → Bool) (s : Nat) (L' : List ByteArray) (k : ByteArray) : (clF A g s L' k).length ≤ A.length := by
  have : ∀ n, (clmTo A g k n).length ≤ n := by
    intro n; induction n with
    | zero => simp [clmTo]
    | succ n ih => rw [clmTo, List.length_append]; unfold clm1; split <;> simp <;> omega
  have h1 := this A.length
  unfold clF
  split
  · exact Nat.le_trans (List.length_filter_le _ _) h1
  · exact h1
end Go.Proofs.YtimchedebcoohaaGreatDoor

/- Contracts and lemmas for the proofs of this seat; each theorem states its own conditions. -/
namespace Go.Proofs.YtimchedebcoohaaGreatDoor
open Go.RowKit
/-! make([]int, n), make([]bool, n); stores into such rows -/
theorem made_one (z : Value) (hz : z.cells = #[z]) (n : Nat) : (madeCells z.cells (n * 1)).toList = List.replicate n z := by
  apply List.ext_getElem
  · simp [madeCells]
  · intro i h1 h2
    simp [madeCells, hz, Nat.mod_one]
section
variable (w : World) {ops : Array Oper} {rest : List Oper} {o : Oper} {a : Act} {Q : Exit → Act → World → Prop}
theorem wpList_make_int (hg : o.guard = none) (l c : Operand) (hop : o.op = Op.makeSlice 23 l c) (n : Nat) (hl : a.eval l = .int .i64 n) (hc : a.eval c = .int .i64 n) (hn : n ≤ 1000000)
    (hK : ∀ v' w', w'.ownsRow w.heap.size 3 1 v' n (cI (List.replicate n 0)) → (∃ c, v' = .slice (some ⟨w.heap.size, 0, none⟩) n c) → Ext w w' → wpList Tryz.prog ops Q rest (a.put o.dst v') w') : wpList Tryz.prog ops Q (o :: rest) a w := by
  obtain ⟨i, i1, i2, i3, i4⟩ := info_parts (P := Tryz.prog) (e := 3) (z := .int .i64 0) (size := 1) (bytes := 8) (by kernel_rfl)
  refine wpList_make_full w hg l c 23 hop w.heap.size 3 i (.int .i64 0) 1 Tryz.underlying23 i1 i2 i3 .i64 .i64 n n n hl hc rfl rfl (by rw [i4]; omega) (by unfold maxLen; omega) (Nat.le_refl _) fun w' h1 h2 => ?_
  rw [made_one _ rfl] at h1
  refine hK _ w' ?_ ⟨_, rfl⟩ ((Ext.refl w).grown h2 (by simp))
  have : cI (List.replicate n 0) = List.replicate n (.int .i64 0) := by simp [cI]
  rw [this]; exact h1
end
theorem cI_set (l : List Int) (i : Nat) (x : Int) : (cI l).set i (.int .i64 x) = cI (l.set i x) := by simp [cI, List.map_set]
theorem cB_set (l : List Bool) (i : Nat) (x : Bool) : (cB l).set i (.bool x) = cB (l.set i x) := by simp [cB, List.map_set]
theorem own_int {w : World} {B n c g : Nat} {l : List Int} (h : w.ownsRow B 3 1 (.slice (some ⟨g, 0, none⟩) n c) n (cI l)) {i : Nat} (hi : i < l.length) : w.cell? ⟨g, i, none⟩ = some (.int .i64 (l.getD i 0)) ∧ w.frozen? ⟨g, i, none⟩ = false := by
  have hl : l.length = n := by have := h.1; simpa [cI] using this
  obtain ⟨_, _, he, _, _, _, hc⟩ := seg_cells (own_seg h) (by omega)
  injection he with he; injection he with he1 he2
  subst he1; subst he2
  have := hc i (.int .i64 (l.getD i 0)) (by simp [cI, hi])
  rw [Nat.zero_add] at this
  exact ⟨this, own_free h i⟩
theorem own_bool {w : World} {B n c g : Nat} {l : List Bool} (h : w.ownsRow B 4 1 (.slice (some ⟨g, 0, none⟩) n c) n (cB l)) {i : Nat} (hi : i < l.length) : w.cell? ⟨g, i, none⟩ = some (.bool (l.getD i false)) ∧ w.frozen? ⟨g, i, none⟩ = false := by
  have hl : l.length = n := by have := h.1; simpa [cB] using this
  obtain ⟨_, _, he, _, _, _, hc⟩ := seg_cells (own_seg h) (by omega)
  injection he with he; injection he with he1 he2
  subst he1; subst he2
  have := hc i (.bool (l.getD i false)) (by simp [cB, hi])
  rw [Nat.zero_add] at this
  exact ⟨this, own_free h i⟩
theorem own_int_set {w : World} {B n c g : Nat} {l : List Int} (h : w.ownsRow B 3 1 (.slice (some ⟨g, 0, none⟩) n c) n (cI l)) {i : Nat} (hi : i < l.length) (x : Int) : (w.setCell ⟨g, i, none⟩ (.int .i64 x)).ownsRow B 3 1 (.slice (some ⟨g, 0, none⟩) n c) n (cI (l.set i x)) := by
  rw [← cI_set]; exact own_cell_set h (by simpa [cI] using hi) _
theorem own_bool_set {w : World} {B n c g : Nat} {l : List Bool} (h : w.ownsRow B 4 1 (.slice (some ⟨g, 0, none⟩) n c) n (cB l)) {i : Nat} (hi : i < l.length) (x : Bool) : (w.setCell ⟨g, i, none⟩ (.bool x)).ownsRow B 4 1 (.slice (some ⟨g, 0, none⟩) n c) n (cB (l.set i x)) := by
  rw [← cB_set]; exact own_cell_set h (by simpa [cB] using hi) _
theorem own_form_g {w : World} {B e sz n : Nat} {v : Value} {xs : List Value} (h : w.ownsRow B e sz v n xs) (hn : 0 < n) : ∃ g c, v = .slice (some ⟨g, 0, none⟩) n c ∧ B ≤ g ∧ g < w.heap.size := by
  rcases h.2 with ⟨_, h0⟩ | ⟨g, cap, cur, rfl, hb, hg, _⟩
  · omega
  · exact ⟨g, cap, rfl, hb, (Array.getElem?_eq_some_iff.1 hg).1⟩
end Go.Proofs.YtimchedebcoohaaGreatDoor
