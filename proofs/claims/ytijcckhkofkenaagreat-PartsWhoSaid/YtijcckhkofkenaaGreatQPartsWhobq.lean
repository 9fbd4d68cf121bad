/- Contracts and lemmas for the proof of PartsWho; each theorem states its own conditions. -/
import Derived.Test.YtijcckhkofkenaaGreatQPartsWhobp
import Derived.Test.YtijcckhkofkenaaGreatQPartsWhobi
import Derived.Test.YtijcckhkofkenaaGreatQPartsWhobj
import Derived.Shelf.Sort.Plain
import Derived.Shelf.Slices.Turned
import Derived.Ground.Names2Prog
import Derived.Shelf.Slices.CompactI
import Derived.Shelf.Slices.In.SortNone
import Derived.Shelf.Slices.Empties2
import Derived.Test.YtijcckhkofkenaaGreatProg
import Derived.Test.YtijcckhkofkenaaGreatQPartsWhoaa
set_option linter.unusedVariables false
set_option linter.unusedSimpArgs false
/- Contracts and lemmas for the proofs of this seat; each theorem states its own conditions. -/
namespace Go.Proofs.YtijcckhkofkenaaGreat
open Go.RowKit
/-! rokeep.partsBegun -/
def pbC : List ByteArray := [⟨#[109]⟩]
def pbO : List Int := [0, 1]
def pbS : Prs := [((⟨#[97]⟩ : ByteArray), (1 : Int)), ((⟨#[122]⟩ : ByteArray), (2 : Int))]
theorem pb_lit : mapErr pbC pbO = 0 ∧ storeErr pbS = 0 ∧ (parP pbC pbO pbS 1).length = 1 := by decide +kernel
set_option maxRecDepth 100000 in
set_option maxHeartbeats 2000000 in
theorem partsBegun_any (w : World) : Calls Tryz.prog 45 #[] w fun e w' => e = .returned (.bool true) ∧ Ext w w' := by
  have Ea := ((Ext.refl w).alloc (.cells #[.string ⟨#[109]⟩] 9))
  have Eb := Ea.alloc (.cells #[.int .i64 0, .int .i64 1] 3)
  have b1 := heap_1 w (.cells #[.string ⟨#[109]⟩] 9) (.cells #[.int .i64 0, .int .i64 1] 3)
  have b2 := heap_2 w (.cells #[.string ⟨#[109]⟩] 9) (.cells #[.int .i64 0, .int .i64 1] 3)
  generalize hwb : (w.alloc (.cells #[.string ⟨#[109]⟩] 9)).alloc (.cells #[.int .i64 0, .int .i64 1] 3) = wb at Eb b1 b2
  have sb : wb.heap.size = w.heap.size + 2 := by rw [← hwb]; simp
  have b3 := heap_alloc_new wb (.cells #[.string ⟨#[97]⟩, .int .i64 1, .string ⟨#[122]⟩, .int .i64 2] 33)
  have Ec := (Ext.refl wb).alloc (.cells #[.string ⟨#[97]⟩, .int .i64 1, .string ⟨#[122]⟩, .int .i64 2] 33)
  rw [sb] at b3
  obtain ⟨q1, q2, q3⟩ := pb_lit
  have P0 := hid (pnew_ok (.agg #[.slice (some ⟨w.heap.size, 0, none⟩) 1 1, .slice (some ⟨w.heap.size + 1, 0, none⟩) 2 2]) (.slice (some ⟨w.heap.size + 2, 0, none⟩) 2 2) pbC pbO pbS (wb.alloc (.cells #[.string ⟨#[97]⟩, .int .i64 1, .string ⟨#[122]⟩, .int .i64 2] 33))
    ⟨_, _, rfl, (seg_blk (xs := cS pbC) b1 rfl (Nat.le_refl _) (by simp [maxLen])).ext Ec, (seg_blk (xs := cI pbO) b2 rfl (Nat.le_refl _) (by simp [maxLen])).ext Ec⟩ (ok_of_mapErr q1) (by simp [pbC]; decide) (seg_blk (xs := cP pbS) b3 rfl (Nat.le_refl _) (by simp [maxLen])) (store_ok q2) (by decide))
  have Q3 := hid q3
  have E := Eb.trans Ec
  clear q1 q2 q3 b1 b2 b3 Ea Eb Ec
  go_enter Tryz.func45, Tryz.ntmps45
  go_wp2_with fail
  refine (P0.out).mono ?_
  rintro e w1 ⟨bt, vc, vo, pv, rfl, _, hP, E1⟩
  have PP := hid (ppart_ok hP 1 (by omega) (by rw [Q3.out]; omega))
  rw [Q3.out] at PP
  clear P0 hwb sb hP
  go_wp2_with fail
  refine (PP.out).mono ?_
  rintro e w2 ⟨v2, rfl, o2, E2⟩
  obtain ⟨a2, c2, rfl⟩ := own_form o2
  clear o2 PP
  go_wp2
  go_ret
  exact ⟨rfl, E.trans (E1.trans E2)⟩
end Go.Proofs.YtijcckhkofkenaaGreat

/- Contracts and lemmas for the proofs of this seat; each theorem states its own conditions. -/
namespace Go.Proofs.YtijcckhkofkenaaGreat
open Go.RowKit
/-- what the row tells of a slice of slices of numbers, as mine -/
theorem segll_of_rows {w : World} {base : Nat} {x : Addr} {len cap : Nat} {A : Nat → Option Addr} {L C : Nat → Nat} {Z : Nat → List Int} (hl : len ≤ cap) (hm : cap ≤ maxLen)
    (h : ∀ r, r < cap → w.cell? (x.add r) = some (.slice (A r) (L r) (C r)) ∧ L r ≤ C r ∧ C r ≤ maxLen ∧ (Z r).length = C r ∧ (∀ n ∈ Z r, (Lit.int .i64 n).wf = true) ∧ (A r = none → C r = 0) ∧
        ∀ a', A r = some a' → base ≤ a'.block ∧ ∀ c, c < C r → w.cell? (a'.add c) = some (.int .i64 ((Z r).getD c 0))) :
    ∃ ls : List (List Int), SegLL w (.slice (some x) len cap) ls ∧ ls.length = len ∧ ∀ l ∈ ls, ∀ z ∈ l, -9223372036854775808 ≤ z ∧ z ≤ 9223372036854775807 := by
  have row : ∀ r, r < cap → Seg w (.slice (A r) (L r) (C r)) 1 ((Z r).take (L r)).length (cI ((Z r).take (L r))) ∧ ∀ z ∈ (Z r).take (L r), -9223372036854775808 ≤ z ∧ z ≤ 9223372036854775807 := fun r hr => by
    obtain ⟨h1, h2, h3, h4, h5, h6, h7⟩ := h r hr
    have hrow := seg_of_row (w := w) (a := A r) (len := L r) (cap := C r) (zs := Z r) (by
      cases ha : A r with
      | none =>
        have := h6 ha
        left
        exact ⟨rfl, by omega, this, List.eq_nil_of_length_eq_zero (by omega)⟩
      | some a' =>
        right
        exact ⟨a', rfl, h2, h3, h4, fun i hi => (h7 a' ha).2 i (by omega), h5⟩)
    exact ⟨hrow.1, hrow.2.1⟩
  refine ⟨(List.range len).map fun r => (Z r).take (L r), ⟨(List.range len).map fun r => .slice (A r) (L r) (C r), by simp, ⟨by simp, some x, cap, by simp, by simpa using hl, hm, fun hn => ?_⟩, fun i u m hu hm' => ?_⟩, by simp, fun l hl' z hz => ?_⟩
  · simp at hn
    have hs := cell_spot (h 0 (by omega)).1
    obtain ⟨b, off, sp⟩ := x
    have : sp = none := by simpa [Addr.add] using hs
    subst this
    refine ⟨b, off, rfl, fun j u hu => ?_⟩
    rw [← addr_add]
    obtain ⟨hj, e⟩ := List.getElem?_eq_some_iff.1 hu
    simp at hj e
    subst e
    exact (h j (by omega)).1
  · obtain ⟨hj, e⟩ := List.getElem?_eq_some_iff.1 hu
    obtain ⟨_, e'⟩ := List.getElem?_eq_some_iff.1 hm'
    simp at hj e e'
    subst e; subst e'
    exact (row i (by omega)).1
  · simp at hl'
    obtain ⟨r, hr, rfl⟩ := hl'
    exact (row r (by omega)).2 z hz
theorem segll_nil (w : World) : SegLL w (.slice none 0 0) [] := ⟨[], rfl, Seg.nil _ _, fun i u m h => by simp at h⟩
theorem seg_rows {w : World} {a : Option Addr} {len cap : Nat} {zs : List Int} (h : (a = none ∧ len = 0 ∧ cap = 0 ∧ zs = []) ∨
    ∃ x, a = some x ∧ len ≤ cap ∧ cap ≤ maxLen ∧ zs.length = cap ∧ (∀ i, i < zs.length → w.cell? (x.add i) = some (.int .i64 (zs.getD i 0))) ∧ ∀ n ∈ zs, (Lit.int .i64 n).wf = true) :
    ∃ l : List Int, Seg w (.slice a len cap) 1 l.length (cI l) ∧ ∀ z ∈ l, -9223372036854775808 ≤ z ∧ z ≤ 9223372036854775807 := ⟨_, (seg_of_row h).1, (seg_of_row h).2.1⟩
end Go.Proofs.YtijcckhkofkenaaGreat

/- Contracts and lemmas for the proofs of this seat; each theorem states its own conditions. -/
namespace Go.Proofs.YtijcckhkofkenaaGreat
open Go.RowKit
/-! what a turn of a box of parts leaves -/
theorem OwnDs.keptB {w w' : World} {B b : Nat} {us : List Value} {D : List Ops} (h : OwnDs w B us D) (hg : w.grownBy w' (some b)) (hb : b < B) : OwnDs w' B us D :=
  ⟨h.len, fun i u d a e => grown_own hg (h.own i u d a e) (.inr (fun e' => by have := own_ge (h.own i u d a e) _ e'; omega)), h.ne⟩
theorem own_keptB {w w' : World} {B b e sz n : Nat} {v : Value} {xs : List Value} (h : w.ownsRow B e sz v n xs) (hg : w.grownBy w' (some b)) (hb : b < B) : w'.ownsRow B e sz v n xs :=
  grown_own hg h (.inr (fun e' => by have := own_ge h _ e'; omega))
theorem ext_keptB {w0 w w' : World} {b : Nat} (E : Ext w0 w) (hg : w.grownBy w' (some b)) (hb : w0.heap.size ≤ b) : Ext w0 w' := E.grown hg (fun k e => by injection e with e; omega)
theorem not_own {w : World} {B b e sz n : Nat} {v : Value} {xs : List Value} (h : w.ownsRow B e sz v n xs) (hb : b < B) : v.ownBlock ≠ some b := fun e' => by have := own_ge h _ e'; omega
theorem not_own' {w : World} {B b e sz n : Nat} {v : Value} {xs : List Value} (h : w.ownsRow B e sz v n xs) (hb : w.heap.size ≤ b) : v.ownBlock ≠ some b := fun e' => by have := (h.lt _ e').2; omega
/-- the deeds of a list at hand, one of them taken -/
theorem deed_cell {w : World} {B B' : Nat} {us : List Value} {D : List Ops} {aD : Option Addr} {cD : Nat} (hds : OwnDs w B us D) (ho : w.ownsRow B' 29 1 (.slice aD D.length cD) D.length us) {k : Nat} (hk : k < D.length) :
    ∃ b x y, aD = some ⟨b, 0, none⟩ ∧ w.cell? ⟨b, k, none⟩ = some (.slice x D[k].length y) ∧ Seg w (.slice x D[k].length y) 4 D[k].length (cO D[k]) ∧ D.length ≤ cD ∧ cD ≤ maxLen := by
  have hl := hds.len
  have hs : SegDs w (.slice aD D.length cD) D := by
    refine hds.seg (B' := B') ?_
    rw [hl]; exact ho
  obtain ⟨_, _, e, h1, h2, h3⟩ := hs.form
  injection e with e1 _ e3
  subst e1; subst e3
  obtain ⟨g, e', _⟩ := own_pos ho (by omega)
  obtain ⟨b, off, e, h4⟩ := h3 (by omega)
  rw [e'] at e
  injection e with e; injection e with e1 e2
  subst e1; subst e2
  obtain ⟨x, y, c, s⟩ := h4 k D[k] (List.getElem?_eq_getElem hk)
  rw [Nat.zero_add] at c
  exact ⟨g, x, y, e', c, s, h1, h2⟩
end Go.Proofs.YtijcckhkofkenaaGreat

/- Contracts and lemmas for the proofs of this seat; each theorem states its own conditions. -/
namespace Go.Proofs.YtijcckhkofkenaaGreat
open Go.Shelf
def lays189_ren : Go.Shelf.Ren := ⟨fun | 189 => 84 | 125 => 108 | 257 => 107 | 128 => 134 | 129 => 135 | 294 => 126 | 295 => 127 | 296 => 128 | 297 => 129 | 298 => 130 | 299 => 131 | 216 => 86 | 300 => 132 | 301 => 133 | 328 => 168 | 329 => 169 | 330 => 170 | 331 => 171 | 332 => 172 | 215 => 109 | 343 => 182 | n => n, fun | 28 => 24 | 3 => 3 | 46 => 119 | 0 => 0 | 51 => 192 | 53 => 108 | 4 => 4 | 183 => 186 | 182 => 185 | 131 => 109 | 5 => 5 | 9 => 9 | 218 => 212 | 222 => 216 | 228 => 224 | 229 => 225 | n => n, fun | n => n⟩
theorem lays189 : Go.Proofs.Lays.n189 Tryz.prog lays189_ren := {
  mixed := by kernel_rfl
  f125 := Tryz.func108.trans (congrArg some (by kernel_rfl))
  f128 := Tryz.func134.trans (congrArg some (by kernel_rfl))
  f129 := Tryz.func135.trans (congrArg some (by kernel_rfl))
  f189 := Tryz.func84.trans (congrArg some (by kernel_rfl))
  f215 := Tryz.func109.trans (congrArg some (by kernel_rfl))
  f216 := Tryz.func86.trans (congrArg some (by kernel_rfl))
  f257 := Tryz.func107.trans (congrArg some (by kernel_rfl))
  f294 := Tryz.func126.trans (congrArg some (by kernel_rfl))
  f295 := Tryz.func127.trans (congrArg some (by kernel_rfl))
  f296 := Tryz.func128.trans (congrArg some (by kernel_rfl))
  f297 := Tryz.func129.trans (congrArg some (by kernel_rfl))
  f298 := Tryz.func130.trans (congrArg some (by kernel_rfl))
  f299 := Tryz.func131.trans (congrArg some (by kernel_rfl))
  f300 := Tryz.func132.trans (congrArg some (by kernel_rfl))
  f301 := Tryz.func133.trans (congrArg some (by kernel_rfl))
  f328 := Tryz.func168.trans (congrArg some (by kernel_rfl))
  f329 := Tryz.func169.trans (congrArg some (by kernel_rfl))
  f330 := Tryz.func170.trans (congrArg some (by kernel_rfl))
  f331 := Tryz.func171.trans (congrArg some (by kernel_rfl))
  f332 := Tryz.func172.trans (congrArg some (by kernel_rfl))
  f343 := Tryz.func182.trans (congrArg some (by kernel_rfl))
  t0 := Tryz.underlying0
  a0 := Tryz.isAgg0
  z0 := Tryz.sizeOf0
  v0 := Tryz.zeroValue0
  t3 := Tryz.underlying3
  a3 := Tryz.isAgg3
  z3 := Tryz.sizeOf3
  v3 := Tryz.zeroValue3
  t4 := Tryz.underlying4
  a4 := Tryz.isAgg4
  z4 := Tryz.sizeOf4
  v4 := Tryz.zeroValue4
  t5 := Tryz.underlying5
  a5 := Tryz.isAgg5
  z5 := Tryz.sizeOf5
  v5 := Tryz.zeroValue5
  t9 := Tryz.underlying9
  a9 := Tryz.isAgg9
  z9 := Tryz.sizeOf9
  v9 := Tryz.zeroValue9
  t28 := Tryz.underlying24
  a28 := Tryz.isAgg24
  z28 := Tryz.sizeOf24
  v28 := Tryz.zeroValue24
  t46 := Tryz.underlying119
  a46 := Tryz.isAgg119
  z46 := Tryz.sizeOf119
  v46 := Tryz.zeroValue119
  t51 := Tryz.underlying192
  a51 := Tryz.isAgg192
  z51 := Tryz.sizeOf192
  v51 := Tryz.zeroValue192
  t53 := Tryz.underlying108
  a53 := Tryz.isAgg108
  z53 := Tryz.sizeOf108
  v53 := Tryz.zeroValue108
  t131 := Tryz.underlying109
  a131 := Tryz.isAgg109
  z131 := Tryz.sizeOf109
  v131 := Tryz.zeroValue109
  t182 := Tryz.underlying185
  a182 := Tryz.isAgg185
  z182 := Tryz.sizeOf185
  v182 := Tryz.zeroValue185
  t183 := Tryz.underlying186
  a183 := Tryz.isAgg186
  z183 := Tryz.sizeOf186
  v183 := Tryz.zeroValue186
  t218 := Tryz.underlying212
  a218 := Tryz.isAgg212
  z218 := Tryz.sizeOf212
  v218 := Tryz.zeroValue212
  t222 := Tryz.underlying216
  a222 := Tryz.isAgg216
  z222 := Tryz.sizeOf216
  v222 := Tryz.zeroValue216
  t228 := Tryz.underlying224
  a228 := Tryz.isAgg224
  z228 := Tryz.sizeOf224
  v228 := Tryz.zeroValue224
  t229 := Tryz.underlying225
  a229 := Tryz.isAgg225
  z229 := Tryz.sizeOf225
  v229 := Tryz.zeroValue225 }
def lays107_ren : Go.Shelf.Ren := ⟨fun | 107 => 57 | 108 => 87 | n => n, fun | 28 => 24 | 3 => 3 | 4 => 4 | 0 => 0 | n => n, fun | n => n⟩
theorem lays107 : Go.Proofs.Lays.n107 Tryz.prog lays107_ren := {
  mixed := by kernel_rfl
  f107 := Tryz.func57.trans (congrArg some (by kernel_rfl))
  f108 := Tryz.func87.trans (congrArg some (by kernel_rfl))
  t0 := Tryz.underlying0
  a0 := Tryz.isAgg0
  z0 := Tryz.sizeOf0
  v0 := Tryz.zeroValue0
  t3 := Tryz.underlying3
  a3 := Tryz.isAgg3
  z3 := Tryz.sizeOf3
  v3 := Tryz.zeroValue3
  t4 := Tryz.underlying4
  a4 := Tryz.isAgg4
  z4 := Tryz.sizeOf4
  v4 := Tryz.zeroValue4
  t28 := Tryz.underlying24
  a28 := Tryz.isAgg24
  z28 := Tryz.sizeOf24
  v28 := Tryz.zeroValue24 }
def lays2n20_ren : Go.Shelf.Ren := ⟨fun | 20 => 85 | n => n, fun | 22 => 24 | 3 => 3 | 4 => 4 | 0 => 0 | n => n, fun | n => n⟩
theorem lays2n20 : Go.Proofs.Lays2.n20 Tryz.prog lays2n20_ren := {
  mixed := by kernel_rfl
  f20 := Tryz.func85.trans (congrArg some (by kernel_rfl))
  t0 := Tryz.underlying0
  a0 := Tryz.isAgg0
  z0 := Tryz.sizeOf0
  v0 := Tryz.zeroValue0
  t3 := Tryz.underlying3
  a3 := Tryz.isAgg3
  z3 := Tryz.sizeOf3
  v3 := Tryz.zeroValue3
  t4 := Tryz.underlying4
  a4 := Tryz.isAgg4
  z4 := Tryz.sizeOf4
  v4 := Tryz.zeroValue4
  t22 := Tryz.underlying24
  a22 := Tryz.isAgg24
  z22 := Tryz.sizeOf24
  v22 := Tryz.zeroValue24
  i3 := by kernel_rfl }
end Go.Proofs.YtijcckhkofkenaaGreat
