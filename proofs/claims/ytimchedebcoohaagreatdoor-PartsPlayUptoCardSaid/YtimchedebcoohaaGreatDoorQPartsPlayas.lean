/- Contracts and lemmas for the proof of PartsPlay; each theorem states its own conditions. -/
import Derived.Test.YtimchedebcoohaaGreatDoorQPartsPlayae
import Derived.Test.YtimchedebcoohaaGreatDoorQPartsPlayar
import Derived.Test.YtimchedebcoohaaGreatDoorQPartsPlayab
import Derived.Test.YtimchedebcoohaaGreatDoorQPartsPlayai
import Derived.Test.YtimchedebcoohaaGreatDoorQPartsPlayak
import Derived.OneCell
import Derived.Test.YtimchedebcoohaaGreatDoorQPartsPlayao
import Derived.Test.YtimchedebcoohaaGreatDoorQPartsPlayad
import Derived.Deep.Strs
import Derived.Deep.Matrix
import Derived.Lib.SmallJoins
set_option linter.unusedVariables false
set_option linter.unusedSimpArgs false
/- Contracts and lemmas for the proofs of this seat; each theorem states its own conditions. -/
namespace Go.Proofs.YtimchedebcoohaaGreatDoor
open Go.RowKit
def findV (cuts : List ByteArray) (owners : List Int) (key : ByteArray) : Int := if mapErr cuts owners = 0 ∧ keyB key = true then whose cuts owners key else 0
def findE (cuts : List ByteArray) (owners : List Int) (key : ByteArray) : Int := if mapErr cuts owners ≠ 0 then mapErr cuts owners else if keyB key then 0 else 3
/-- the number that Within makes -/
def wi (k n : Int) : Int := (k % 18446744073709551616) % n
theorem wi_lo {k n : Int} (hn : 0 < n) : 0 ≤ wi k n := Int.emod_nonneg _ (by omega)
theorem wi_hi {k n : Int} (hn : 0 < n) : wi k n < n := Int.emod_lt_of_pos _ hn
/-- the keys that the statements use -/
def keysL : List ByteArray := [⟨#[97]⟩, ⟨#[98]⟩, ⟨#[99]⟩, ⟨#[100]⟩, ⟨#[109]⟩, ⟨#[110]⟩, ⟨#[122]⟩, ⟨#[97, 98]⟩]
/-- Key -/
def keyOf (k : Int) : ByteArray := kAt keysL (wi k 8).toNat
end Go.Proofs.YtimchedebcoohaaGreatDoor

/- Contracts and lemmas for the proofs of this seat; each theorem states its own conditions. -/
namespace Go.Proofs.YtimchedebcoohaaGreatDoor
open Go.RowKit
theorem keyOf_is (k : Int) : keyB (keyOf k) = true ∧ (keyOf k).size ≤ 9223372036854775807 := by
  have h0 := wi_lo (k := k) (n := 8) (by omega)
  have h1 := wi_hi (k := k) (n := 8) (by omega)
  have h2 : (wi k 8).toNat < keysL.length := by simp [keysL]; omega
  have h3 : ∀ k, (h : k < keysL.length) → keyB keysL[k] = true ∧ keysL[k].size ≤ 2 := by decide +kernel
  have := h3 _ h2
  unfold keyOf
  rw [kAt_eq h2]; exact ⟨this.1, by omega⟩
end Go.Proofs.YtimchedebcoohaaGreatDoor

/- Contracts and lemmas for the proofs of this seat; each theorem states its own conditions. -/
namespace Go.Proofs.YtimchedebcoohaaGreatDoor
open Go.RowKit
/-! rokeep.Deeds -/
/-- lists of numbers, in a row -/
def SegLL (w : World) (v : Value) (ls : List (List Int)) : Prop :=
  ∃ vs : List Value, vs.length = ls.length ∧ Seg w v 1 vs.length vs ∧ ∀ (i : Nat) (u : Value) (m : List Int), vs[i]? = some u → ls[i]? = some m → Seg w u 1 m.length (cI m)
theorem SegLL.ext {w w' : World} {v : Value} {ls : List (List Int)} (h : SegLL w v ls) (k : Ext w w') : SegLL w' v ls := by
  obtain ⟨vs, h1, h2, h3⟩ := h
  exact ⟨vs, h1, h2.ext k, fun i u m a b => (h3 i u m a b).ext k⟩
/-- an operation that Deeds makes -/
structure OpG (o : GOp) : Prop where
  lo : 1 ≤ o.kind
  hi : o.kind ≤ 5
  key : o.key ∈ keysL
  two : o.kind = 3 ∨ o.kind = 5 → keyB o.from_ = true ∧ o.from_ ≠ o.key
  one : o.kind ≠ 3 → o.kind ≠ 5 → o.from_ = ⟨#[]⟩
  n0 : 0 ≤ o.n
  n8 : o.n ≤ 8
theorem keysL_key : ∀ k ∈ keysL, keyB k = true := by decide +kernel
theorem OpG.ok {o : GOp} (h : OpG o) : OpOk o := ⟨h.lo, h.hi, keysL_key _ h.key, h.two, fun _ => by have := h.n0; have := h.n8; omega, fun _ => h.n0⟩
theorem OpG.sm {o : GOp} (h : OpG o) : o.from_.size ≤ 6 := by
  by_cases k : o.kind = 3 ∨ o.kind = 5
  · have := (h.two k).1; simp [keyB] at this; omega
  · rw [h.one (fun e => k (.inl e)) (fun e => k (.inr e))]; decide
structure DeedG (d : Ops) : Prop where
  lo : 1 ≤ d.length
  hi : d.length ≤ 4
  ops : ∀ o ∈ d, OpG o
theorem DeedG.ok {d : Ops} (h : DeedG d) : DeedOk d := ⟨h.lo, by have := h.hi; omega, fun o ho => (h.ops o ho).ok⟩
theorem DeedG.sm {d : Ops} (h : DeedG d) : ∀ o ∈ d, o.from_.size ≤ 9223372036854775807 := fun o ho => by have := (h.ops o ho).sm; omega
/-- deeds of one's own: their rows, each apart -/
structure OwnDs (w : World) (B : Nat) (vs : List Value) (D : List Ops) : Prop where
  len : vs.length = D.length
  own : ∀ (i : Nat) (u : Value) (d : Ops), vs[i]? = some u → D[i]? = some d → w.ownsRow B 90 4 u d.length (cO d)
  ne : ∀ (i j : Nat) (u v : Value) (k : Nat), i ≠ j → vs[i]? = some u → vs[j]? = some v → u.ownBlock = some k → v.ownBlock ≠ some k
theorem OwnDs.nil (w : World) (B : Nat) : OwnDs w B [] [] := ⟨rfl, fun i u d h => by simp at h, fun i j u v k _ h => by simp at h⟩
theorem OwnDs.ext {w w' : World} {B : Nat} {vs : List Value} {D : List Ops} (h : OwnDs w B vs D) (k : Ext w w') : OwnDs w' B vs D := ⟨h.len, fun i u d a b => own_ext (h.own i u d a b) k, h.ne⟩
theorem OwnDs.grown {w w' : World} {B B' e n : Nat} {sz : Nat} {v : Value} {xs : List Value} {vs : List Value} {D : List Ops} (h : OwnDs w B vs D) (ho : w.ownsRow B' e sz v n xs) (hg : w.grownBy w' v.ownBlock) (he : 90 ≠ e) : OwnDs w' B vs D :=
  ⟨h.len, fun i u d a b => grown_own hg (h.own i u d a b) (own_own_ne (h.own i u d a b) ho he), h.ne⟩
theorem OwnDs.snoc {w : World} {B B2 : Nat} {vs : List Value} {D : List Ops} (h : OwnDs w B vs D) (hlt : ∀ u ∈ vs, ∀ k, u.ownBlock = some k → k < B2) (hB : B ≤ B2) {v : Value} {d : Ops} (ho : w.ownsRow B2 90 4 v d.length (cO d)) : OwnDs w B (vs ++ [v]) (D ++ [d]) := by
  have hl := h.len
  refine ⟨by simp [hl], fun i u d' a b => ?_, fun i j u u' k hij a b hk hk' => ?_⟩
  · rcases Nat.lt_or_ge i vs.length with hi | hi
    · rw [List.getElem?_append_left hi] at a
      rw [List.getElem?_append_left (by omega)] at b
      exact h.own i u d' a b
    · rw [List.getElem?_append_right hi] at a
      rw [List.getElem?_append_right (by omega)] at b
      have : i - vs.length = 0 := by
        have := (List.getElem?_eq_some_iff.1 a).1; simp at this; omega
      rw [this] at a; rw [← hl, this] at b
      simp at a b; subst a; subst b
      exact own_base ho hB
  · rcases Nat.lt_or_ge i vs.length with hi | hi
    · rw [List.getElem?_append_left hi] at a
      rcases Nat.lt_or_ge j vs.length with hj | hj
      · rw [List.getElem?_append_left hj] at b
        exact h.ne i j u u' k hij a b hk hk'
      · rw [List.getElem?_append_right hj] at b
        have : j - vs.length = 0 := by
          have := (List.getElem?_eq_some_iff.1 b).1; simp at this; omega
        rw [this] at b; simp at b; subst b
        have h1 := hlt u (List.mem_of_getElem? a) k hk
        have h2 := own_ge ho k hk'
        omega
    · rw [List.getElem?_append_right hi] at a
      have hi0 : i - vs.length = 0 := by
        have := (List.getElem?_eq_some_iff.1 a).1; simp at this; omega
      rw [hi0] at a; simp at a; subst a
      rcases Nat.lt_or_ge j vs.length with hj | hj
      · rw [List.getElem?_append_left hj] at b
        have h1 := hlt u' (List.mem_of_getElem? b) k hk'
        have h2 := own_ge ho k hk
        omega
      · rw [List.getElem?_append_right hj] at b
        have : j - vs.length = 0 := by
          have := (List.getElem?_eq_some_iff.1 b).1; simp at this; omega
        omega
theorem OwnDs.lt {w : World} {B : Nat} {vs : List Value} {D : List Ops} (h : OwnDs w B vs D) : ∀ u ∈ vs, ∀ k, u.ownBlock = some k → k < w.heap.size := fun u hu k hk => by
  obtain ⟨i, hi, rfl⟩ := List.mem_iff_getElem.1 hu
  have hl := h.len
  exact ((h.own i _ (D[i]'(by omega)) (List.getElem?_eq_getElem hi) (List.getElem?_eq_getElem _)).lt k hk).2
theorem infoDd : (Tryz.prog.info? 43).map (fun i => (i.zero, i.size, i.bytes)) = some (some (.agg #[.slice none 0 0]), 1, 24) := by kernel_rfl
theorem infoOp : (Tryz.prog.info? 90).map (fun i => (i.zero, i.size, i.bytes)) = some (some (.agg #[.int .i64 0, .string ⟨#[]⟩, .string ⟨#[]⟩, .int .i64 0]), 4, 48) := by kernel_rfl
theorem keyOf_mem (k : Int) : keyOf k ∈ keysL := by
  have h0 := wi_lo (k := k) (n := 8) (by omega)
  have h1 := wi_hi (k := k) (n := 8) (by omega)
  have h2 : (wi k 8).toNat < keysL.length := by simp [keysL]; omega
  unfold keyOf
  rw [kAt_eq h2]; exact List.getElem_mem _
theorem q_not : (∀ k ∈ keysL, k ≠ ⟨#[113]⟩) ∧ keyB ⟨#[113]⟩ = true := by decide +kernel
theorem blk4_set {w : World} {b : Nat} {x y z u : Value} {t : TypeId} (h : w.heap[b]? = some (.cells #[x, y, z, u] t (0, 0))) (x' y' z' u' : Value) :
    ((((w.setCell ⟨b, 0, none⟩ x').setCell ⟨b, 1, none⟩ y').setCell ⟨b, 2, none⟩ z').setCell ⟨b, 3, none⟩ u').heap[b]? = some (.cells #[x', y', z', u'] t (0, 0)) := by
  simp [World.setCell, Array.getElem?_modify, h]
theorem blk4_set2 {w : World} {b : Nat} {x y z u : Value} {t : TypeId} (h : w.heap[b]? = some (.cells #[x, y, z, u] t (0, 0))) (z' : Value) :
    (w.setCell ⟨b, 2, none⟩ z').heap[b]? = some (.cells #[x, y, z', u] t (0, 0)) := by
  simp [World.setCell, Array.getElem?_modify, h]
theorem frz4 {w : World} {b : Nat} {x y z u : Value} {t : TypeId} (h : w.heap[b]? = some (.cells #[x, y, z, u] t (0, 0))) : w.frozen? ⟨b, 0, none⟩ = false ∧ w.frozen? ⟨b, 1, none⟩ = false ∧ w.frozen? ⟨b, 2, none⟩ = false ∧ w.frozen? ⟨b, 3, none⟩ = false := by
  simp [World.frozen?, h]
theorem cO_app (a b : Ops) : cO (a ++ b) = cO a ++ cO b := by simp [cO]
theorem one_deed (v : Option Addr) (n c : Nat) : ∀ u ∈ [Value.slice v n c], u.oneCell' = true := by
  intro u hu; simp at hu; subst hu; rfl
/-- what an append of a deed in a box to the deeds asks -/
theorem dd_prep {B sz n m : Nat} {W : World} {ad ao : Option Addr} {cd co : Nat} {vs : List Value} (hout : W.ownsRow B 43 1 (.slice ao m co) m vs) (hB : B ≤ W.heap.size) (hs : W.heap.size = sz) :
    Seg (W.alloc (.cells #[.slice ad n cd] 43)) (.slice (some ⟨sz, 0, none⟩) 1 1) 1 1 [.slice ad n cd] ∧ (W.alloc (.cells #[.slice ad n cd] 43)).ownsRow B 43 1 (.slice ao m co) m vs ∧ B ≤ (W.alloc (.cells #[.slice ad n cd] 43)).heap.size := by
  subst hs
  exact ⟨seg_one (heap_alloc_new W _), hout.alloc _, by simp; omega⟩
/-- the deeds, one more -/
theorem dd_step {w wo W W9 : World} {ad ao a9 : Option Addr} {cd co c9 k : Nat} {vs : List Value} {D : List Ops} {d : Ops} (hout : wo.ownsRow w.heap.size 43 1 (.slice ao vs.length co) vs.length vs) (hds : OwnDs wo w.heap.size vs D) (hdg : ∀ d ∈ D, DeedG d) (hdl : D.length ≤ k)
    (E : Ext w wo) (E2 : Ext wo W) (hod : W.ownsRow (wo.heap.size + 1) 90 4 (.slice ad d.length cd) d.length (cO d)) (h0 : 0 < d.length) (h4 : d.length ≤ 4) (hop : ∀ o ∈ d, OpG o)
    (hg : (W.alloc (.cells #[.slice ad d.length cd] 43)).grownBy W9 (Value.slice ao vs.length co).ownBlock) (ho' : W9.ownsRow w.heap.size 43 1 (.slice a9 (vs.length + 1) c9) (vs.length + 1) (vs ++ [.slice ad d.length cd])) :
    (∃ vs' D', W9.ownsRow w.heap.size 43 1 (.slice a9 (vs.length + 1) c9) vs'.length vs' ∧ OwnDs W9 w.heap.size vs' D' ∧ (∀ d ∈ D', DeedG d) ∧ D'.length ≤ k + 1) ∧ Ext w W9 := by
  have E1 := (E2.alloc (.cells #[.slice ad d.length cd] 43))
  have hout1 := own_ext hout E1
  have hod1 := hod.alloc (.cells #[.slice ad d.length cd] 43)
  have hne : 90 ≠ 43 := by decide
  have hds9 := (hds.ext E1).grown hout1 hg hne
  have hod9 := grown_own hg hod1 (own_own_ne hod1 hout1 hne)
  have hlt := hds.lt
  have hs := hds9.snoc (B2 := wo.heap.size + 1) (fun u hu k hk => by have := hlt u hu k hk; omega) (by have := E.size'; omega) hod9
  have hl := hs.len
  refine ⟨⟨vs ++ [.slice ad d.length cd], D ++ [d], by simpa using ho', hs, fun q hq => ?_, by simp; omega⟩, ((E.trans E2).alloc _).grown hg (fun k hk => own_ge hout k hk)⟩
  rcases List.mem_append.1 hq with hq | hq
  · exact hdg q hq
  · simp at hq; subst hq; exact ⟨h0, h4, hop⟩
theorem one_op (o : GOp) : ∀ u ∈ cO [o], u.oneCell' = true := by
  intro u hu; simp [cO] at hu; rcases hu with rfl | rfl | rfl | rfl <;> rfl
/-- what an append of one operation to a deed in a box asks -/
theorem op_prep {W : World} {b8 sz n : Nat} {ad : Option Addr} {cd : Nat} {xs : List Value} (o : GOp) (hb : W.heap[b8]? = some (.cells #[.slice ad n cd] 43 (0, 0))) (hod : W.ownsRow (b8 + 1) 90 4 (.slice ad n cd) n xs) (hs : W.heap.size = sz) :
    Seg (W.alloc (.cells #[.int .i64 o.kind, .string o.key, .string o.from_, .int .i64 o.n] 90)) (.slice (some ⟨sz, 0, none⟩) 1 1) 4 1 (cO [o]) ∧
    (W.alloc (.cells #[.int .i64 o.kind, .string o.key, .string o.from_, .int .i64 o.n] 90)).ownsRow (b8 + 1) 90 4 (.slice ad n cd) n xs ∧
    b8 + 1 ≤ (W.alloc (.cells #[.int .i64 o.kind, .string o.key, .string o.from_, .int .i64 o.n] 90)).heap.size ∧
    (W.alloc (.cells #[.int .i64 o.kind, .string o.key, .string o.from_, .int .i64 o.n] 90)).heap[b8]? = some (.cells #[.slice ad n cd] 43 (0, 0)) ∧ (Value.slice ad n cd).ownBlock ≠ some b8 := by
  have hlt := lt_of_block hb
  subst hs
  have hn := heap_alloc_new W (.cells #[.int .i64 o.kind, .string o.key, .string o.from_, .int .i64 o.n] 90)
  refine ⟨seg_blk (xs := cO [o]) (t := 90) hn rfl (Nat.le_refl _) (by simp [maxLen]), hod.alloc _, by simp; omega, ((Ext.refl W).alloc _).heap hb, fun e => ?_⟩
  have := own_ge hod _ e
  omega
/-- where the loop over a list stands -/
def DIn (w : World) (i : Nat) (wr : World) : Prop :=
  ∃ (v : Value) (d : Ops), i ≤ 3 * d.length ∧ d.length ≤ 4 ∧ (∀ o ∈ d, OpG o) ∧ wr.heap[w.heap.size]? = some (.cells #[v] 43 (0, 0)) ∧ wr.ownsRow (w.heap.size + 1) 90 4 v d.length (cO d) ∧ Ext w wr
theorem din_step {w W W2 : World} {d : Ops} {o : GOp} {j n c4 : Nat} {v : Value} {a4 : Option Addr} (hj : j ≤ 3 * d.length) (hd : d.length < 4) (hop : ∀ o ∈ d, OpG o) (oG : OpG o) (E : Ext w W) (hown : W.ownsRow (w.heap.size + 1) 90 4 v n (cO d))
    {ob : Obj} (hg : (W.alloc ob).grownBy W2 v.ownBlock) (ho' : W2.ownsRow (w.heap.size + 1) 90 4 (.slice a4 (d.length + 1) c4) (d.length + 1) (cO d ++ cO [o]))
    (hb4 : W2.heap[w.heap.size]? = some (.cells #[v] 43 (0, 0))) : DIn w (j + 3) (W2.setCell ⟨w.heap.size, 0, none⟩ (.slice a4 (d.length + 1) c4)) := by
  have E4 : Ext w W2 := (E.alloc ob).grown hg (fun k hk => by have := own_ge hown k hk; omega)
  refine ⟨_, d ++ [o], by simp; omega, by simp; omega, fun q hq => ?_, one_setCell hb4, ?_, E4.setCell (Nat.le_refl _) _⟩
  · rcases List.mem_append.1 hq with hq | hq
    · exact hop q hq
    · simp at hq; subst hq; exact oG
  · have := own_set_far ho' (p := ⟨w.heap.size, 0, none⟩) (u := .slice a4 (d.length + 1) c4) (by simp)
    rw [List.length_append, cO_app]
    exact this
end Go.Proofs.YtimchedebcoohaaGreatDoor

/- Contracts and lemmas for the proofs of this seat; each theorem states its own conditions. -/
namespace Go.Proofs.YtimchedebcoohaaGreatDoor
open Go.RowKit
/-- what the row tells of a slice of slices of numbers, as mine -/
theorem segll_of_rows {w : World} {base : Nat} {x : Addr} {len cap : Nat} {A : Nat → Option Addr} {L C : Nat → Nat} {Z : Nat → List Int} (hl : len ≤ cap) (hm : cap ≤ maxLen)
    (h : ∀ r, r < cap → w.cell? (x.add r) = some (.slice (A r) (L r) (C r)) ∧ L r ≤ C r ∧ C r ≤ maxLen ∧ (Z r).length = C r ∧ (∀ n ∈ Z r, (Lit.int .i64 n).wf = true) ∧ (A r = none → C r = 0) ∧
        ∀ a', A r = some a' → base ≤ a'.block ∧ ∀ c, c < C r → w.cell? (a'.add c) = some (.int .i64 ((Z r).getD c 0))) :
    ∃ ls : List (List Int), SegLL w (.slice (some x) len cap) ls ∧ ls.length = len ∧ ∀ l ∈ ls, ∀ z ∈ l, -9223372036854775808 ≤ z ∧ z ≤ 9223372036854775807 := by
  have row : ∀ r, r < cap → Seg w (.slice (A r) (L r) (C r)) 1 ((Z r).take (L r)).length (cI ((Z r).take (L r))) ∧ ∀ z ∈ (Z r).take (L r), -9223372036854775808 ≤ z ∧ z ≤ 9223372036854775807 := fun r hr => by
    obtain ⟨h1, h2, h3, h4, h5, h6, h7⟩ := h r hr
    have hrow := seg_of_row (w := w) (a := A r) (len := L r) (cap := C r) (zs := Z r) (by
      cases ha : A r with
      | none =>
        have := h6 ha
        left
        exact ⟨rfl, by omega, this, List.eq_nil_of_length_eq_zero (by omega)⟩
      | some a' =>
        right
        exact ⟨a', rfl, h2, h3, h4, fun i hi => (h7 a' ha).2 i (by omega), h5⟩)
    exact ⟨hrow.1, hrow.2.1⟩
  refine ⟨(List.range len).map fun r => (Z r).take (L r), ⟨(List.range len).map fun r => .slice (A r) (L r) (C r), by simp, ⟨by simp, some x, cap, by simp, by simpa using hl, hm, fun hn => ?_⟩, fun i u m hu hm' => ?_⟩, by simp, fun l hl' z hz => ?_⟩
  · simp at hn
    have hs := cell_spot (h 0 (by omega)).1
    obtain ⟨b, off, sp⟩ := x
    have : sp = none := by simpa [Addr.add] using hs
    subst this
    refine ⟨b, off, rfl, fun j u hu => ?_⟩
    rw [← addr_add]
    obtain ⟨hj, e⟩ := List.getElem?_eq_some_iff.1 hu
    simp at hj e
    subst e
    exact (h j (by omega)).1
  · obtain ⟨hj, e⟩ := List.getElem?_eq_some_iff.1 hu
    obtain ⟨_, e'⟩ := List.getElem?_eq_some_iff.1 hm'
    simp at hj e e'
    subst e; subst e'
    exact (row i (by omega)).1
  · simp at hl'
    obtain ⟨r, hr, rfl⟩ := hl'
    exact (row r (by omega)).2 z hz
theorem segll_nil (w : World) : SegLL w (.slice none 0 0) [] := ⟨[], rfl, Seg.nil _ _, fun i u m h => by simp at h⟩
theorem seg_rows {w : World} {a : Option Addr} {len cap : Nat} {zs : List Int} (h : (a = none ∧ len = 0 ∧ cap = 0 ∧ zs = []) ∨
    ∃ x, a = some x ∧ len ≤ cap ∧ cap ≤ maxLen ∧ zs.length = cap ∧ (∀ i, i < zs.length → w.cell? (x.add i) = some (.int .i64 (zs.getD i 0))) ∧ ∀ n ∈ zs, (Lit.int .i64 n).wf = true) :
    ∃ l : List Int, Seg w (.slice a len cap) 1 l.length (cI l) ∧ ∀ z ∈ l, -9223372036854775808 ≤ z ∧ z ≤ 9223372036854775807 := ⟨_, (seg_of_row h).1, (seg_of_row h).2.1⟩
end Go.Proofs.YtimchedebcoohaaGreatDoor

/- Contracts and lemmas for the proofs of this seat; each theorem states its own conditions. -/
namespace Go.Proofs.YtimchedebcoohaaGreatDoor
open Go.RowKit Go.Deep Go.WideShapes Go.ChangeShapes
/-! what a row tells of numbers, of rows of numbers, of names and of a map -/
def StrW (l : List ByteArray) : Prop := ∀ s ∈ l, s.size ≤ maxLen
def IntW (l : List Int) : Prop := ∀ z ∈ l, -9223372036854775808 ≤ z ∧ z ≤ 9223372036854775807
theorem segI_of_trod {H : Type} {enc : TypeId × Value → H} {W : World} {base : Nat} {held : Bool} {fuel : Nat} {v : Value} {x : DataW H × List MemPlace}
    (h : DataW.trod enc Tryz.prog W base (fun _ => true) held fuel 23 [v] = some x) :
    ∃ a len cap, ∃ l : List Int, v = .slice a len cap ∧ Seg W (.slice a len cap) 1 l.length (cI l) ∧ IntW l ∧ l.length + 1 ≤ Rows.uptoBulk x.1 := by
  rcases open_ints Tryz.underlying23 Tryz.underlying3 (by kernel_rfl) h with ⟨hcs, rfl⟩ | ⟨ad, len, cap, zs, hcs, _, hl, hm, hz, rfl, hcell, hwz⟩
  · injection hcs with hcs _
    exact ⟨none, 0, 0, [], hcs, Seg.nil _ _, by simp [IntW], by simp [Rows.uptoBulk]⟩
  · injection hcs with hcs _
    simp only [if_true] at hz
    obtain ⟨s1, s2, s3⟩ := seg_of_row (w := W) (a := some ad) (len := len) (cap := cap) (zs := zs) (.inr ⟨ad, rfl, hl, hm, hz, hcell, hwz⟩)
    refine ⟨some ad, len, cap, zs.take len, hcs, s1, s2, ?_⟩
    have hb := bulk_map (c := 1) (H := H) (f := fun n : Int => DataW.lit (.int .i64 n)) (l := zs.take len) (fun i _ => bulk_one _)
    simp only [Rows.uptoBulk, lits]
    omega
theorem segI_of_trod' {H : Type} {enc : TypeId × Value → H} {W : World} {base : Nat} {held : Bool} {fuel : Nat} {a : Option Addr} {len cap : Nat} {x : DataW H × List MemPlace}
    (h : DataW.trod enc Tryz.prog W base (fun _ => true) held fuel 23 [.slice a len cap] = some x) :
    ∃ l : List Int, Seg W (.slice a len cap) 1 l.length (cI l) ∧ IntW l ∧ l.length + 1 ≤ Rows.uptoBulk x.1 := by
  obtain ⟨a', len', cap', l, e, h1, h2, h3⟩ := segI_of_trod h
  exact ⟨l, by rw [e]; exact h1, h2, h3⟩
theorem segS_of_trod {H : Type} {enc : TypeId × Value → H} {W : World} {base : Nat} {held : Bool} {fuel : Nat} {v : Value} {x : DataW H × List MemPlace}
    (h : DataW.trod enc Tryz.prog W base (fun _ => true) held fuel 22 [v] = some x) :
    ∃ a len cap, ∃ l : List ByteArray, v = .slice a len cap ∧ Seg W (.slice a len cap) 1 l.length (cS l) ∧ StrW l ∧ l.length + 1 ≤ Rows.uptoBulk x.1 := by
  rcases open_strs Tryz.underlying22 Tryz.underlying9 (by kernel_rfl) h with ⟨hcs, rfl⟩ | ⟨ad, len, cap, m, Sx, hcs, _, hl, hm, hmm, rfl, hx⟩
  · injection hcs with hcs _
    exact ⟨none, 0, 0, [], hcs, Seg.nil _ _, by simp [StrW], by simp [Rows.uptoBulk]⟩
  · injection hcs with hcs _
    simp only [if_true] at hmm
    refine ⟨some ad, len, cap, (List.range len).map Sx, hcs, ⟨by simp [cS], some ad, cap, by simp, by simpa using hl, hm, fun hn => ?_⟩, ?_, ?_⟩
    · simp at hn
      have hs := cell_spot (hx 0 (by omega)).1
      obtain ⟨b, off, sp⟩ := ad
      have : sp = none := by simpa [Addr.add] using hs
      subst this
      refine ⟨b, off, rfl, fun j u hu => ?_⟩
      rw [← addr_add]
      obtain ⟨hj, e⟩ := List.getElem?_eq_some_iff.1 hu
      simp [cS] at hj e
      subst e
      exact (hx j (by omega)).1
    · intro s hs
      simp at hs
      obtain ⟨i, hi, rfl⟩ := hs
      exact (hx i (by omega)).2
    · have hb := bulk_map (c := 1) (H := H) (f := fun i => DataW.lit (.string (Sx i).data.toList)) (l := List.range len) (fun i _ => bulk_one _)
      simp only [List.length_range] at hb
      simp only [List.length_map, List.length_range, Rows.uptoBulk]
      omega
set_option maxRecDepth 10000 in
theorem map_of_trod {H : Type} {enc : TypeId × Value → H} {W : World} {base : Nat} {held : Bool} {fuel : Nat} {cs : List Value} {x : DataW H × List MemPlace}
    (h : DataW.trod enc Tryz.prog W base (fun _ => true) held fuel 25 cs = some x) :
    ∃ v1 v2, ∃ C : List ByteArray, ∃ O : List Int, cs = [v1, v2] ∧ IsMap W (.agg #[v1, v2]) C O ∧ StrW C ∧ IntW O ∧ C.length + O.length + 3 ≤ Rows.uptoBulk x.1 := by
  have kd : Tryz.prog.cellsOf 25 = 2 := by kernel_rfl
  have k1 : Tryz.prog.cellsOf 22 = 1 := by kernel_rfl
  have k2 : Tryz.prog.cellsOf 23 = 1 := by kernel_rfl
  obtain ⟨y0, y1, n, rfl, hl, h0, h1⟩ := trod_struct2 Tryz.underlying25 h
  rw [kd] at hl
  match cs, hl with
  | [c1, c2], _ =>
    simp [k1, k2] at h0 h1
    obtain ⟨a, len, cap, C, e1, q1, q2, q3⟩ := segS_of_trod h0
    obtain ⟨a', len', cap', O, e2, r1, r2, r3⟩ := segI_of_trod h1
    refine ⟨c1, c2, C, O, rfl, ⟨c1, c2, rfl, by rw [e1]; exact q1, by rw [e2]; exact r1⟩, q2, r2, ?_⟩
    simp only [Rows.uptoBulk, Rows.uptoBulkAll]
    omega
set_option maxRecDepth 10000 in
theorem segLL_of_trod {H : Type} {enc : TypeId × Value → H} {W : World} {base : Nat} {held : Bool} {fuel : Nat} {a : Option Addr} {len cap : Nat} {x : DataW H × List MemPlace}
    (h : DataW.trod enc Tryz.prog W base (fun _ => true) held fuel 27 [.slice a len cap] = some x) :
    ∃ ls : List (List Int), SegLL W (.slice a len cap) ls ∧ (∀ l ∈ ls, IntW l) ∧ ls.length + 1 ≤ Rows.uptoBulk x.1 := by
  rcases open_int_rows Tryz.underlying27 Tryz.underlying23 Tryz.underlying3 (by kernel_rfl) (by kernel_rfl) h with ⟨hcs, rfl⟩ | ⟨ad, len', cap', A, L, C, Z, hcs, _, hl, hm, rfl, hx⟩
  · injection hcs with hcs _
    injection hcs with e1 e2 e3
    subst e1; subst e2; subst e3
    exact ⟨[], segll_nil _, by simp, by simp [Rows.uptoBulk]⟩
  · injection hcs with hcs _
    injection hcs with e1 e2 e3
    subst e1; subst e2; subst e3
    obtain ⟨ls, g1, g2, g3⟩ := segll_of_rows hl hm hx
    refine ⟨ls, g1, g3, ?_⟩
    have hb := bulk_map (c := 1) (H := H) (f := fun r => intRow .i64 (A r) (L r) (Z r)) (l := List.range len) (fun i _ => bulk_one _)
    simp only [List.length_range] at hb
    simp only [Rows.uptoBulk]
    omega
end Go.Proofs.YtimchedebcoohaaGreatDoor
