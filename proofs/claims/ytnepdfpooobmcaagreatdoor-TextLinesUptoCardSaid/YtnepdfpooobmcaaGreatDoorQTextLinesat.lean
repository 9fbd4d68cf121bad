/- Contracts and lemmas for the proof of TextLines; each theorem states its own conditions. -/
import Derived.Test.YtnepdfpooobmcaaGreatDoorQTextLinesab
import Derived.OpenShut
import Derived.Test.YtnepdfpooobmcaaGreatDoorQTextLinesal
import Derived.Test.YtnepdfpooobmcaaGreatDoorQTextLinesas
import Derived.Test.YtnepdfpooobmcaaGreatDoorQTextLinesag
import Derived.OneCell
import Derived.Test.YtnepdfpooobmcaaGreatDoorQTextLinesai
set_option linter.unusedVariables false
set_option linter.unusedSimpArgs false
/- Contracts and lemmas for the proofs of this seat; each theorem states its own conditions. -/
namespace Go.Proofs.YtnepdfpooobmcaaGreatDoor
open Go.RowKit
theorem cell_spot {w : World} {x : Addr} {v : Value} (h : w.cell? x = some v) : x.spot = none := by
  unfold World.cell? at h
  split at h
  · rename_i hx
    cases hs : x.spot with
    | none => rfl
    | some s => simp [hs] at h
  · cases h
/-- what the shell tells of a slice of numbers, as a slice of mine -/
theorem seg_of_row {w : World} {a : Option Addr} {len cap : Nat} {zs : List Int} (h : (a = none ∧ len = 0 ∧ cap = 0 ∧ zs = []) ∨
    ∃ x, a = some x ∧ len ≤ cap ∧ cap ≤ maxLen ∧ zs.length = cap ∧ (∀ i, i < zs.length → w.cell? (x.add i) = some (.int .i64 (zs.getD i 0))) ∧ ∀ n ∈ zs, (Lit.int .i64 n).wf = true) :
    Seg w (.slice a len cap) 1 (zs.take len).length (cI (zs.take len)) ∧ (∀ z ∈ zs.take len, -9223372036854775808 ≤ z ∧ z ≤ 9223372036854775807) ∧ (zs.take len).length = len := by
  rcases h with ⟨rfl, rfl, rfl, rfl⟩ | ⟨x, rfl, h1, h2, h3, h4, h5⟩
  · exact ⟨Seg.nil _ _, by simp, rfl⟩
  · have hl : (zs.take len).length = len := by rw [List.length_take]; omega
    refine ⟨⟨by rw [cI_len]; omega, some x, cap, by rw [hl], by omega, h2, fun hn => ?_⟩, fun z hz => ?_, hl⟩
    · have hs := cell_spot (h4 0 (by omega))
      obtain ⟨b, off, sp⟩ := x
      have : sp = none := by simpa [Addr.add] using hs
      subst this
      refine ⟨b, off, rfl, fun j u hu => ?_⟩
      rw [← addr_add]
      have hj : j < (zs.take len).length := by have := (List.getElem?_eq_some_iff.1 hu).1; rw [cI_len] at this; exact this
      rw [cI_at0 _ _ hj] at hu
      injection hu with hu; subst hu
      have hj' : j < zs.length := by omega
      rw [h4 j hj']
      simp [hj']
    · have := bounds_i64 (h5 z (List.mem_of_mem_take hz))
      exact this
end Go.Proofs.YtnepdfpooobmcaaGreatDoor

/- Contracts and lemmas for the proofs of this seat; each theorem states its own conditions. -/
namespace Go.Proofs.YtnepdfpooobmcaaGreatDoor
open Go.RowKit
end Go.Proofs.YtnepdfpooobmcaaGreatDoor

/- Contracts and lemmas for the proofs of this seat; each theorem states its own conditions. -/
namespace Go.Proofs.YtnepdfpooobmcaaGreatDoor
open Go.RowKit
/-! rokeep.Deeds -/
/-- lists of numbers, in a row -/
def SegLL (w : World) (v : Value) (ls : List (List Int)) : Prop :=
  ∃ vs : List Value, vs.length = ls.length ∧ Seg w v 1 vs.length vs ∧ ∀ (i : Nat) (u : Value) (m : List Int), vs[i]? = some u → ls[i]? = some m → Seg w u 1 m.length (cI m)
theorem SegLL.ext {w w' : World} {v : Value} {ls : List (List Int)} (h : SegLL w v ls) (k : Ext w w') : SegLL w' v ls := by
  obtain ⟨vs, h1, h2, h3⟩ := h
  exact ⟨vs, h1, h2.ext k, fun i u m a b => (h3 i u m a b).ext k⟩
/-- an operation that Deeds makes -/
structure OpG (o : GOp) : Prop where
  lo : 1 ≤ o.kind
  hi : o.kind ≤ 5
  key : o.key ∈ keysL
  two : o.kind = 3 ∨ o.kind = 5 → keyB o.from_ = true ∧ o.from_ ≠ o.key
  one : o.kind ≠ 3 → o.kind ≠ 5 → o.from_ = ⟨#[]⟩
  n0 : 0 ≤ o.n
  n8 : o.n ≤ 8
theorem keysL_key : ∀ k ∈ keysL, keyB k = true := by decide +kernel
theorem OpG.ok {o : GOp} (h : OpG o) : OpOk o := ⟨h.lo, h.hi, keysL_key _ h.key, h.two, fun _ => by have := h.n0; have := h.n8; omega, fun _ => h.n0⟩
theorem OpG.sm {o : GOp} (h : OpG o) : o.from_.size ≤ 6 := by
  by_cases k : o.kind = 3 ∨ o.kind = 5
  · have := (h.two k).1; simp [keyB] at this; omega
  · rw [h.one (fun e => k (.inl e)) (fun e => k (.inr e))]; decide
structure DeedG (d : Ops) : Prop where
  lo : 1 ≤ d.length
  hi : d.length ≤ 4
  ops : ∀ o ∈ d, OpG o
theorem DeedG.ok {d : Ops} (h : DeedG d) : DeedOk d := ⟨h.lo, by have := h.hi; omega, fun o ho => (h.ops o ho).ok⟩
theorem DeedG.sm {d : Ops} (h : DeedG d) : ∀ o ∈ d, o.from_.size ≤ 9223372036854775807 := fun o ho => by have := (h.ops o ho).sm; omega
/-- deeds of one's own: their rows, each apart -/
structure OwnDs (w : World) (B : Nat) (vs : List Value) (D : List Ops) : Prop where
  len : vs.length = D.length
  own : ∀ (i : Nat) (u : Value) (d : Ops), vs[i]? = some u → D[i]? = some d → w.ownsRow B 93 4 u d.length (cO d)
  ne : ∀ (i j : Nat) (u v : Value) (k : Nat), i ≠ j → vs[i]? = some u → vs[j]? = some v → u.ownBlock = some k → v.ownBlock ≠ some k
theorem OwnDs.nil (w : World) (B : Nat) : OwnDs w B [] [] := ⟨rfl, fun i u d h => by simp at h, fun i j u v k _ h => by simp at h⟩
theorem OwnDs.ext {w w' : World} {B : Nat} {vs : List Value} {D : List Ops} (h : OwnDs w B vs D) (k : Ext w w') : OwnDs w' B vs D := ⟨h.len, fun i u d a b => own_ext (h.own i u d a b) k, h.ne⟩
theorem OwnDs.grown {w w' : World} {B B' e n : Nat} {sz : Nat} {v : Value} {xs : List Value} {vs : List Value} {D : List Ops} (h : OwnDs w B vs D) (ho : w.ownsRow B' e sz v n xs) (hg : w.grownBy w' v.ownBlock) (he : 93 ≠ e) : OwnDs w' B vs D :=
  ⟨h.len, fun i u d a b => grown_own hg (h.own i u d a b) (own_own_ne (h.own i u d a b) ho he), h.ne⟩
theorem OwnDs.snoc {w : World} {B B2 : Nat} {vs : List Value} {D : List Ops} (h : OwnDs w B vs D) (hlt : ∀ u ∈ vs, ∀ k, u.ownBlock = some k → k < B2) (hB : B ≤ B2) {v : Value} {d : Ops} (ho : w.ownsRow B2 93 4 v d.length (cO d)) : OwnDs w B (vs ++ [v]) (D ++ [d]) := by
  have hl := h.len
  refine ⟨by simp [hl], fun i u d' a b => ?_, fun i j u u' k hij a b hk hk' => ?_⟩
  · rcases Nat.lt_or_ge i vs.length with hi | hi
    · rw [List.getElem?_append_left hi] at a
      rw [List.getElem?_append_left (by omega)] at b
      exact h.own i u d' a b
    · rw [List.getElem?_append_right hi] at a
      rw [List.getElem?_append_right (by omega)] at b
      have : i - vs.length = 0 := by
        have := (List.getElem?_eq_some_iff.1 a).1; simp at this; omega
      rw [this] at a; rw [← hl, this] at b
      simp at a b; subst a; subst b
      exact own_base ho hB
  · rcases Nat.lt_or_ge i vs.length with hi | hi
    · rw [List.getElem?_append_left hi] at a
      rcases Nat.lt_or_ge j vs.length with hj | hj
      · rw [List.getElem?_append_left hj] at b
        exact h.ne i j u u' k hij a b hk hk'
      · rw [List.getElem?_append_right hj] at b
        have : j - vs.length = 0 := by
          have := (List.getElem?_eq_some_iff.1 b).1; simp at this; omega
        rw [this] at b; simp at b; subst b
        have h1 := hlt u (List.mem_of_getElem? a) k hk
        have h2 := own_ge ho k hk'
        omega
    · rw [List.getElem?_append_right hi] at a
      have hi0 : i - vs.length = 0 := by
        have := (List.getElem?_eq_some_iff.1 a).1; simp at this; omega
      rw [hi0] at a; simp at a; subst a
      rcases Nat.lt_or_ge j vs.length with hj | hj
      · rw [List.getElem?_append_left hj] at b
        have h1 := hlt u' (List.mem_of_getElem? b) k hk'
        have h2 := own_ge ho k hk
        omega
      · rw [List.getElem?_append_right hj] at b
        have : j - vs.length = 0 := by
          have := (List.getElem?_eq_some_iff.1 b).1; simp at this; omega
        omega
theorem OwnDs.lt {w : World} {B : Nat} {vs : List Value} {D : List Ops} (h : OwnDs w B vs D) : ∀ u ∈ vs, ∀ k, u.ownBlock = some k → k < w.heap.size := fun u hu k hk => by
  obtain ⟨i, hi, rfl⟩ := List.mem_iff_getElem.1 hu
  have hl := h.len
  exact ((h.own i _ (D[i]'(by omega)) (List.getElem?_eq_getElem hi) (List.getElem?_eq_getElem _)).lt k hk).2
theorem frz4 {w : World} {b : Nat} {x y z u : Value} {t : TypeId} (h : w.heap[b]? = some (.cells #[x, y, z, u] t (0, 0))) : w.frozen? ⟨b, 0, none⟩ = false ∧ w.frozen? ⟨b, 1, none⟩ = false ∧ w.frozen? ⟨b, 2, none⟩ = false ∧ w.frozen? ⟨b, 3, none⟩ = false := by
  simp [World.frozen?, h]
end Go.Proofs.YtnepdfpooobmcaaGreatDoor

/- Contracts and lemmas for the proofs of this seat; each theorem states its own conditions. -/
namespace Go.Proofs.YtnepdfpooobmcaaGreatDoor
open Go.RowKit
/-! text.readOp -/
theorem blk4_sA {w : World} {b : Nat} {x y z u : Value} {t : TypeId} (h : w.heap[b]? = some (.cells #[x, y, z, u] t (0, 0))) (x' y' z' u' : Value) :
    ((((w.setCell ⟨b, 0, none⟩ x').setCell ⟨b, 1, none⟩ y').setCell ⟨b, 2, none⟩ z').setCell ⟨b, 3, none⟩ u').heap[b]? = some (.cells #[x', y', z', u'] t (0, 0)) := by
  simp [World.setCell, Array.getElem?_modify, h]
theorem ext_s4 {w0 w : World} (E : Ext w0 w) {p : Nat} (hp : w0.heap.size ≤ p) (x y z u : Value) :
    Ext w0 ((((w.setCell ⟨p, 0, none⟩ x).setCell ⟨p, 1, none⟩ y).setCell ⟨p, 2, none⟩ z).setCell ⟨p, 3, none⟩ u) :=
  (((E.setCell hp _).setCell hp _).setCell hp _).setCell hp _
theorem ix_any (s : ByteArray) (w : World) (hs : s.size < 4294967281) : Calls Tryz.prog 154 #[.string s, .string ⟨#[61, 43, 60, 63]⟩] w fun e w' => e = .returned (.int .i64 (Lib.indexAny s.data.toList [61, 43, 60, 63])) ∧ Ext w w' := by
  by_cases h8 : s.size ≤ 8
  · exact ixShort s w h8
  · have h116 : (Tryz.prog.info? (lays153_ren.t 116)).map (fun i => (i.zero, i.size)) = some (some (.agg (Array.replicate 256 (.bool false))), 256) := by kernel_rfl
    refine (Any.strings_IndexAny_long lays153 (zero_of_info h116).1 (zero_of_info h116).2 s ⟨#[61, 43, 60, 63]⟩ w (by decide) (by omega) hs (by decide) (fun j b hb => ?_)).mono ?_
    · have hm : b ∈ ([61, 43, 60, 63] : List UInt8) := List.mem_of_getElem? hb
      simp only [List.mem_cons, List.not_mem_nil, or_false] at hm
      rcases hm with rfl | rfl | rfl | rfl <;> decide
    · rintro e w' ⟨rfl, rfl⟩
      exact ⟨rfl, ((Ext.refl w).alloc _).alloc _⟩
theorem cut_any2 (s : ByteArray) (c : UInt8) (w : World) (L : LaidT w) (hs : s.size < 4294967281) :
    Calls Tryz.prog 108 #[.string s, .string ⟨#[c]⟩] w fun e w' => e = .returned (.tuple #[.string (bA (Lib.cut s.data.toList [c]).1), .string (bA (Lib.cut s.data.toList [c]).2.1), .bool (Lib.cut s.data.toList [c]).2.2]) ∧ Ext w w' := by
  obtain ⟨m, hm⟩ := L.mx
  refine (Any.strings_Cut lays145 s ⟨#[c]⟩ m w hs hm).mono ?_
  rintro e w' ⟨rfl, n, rfl⟩
  exact ⟨rfl, (Ext.refl w).drewN n⟩
def opV (o : GOp) : Value := .agg #[.int .i64 o.kind, .string o.key, .string o.from_, .int .i64 o.n]
def opZ : Value := .agg #[.int .i64 0, .string ⟨#[]⟩, .string ⟨#[]⟩, .int .i64 0]
set_option maxRecDepth 10000 in
set_option maxHeartbeats 2000000 in
theorem treadop_neg (s : ByteArray) (w : World) (hs : s.size ≤ 4000000000) (h : Lib.indexAny s.data.toList [61, 43, 60, 63] < 0) :
    Calls Tryz.prog 99 #[.string s] w fun e w' => e = .returned (.tuple #[opZ, .bool false]) ∧ Ext w w' := by
  have E0 := (Ext.refl w).alloc (.cells #[.int .i64 0, .string ⟨#[]⟩, .string ⟨#[]⟩, .int .i64 0] 93)
  have b0 := heap_alloc_new w (.cells #[.int .i64 0, .string ⟨#[]⟩, .string ⟨#[]⟩, .int .i64 0] 93)
  have IX := hid (ix_any s (w.alloc (.cells #[.int .i64 0, .string ⟨#[]⟩, .string ⟨#[]⟩, .int .i64 0] 93)) (by omega))
  generalize Lib.indexAny s.data.toList [61, 43, 60, 63] = ix at IX h
  go_enter Tryz.func99, Tryz.ntmps99
  go_wp2_with fail
  refine (IX.out).mono ?_
  clear IX
  rintro e w1 ⟨rfl, E1⟩
  have b1 := E1.heap b0
  have b1' := blk4 b1
  have f1 := frz4 b1
  obtain ⟨f1, f2, f3, f4⟩ := f1
  have b2 := blk4_sA b1 (.int .i64 0) (.string ⟨#[]⟩) (.string ⟨#[]⟩) (.int .i64 0)
  have r4 := blk4 b2
  have HE := hid (E0.trans E1)
  clear b0 E0 E1
  go_wp2
  exact bodyPost_ret (v := .tuple #[opZ, .bool false]) (by simp [results, Tryz.results99, go_sem, r4.1, r4.2.1, r4.2.2.1, r4.2.2.2, opZ]) rfl ⟨rfl, ext_s4 HE.out (by omega) _ _ _ _⟩
end Go.Proofs.YtnepdfpooobmcaaGreatDoor
