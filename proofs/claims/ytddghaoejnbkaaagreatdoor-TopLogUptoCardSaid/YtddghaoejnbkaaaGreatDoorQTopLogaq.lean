/- Contracts and lemmas for the proof of TopLog; each theorem states its own conditions. -/
import Derived.Test.YtddghaoejnbkaaaGreatDoorQTopLogap
import Derived.Test.YtddghaoejnbkaaaGreatDoorQTopLogan
import Derived.Test.YtddghaoejnbkaaaGreatDoorQTopLogac
import Derived.OneCell
set_option linter.unusedVariables false
set_option linter.unusedSimpArgs false
/- Contracts and lemmas for the proofs of this seat; each theorem states its own conditions. -/
namespace Go.Proofs.YtddghaoejnbkaaaGreatDoor
open Go.RowKit
/-! rokeep.Deeds -/
/-- lists of numbers, in a row -/
def SegLL (w : World) (v : Value) (ls : List (List Int)) : Prop :=
  ∃ vs : List Value, vs.length = ls.length ∧ Seg w v 1 vs.length vs ∧ ∀ (i : Nat) (u : Value) (m : List Int), vs[i]? = some u → ls[i]? = some m → Seg w u 1 m.length (cI m)
theorem SegLL.ext {w w' : World} {v : Value} {ls : List (List Int)} (h : SegLL w v ls) (k : Ext w w') : SegLL w' v ls := by
  obtain ⟨vs, h1, h2, h3⟩ := h
  exact ⟨vs, h1, h2.ext k, fun i u m a b => (h3 i u m a b).ext k⟩
/-- an operation that Deeds makes -/
structure OpG (o : GOp) : Prop where
  lo : 1 ≤ o.kind
  hi : o.kind ≤ 5
  key : o.key ∈ keysL
  two : o.kind = 3 ∨ o.kind = 5 → keyB o.from_ = true ∧ o.from_ ≠ o.key
  one : o.kind ≠ 3 → o.kind ≠ 5 → o.from_ = ⟨#[]⟩
  n0 : 0 ≤ o.n
  n8 : o.n ≤ 8
theorem keysL_key : ∀ k ∈ keysL, keyB k = true := by decide +kernel
theorem OpG.ok {o : GOp} (h : OpG o) : OpOk o := ⟨h.lo, h.hi, keysL_key _ h.key, h.two, fun _ => by have := h.n0; have := h.n8; omega, fun _ => h.n0⟩
theorem OpG.sm {o : GOp} (h : OpG o) : o.from_.size ≤ 6 := by
  by_cases k : o.kind = 3 ∨ o.kind = 5
  · have := (h.two k).1; simp [keyB] at this; omega
  · rw [h.one (fun e => k (.inl e)) (fun e => k (.inr e))]; decide
structure DeedG (d : Ops) : Prop where
  lo : 1 ≤ d.length
  hi : d.length ≤ 4
  ops : ∀ o ∈ d, OpG o
theorem DeedG.ok {d : Ops} (h : DeedG d) : DeedOk d := ⟨h.lo, by have := h.hi; omega, fun o ho => (h.ops o ho).ok⟩
theorem DeedG.sm {d : Ops} (h : DeedG d) : ∀ o ∈ d, o.from_.size ≤ 9223372036854775807 := fun o ho => by have := (h.ops o ho).sm; omega
/-- deeds of one's own: their rows, each apart -/
structure OwnDs (w : World) (B : Nat) (vs : List Value) (D : List Ops) : Prop where
  len : vs.length = D.length
  own : ∀ (i : Nat) (u : Value) (d : Ops), vs[i]? = some u → D[i]? = some d → w.ownsRow B 125 4 u d.length (cO d)
  ne : ∀ (i j : Nat) (u v : Value) (k : Nat), i ≠ j → vs[i]? = some u → vs[j]? = some v → u.ownBlock = some k → v.ownBlock ≠ some k
theorem OwnDs.nil (w : World) (B : Nat) : OwnDs w B [] [] := ⟨rfl, fun i u d h => by simp at h, fun i j u v k _ h => by simp at h⟩
theorem OwnDs.ext {w w' : World} {B : Nat} {vs : List Value} {D : List Ops} (h : OwnDs w B vs D) (k : Ext w w') : OwnDs w' B vs D := ⟨h.len, fun i u d a b => own_ext (h.own i u d a b) k, h.ne⟩
theorem OwnDs.grown {w w' : World} {B B' e n : Nat} {sz : Nat} {v : Value} {xs : List Value} {vs : List Value} {D : List Ops} (h : OwnDs w B vs D) (ho : w.ownsRow B' e sz v n xs) (hg : w.grownBy w' v.ownBlock) (he : 125 ≠ e) : OwnDs w' B vs D :=
  ⟨h.len, fun i u d a b => grown_own hg (h.own i u d a b) (own_own_ne (h.own i u d a b) ho he), h.ne⟩
theorem OwnDs.snoc {w : World} {B B2 : Nat} {vs : List Value} {D : List Ops} (h : OwnDs w B vs D) (hlt : ∀ u ∈ vs, ∀ k, u.ownBlock = some k → k < B2) (hB : B ≤ B2) {v : Value} {d : Ops} (ho : w.ownsRow B2 125 4 v d.length (cO d)) : OwnDs w B (vs ++ [v]) (D ++ [d]) := by
  have hl := h.len
  refine ⟨by simp [hl], fun i u d' a b => ?_, fun i j u u' k hij a b hk hk' => ?_⟩
  · rcases Nat.lt_or_ge i vs.length with hi | hi
    · rw [List.getElem?_append_left hi] at a
      rw [List.getElem?_append_left (by omega)] at b
      exact h.own i u d' a b
    · rw [List.getElem?_append_right hi] at a
      rw [List.getElem?_append_right (by omega)] at b
      have : i - vs.length = 0 := by
        have := (List.getElem?_eq_some_iff.1 a).1; simp at this; omega
      rw [this] at a; rw [← hl, this] at b
      simp at a b; subst a; subst b
      exact own_base ho hB
  · rcases Nat.lt_or_ge i vs.length with hi | hi
    · rw [List.getElem?_append_left hi] at a
      rcases Nat.lt_or_ge j vs.length with hj | hj
      · rw [List.getElem?_append_left hj] at b
        exact h.ne i j u u' k hij a b hk hk'
      · rw [List.getElem?_append_right hj] at b
        have : j - vs.length = 0 := by
          have := (List.getElem?_eq_some_iff.1 b).1; simp at this; omega
        rw [this] at b; simp at b; subst b
        have h1 := hlt u (List.mem_of_getElem? a) k hk
        have h2 := own_ge ho k hk'
        omega
    · rw [List.getElem?_append_right hi] at a
      have hi0 : i - vs.length = 0 := by
        have := (List.getElem?_eq_some_iff.1 a).1; simp at this; omega
      rw [hi0] at a; simp at a; subst a
      rcases Nat.lt_or_ge j vs.length with hj | hj
      · rw [List.getElem?_append_left hj] at b
        have h1 := hlt u' (List.mem_of_getElem? b) k hk'
        have h2 := own_ge ho k hk
        omega
      · rw [List.getElem?_append_right hj] at b
        have : j - vs.length = 0 := by
          have := (List.getElem?_eq_some_iff.1 b).1; simp at this; omega
        omega
theorem OwnDs.lt {w : World} {B : Nat} {vs : List Value} {D : List Ops} (h : OwnDs w B vs D) : ∀ u ∈ vs, ∀ k, u.ownBlock = some k → k < w.heap.size := fun u hu k hk => by
  obtain ⟨i, hi, rfl⟩ := List.mem_iff_getElem.1 hu
  have hl := h.len
  exact ((h.own i _ (D[i]'(by omega)) (List.getElem?_eq_getElem hi) (List.getElem?_eq_getElem _)).lt k hk).2
theorem infoDd : (Tryz.prog.info? 40).map (fun i => (i.zero, i.size, i.bytes)) = some (some (.agg #[.slice none 0 0]), 1, 24) := by kernel_rfl
theorem infoOp : (Tryz.prog.info? 125).map (fun i => (i.zero, i.size, i.bytes)) = some (some (.agg #[.int .i64 0, .string ⟨#[]⟩, .string ⟨#[]⟩, .int .i64 0]), 4, 48) := by kernel_rfl
theorem keyOf_mem (k : Int) : keyOf k ∈ keysL := by
  have h0 := wi_lo (k := k) (n := 8) (by omega)
  have h1 := wi_hi (k := k) (n := 8) (by omega)
  have h2 : (wi k 8).toNat < keysL.length := by simp [keysL]; omega
  unfold keyOf
  rw [kAt_eq h2]; exact List.getElem_mem _
theorem q_not : (∀ k ∈ keysL, k ≠ ⟨#[113]⟩) ∧ keyB ⟨#[113]⟩ = true := by decide +kernel
theorem blk4_set {w : World} {b : Nat} {x y z u : Value} {t : TypeId} (h : w.heap[b]? = some (.cells #[x, y, z, u] t (0, 0))) (x' y' z' u' : Value) :
    ((((w.setCell ⟨b, 0, none⟩ x').setCell ⟨b, 1, none⟩ y').setCell ⟨b, 2, none⟩ z').setCell ⟨b, 3, none⟩ u').heap[b]? = some (.cells #[x', y', z', u'] t (0, 0)) := by
  simp [World.setCell, Array.getElem?_modify, h]
theorem blk4_set2 {w : World} {b : Nat} {x y z u : Value} {t : TypeId} (h : w.heap[b]? = some (.cells #[x, y, z, u] t (0, 0))) (z' : Value) :
    (w.setCell ⟨b, 2, none⟩ z').heap[b]? = some (.cells #[x, y, z', u] t (0, 0)) := by
  simp [World.setCell, Array.getElem?_modify, h]
theorem frz4 {w : World} {b : Nat} {x y z u : Value} {t : TypeId} (h : w.heap[b]? = some (.cells #[x, y, z, u] t (0, 0))) : w.frozen? ⟨b, 0, none⟩ = false ∧ w.frozen? ⟨b, 1, none⟩ = false ∧ w.frozen? ⟨b, 2, none⟩ = false ∧ w.frozen? ⟨b, 3, none⟩ = false := by
  simp [World.frozen?, h]
theorem cO_app (a b : Ops) : cO (a ++ b) = cO a ++ cO b := by simp [cO]
theorem one_deed (v : Option Addr) (n c : Nat) : ∀ u ∈ [Value.slice v n c], u.oneCell' = true := by
  intro u hu; simp at hu; subst hu; rfl
/-- what an append of a deed in a box to the deeds asks -/
theorem dd_prep {B sz n m : Nat} {W : World} {ad ao : Option Addr} {cd co : Nat} {vs : List Value} (hout : W.ownsRow B 40 1 (.slice ao m co) m vs) (hB : B ≤ W.heap.size) (hs : W.heap.size = sz) :
    Seg (W.alloc (.cells #[.slice ad n cd] 40)) (.slice (some ⟨sz, 0, none⟩) 1 1) 1 1 [.slice ad n cd] ∧ (W.alloc (.cells #[.slice ad n cd] 40)).ownsRow B 40 1 (.slice ao m co) m vs ∧ B ≤ (W.alloc (.cells #[.slice ad n cd] 40)).heap.size := by
  subst hs
  exact ⟨seg_one (heap_alloc_new W _), hout.alloc _, by simp; omega⟩
/-- the deeds, one more -/
theorem dd_step {w wo W W9 : World} {ad ao a9 : Option Addr} {cd co c9 k : Nat} {vs : List Value} {D : List Ops} {d : Ops} (hout : wo.ownsRow w.heap.size 40 1 (.slice ao vs.length co) vs.length vs) (hds : OwnDs wo w.heap.size vs D) (hdg : ∀ d ∈ D, DeedG d) (hdl : D.length ≤ k)
    (E : Ext w wo) (E2 : Ext wo W) (hod : W.ownsRow (wo.heap.size + 1) 125 4 (.slice ad d.length cd) d.length (cO d)) (h0 : 0 < d.length) (h4 : d.length ≤ 4) (hop : ∀ o ∈ d, OpG o)
    (hg : (W.alloc (.cells #[.slice ad d.length cd] 40)).grownBy W9 (Value.slice ao vs.length co).ownBlock) (ho' : W9.ownsRow w.heap.size 40 1 (.slice a9 (vs.length + 1) c9) (vs.length + 1) (vs ++ [.slice ad d.length cd])) :
    (∃ vs' D', W9.ownsRow w.heap.size 40 1 (.slice a9 (vs.length + 1) c9) vs'.length vs' ∧ OwnDs W9 w.heap.size vs' D' ∧ (∀ d ∈ D', DeedG d) ∧ D'.length ≤ k + 1) ∧ Ext w W9 := by
  have E1 := (E2.alloc (.cells #[.slice ad d.length cd] 40))
  have hout1 := own_ext hout E1
  have hod1 := hod.alloc (.cells #[.slice ad d.length cd] 40)
  have hne : 125 ≠ 40 := by decide
  have hds9 := (hds.ext E1).grown hout1 hg hne
  have hod9 := grown_own hg hod1 (own_own_ne hod1 hout1 hne)
  have hlt := hds.lt
  have hs := hds9.snoc (B2 := wo.heap.size + 1) (fun u hu k hk => by have := hlt u hu k hk; omega) (by have := E.size'; omega) hod9
  have hl := hs.len
  refine ⟨⟨vs ++ [.slice ad d.length cd], D ++ [d], by simpa using ho', hs, fun q hq => ?_, by simp; omega⟩, ((E.trans E2).alloc _).grown hg (fun k hk => own_ge hout k hk)⟩
  rcases List.mem_append.1 hq with hq | hq
  · exact hdg q hq
  · simp at hq; subst hq; exact ⟨h0, h4, hop⟩
theorem one_op (o : GOp) : ∀ u ∈ cO [o], u.oneCell' = true := by
  intro u hu; simp [cO] at hu; rcases hu with rfl | rfl | rfl | rfl <;> rfl
/-- what an append of one operation to a deed in a box asks -/
theorem op_prep {W : World} {b8 sz n : Nat} {ad : Option Addr} {cd : Nat} {xs : List Value} (o : GOp) (hb : W.heap[b8]? = some (.cells #[.slice ad n cd] 40 (0, 0))) (hod : W.ownsRow (b8 + 1) 125 4 (.slice ad n cd) n xs) (hs : W.heap.size = sz) :
    Seg (W.alloc (.cells #[.int .i64 o.kind, .string o.key, .string o.from_, .int .i64 o.n] 125)) (.slice (some ⟨sz, 0, none⟩) 1 1) 4 1 (cO [o]) ∧
    (W.alloc (.cells #[.int .i64 o.kind, .string o.key, .string o.from_, .int .i64 o.n] 125)).ownsRow (b8 + 1) 125 4 (.slice ad n cd) n xs ∧
    b8 + 1 ≤ (W.alloc (.cells #[.int .i64 o.kind, .string o.key, .string o.from_, .int .i64 o.n] 125)).heap.size ∧
    (W.alloc (.cells #[.int .i64 o.kind, .string o.key, .string o.from_, .int .i64 o.n] 125)).heap[b8]? = some (.cells #[.slice ad n cd] 40 (0, 0)) ∧ (Value.slice ad n cd).ownBlock ≠ some b8 := by
  have hlt := lt_of_block hb
  subst hs
  have hn := heap_alloc_new W (.cells #[.int .i64 o.kind, .string o.key, .string o.from_, .int .i64 o.n] 125)
  refine ⟨seg_blk (xs := cO [o]) (t := 125) hn rfl (Nat.le_refl _) (by simp [maxLen]), hod.alloc _, by simp; omega, ((Ext.refl W).alloc _).heap hb, fun e => ?_⟩
  have := own_ge hod _ e
  omega
/-- where the loop over a list stands -/
def DIn (w : World) (i : Nat) (wr : World) : Prop :=
  ∃ (v : Value) (d : Ops), i ≤ 3 * d.length ∧ d.length ≤ 4 ∧ (∀ o ∈ d, OpG o) ∧ wr.heap[w.heap.size]? = some (.cells #[v] 40 (0, 0)) ∧ wr.ownsRow (w.heap.size + 1) 125 4 v d.length (cO d) ∧ Ext w wr
theorem din_step {w W W2 : World} {d : Ops} {o : GOp} {j n c4 : Nat} {v : Value} {a4 : Option Addr} (hj : j ≤ 3 * d.length) (hd : d.length < 4) (hop : ∀ o ∈ d, OpG o) (oG : OpG o) (E : Ext w W) (hown : W.ownsRow (w.heap.size + 1) 125 4 v n (cO d))
    {ob : Obj} (hg : (W.alloc ob).grownBy W2 v.ownBlock) (ho' : W2.ownsRow (w.heap.size + 1) 125 4 (.slice a4 (d.length + 1) c4) (d.length + 1) (cO d ++ cO [o]))
    (hb4 : W2.heap[w.heap.size]? = some (.cells #[v] 40 (0, 0))) : DIn w (j + 3) (W2.setCell ⟨w.heap.size, 0, none⟩ (.slice a4 (d.length + 1) c4)) := by
  have E4 : Ext w W2 := (E.alloc ob).grown hg (fun k hk => by have := own_ge hown k hk; omega)
  refine ⟨_, d ++ [o], by simp; omega, by simp; omega, fun q hq => ?_, one_setCell hb4, ?_, E4.setCell (Nat.le_refl _) _⟩
  · rcases List.mem_append.1 hq with hq | hq
    · exact hop q hq
    · simp at hq; subst hq; exact oG
  · have := own_set_far ho' (p := ⟨w.heap.size, 0, none⟩) (u := .slice a4 (d.length + 1) c4) (by simp)
    rw [List.length_append, cO_app]
    exact this
set_option maxRecDepth 100000 in
set_option maxHeartbeats 8000000 in
theorem deeds_any (v : Value) (ls : List (List Int)) (most : Nat) (w : World) (hv : SegLL w v ls) (hm : most ≤ 1000) :
    Calls Tryz.prog 71 #[v, .int .i64 most] w fun e w' => ∃ v' vs D, e = .returned v' ∧ w'.ownsRow w.heap.size 40 1 v' vs.length vs ∧ OwnDs w' w.heap.size vs D ∧ (∀ d ∈ D, DeedG d) ∧ D.length ≤ most ∧ Ext w w' := by
  obtain ⟨us, hul, ⟨h0, a, cap, rfl, h1, h2, h3⟩, h4⟩ := hv
  clear h0
  unfold maxLen at h2
  have H3 := hid h3
  have H4 := hid h4
  clear h3 h4
  obtain ⟨N, hN, hN1, hN2⟩ : ∃ N : Nat, min (us.length : Int) (most : Int) = (N : Int) ∧ N ≤ us.length ∧ N ≤ most := ⟨min us.length most, by omega, by omega, by omega⟩
  have hN3 : ((N : Int)).toNat = N := by omega
  have hN4 : max (N : Int) 0 = (N : Int) := by omega
  have hu1 : us.length ≤ ls.length := by omega
  have hu2 : ls.length ≤ us.length := by omega
  clear hul
  go_enter Tryz.func71, Tryz.ntmps71
  go_wp2
  clear hN hN3 hN4
  go_loopw [5, 7, 8, 9, 10, 18] (fun o _ _ _ _ i wr => ∃ k : Nat, k ≤ N ∧ i = .int .i64 k ∧ (∃ vs D, wr.ownsRow w.heap.size 40 1 o vs.length vs ∧ OwnDs wr w.heap.size vs D ∧ (∀ d ∈ D, DeedG d) ∧ D.length ≤ k) ∧ Ext w wr) (fun _ _ _ _ _ i _ => N - (intOf i).toNat)
  case atStart => exact ⟨0, Nat.zero_le _, rfl, ⟨[], [], World.ownsRow_nil _ _ _ _, OwnDs.nil _ _, by simp, Nat.le_refl _⟩, Ext.refl _⟩
  case round =>
    obtain ⟨wo, rfl⟩ : ∃ wo : World, wo = wr := ⟨_, rfl⟩
    obtain ⟨k, hk, rfl, ⟨vs, D, hout, hds, hdg, hdl⟩, E⟩ := hrel
    obtain ⟨ao, co, rfl⟩ := own_form hout
    by_cases hlt : k < N
    · obtain ⟨b, off, rfl, hc⟩ := H3.out (by omega)
      have c0 := E.cell (hc k us[k] (by simp [show k < us.length by omega]))
      have hsk := (H4.out k us[k] (ls[k]'(by omega)) (List.getElem?_eq_getElem _) (List.getElem?_eq_getElem _)).ext E
      obtain ⟨c, hcl⟩ : ∃ c, ls[k]'(by omega) = c := ⟨_, rfl⟩
      rw [hcl] at hsk
      clear hcl hc
      obtain ⟨_, a2, cap2, hq, g1, g2, g3⟩ := hsk
      rw [hq] at c0
      clear hq
      unfold maxLen at g2
      have G3 := hid g3
      clear g3
      have b8 := heap_alloc_new wo (.cells #[.slice none 0 0] 40)
      have E8 := (Ext.refl wo).alloc (.cells #[.slice none 0 0] 40)
      go_wp2
      clear b8
      go_loopw [9, 10] (fun i _ w2 => ∃ j : Nat, i = .int .i64 (j : Int) ∧ DIn wo j w2) (fun i _ _ => c.length + 20 - (intOf i).toNat)
      case atStart =>
        exact ⟨0, rfl, .slice none 0 0, [], by omega, by simp, by simp, heap_alloc_new _ _, World.ownsRow_nil _ _ _ _, E8⟩
      case round =>
        obtain ⟨j, rfl, vd, d, hdj, hd4, hop, hbx, hod, E2⟩ := hrel
        obtain ⟨ad, cd, rfl⟩ := own_form hod
        have c8 := cell_of_one hbx
        have hjb : j ≤ 12 := by omega
        by_cases hA : j + 2 < c.length ∧ d.length < 4
        · obtain ⟨hA, hB⟩ := hA
          obtain ⟨bc, offc, rfl, hcc⟩ := G3.out (by omega)
          have x0 := E2.cell (hcc j _ (cI_at0 c j (by omega)))
          have x1 := E2.cell (hcc (j + 1) _ (cI_at0 c (j + 1) (by omega)))
          have x2 := E2.cell (hcc (j + 2) _ (cI_at0 c (j + 2) (by omega)))
          clear hcc
          have q1 : ((j : Int) + 1).toNat = j + 1 := by omega
          have q2 : ((j : Int) + 2).toNat = j + 2 := by omega
          generalize c[j]'(by omega) = X at x0
          generalize c[j + 1]'(by omega) = Y at x1
          generalize c[j + 2]'(by omega) = Z at x2
          have g1 := wi_lo (k := X) (n := 5) (by omega)
          have g2 := wi_hi (k := X) (n := 5) (by omega)
          have g3 := wi_lo (k := Z) (n := 9) (by omega)
          have g4 := wi_hi (k := Z) (n := 9) (by omega)
          have km := keyOf_mem Y
          have W5 := fun w => within_any X 5 w (by omega) (by omega)
          have W9 := fun w => within_any Z 9 w (by omega) (by omega)
          have W7 := fun w => within_any Z 7 w (by omega) (by omega)
          have KY := fun w => kKey_any Y w
          generalize wi X 5 = x5 at g1 g2 W5
          generalize wi Z 9 = n at g3 g4 W9
          generalize wi Z 7 = x7 at W7
          generalize keyOf Y = key at km KY
          have W5 := hid W5
          have W9 := hid W9
          have W7 := hid W7
          have KY := hid KY
          obtain ⟨K, hK⟩ : ∃ K, 1 + x5 = K := ⟨_, rfl⟩
          have hK1 : 1 ≤ K := by omega
          have hK5 : K ≤ 5 := by omega
          go_wp2_with fail
          refine wp_region_ph [.k (.slice (some ⟨bc, offc, none⟩) c.length cap2), .k (.int .i64 j), .k (.pointer (some ⟨bc, offc + j, none⟩)), .k (.int .i64 X), .k (.int .i64 x5), .k (.int .i64 K), .k (.slice (some ⟨bc, offc, none⟩) c.length cap2), .k (.int .i64 j), .k (.int .i64 ((j : Int) + 1)), .k (.pointer (some ⟨bc, offc + (j + 1), none⟩)), .k (.int .i64 Y), .k (.string key), .k (.slice (some ⟨bc, offc, none⟩) c.length cap2), .k (.int .i64 j), .k (.int .i64 ((j : Int) + 2)), .k (.pointer (some ⟨bc, offc + (j + 2), none⟩)), .k (.int .i64 Z), .k (.int .i64 n), .k (.agg #[.int .i64 K, .string key, .string ⟨#[]⟩, .int .i64 n]), .p (BoxAt wr #[.int .i64 0, .string ⟨#[]⟩, .string ⟨#[]⟩, .int .i64 0] 125)] [] (by kernel_rfl) (by kernel_rfl) (by kernel_rfl) rfl rfl ?hs ?hC ?he
          case hC =>
            intro i hi
            simp at hi
          case hs =>
            refine ⟨?_, ?_, ?_, ?_, ?_, ?_, ?_, ?_, ?_, ?_, ?_, ?_, ?_, ?_, ?_, ?_, ?_, ?_, ?_, ?_, trivial⟩
            all_goals (
              intro x w' hE hd
              try simp [PhDeps, at_k, at_p, at_t, at_any, Region.binds] at hd
              try ((with_reducible refine Exists.elim hd ?_); clear hd; intro y hd; obtain ⟨hd, hG⟩ := hd)
              have d0 := hE.cell x0
              have d1 := hE.cell x1
              have d2 := hE.cell x2
              first | simp only [frL, List.length_cons, List.length_nil, List.take_succ_cons, List.take_zero, Nat.reduceAdd, Nat.zero_add, List.setIfInBounds_toArray, List.set_cons_zero, List.set_cons_succ, hd] | simp only [frL, List.length_cons, List.length_nil, List.take_succ_cons, List.take_zero, Nat.reduceAdd, Nat.zero_add, List.setIfInBounds_toArray, List.set_cons_zero, List.set_cons_succ]
              go_wp2_with (first | (go_at_call 16; ((with_reducible refine (W5.out _).mono ?_); rintro e wa ⟨rfl, rfl⟩)) | (go_at_call 16; ((with_reducible refine (W9.out _).mono ?_); rintro e wa ⟨rfl, rfl⟩)) | (go_at_call 54; refine (KY.out _).mono ?_; rintro e wa ⟨rfl, hea⟩))
              all_goals first
                | ((with_reducible refine phK ?_ ?_); (focus rfl); (repeat (first | (with_reducible assumption) | (with_reducible exact Ext.refl _) | (with_reducible refine Ext.drew ?_) | (with_reducible refine Ext.drewN ?_ _) | (with_reducible refine Ext.alloc ?_ _) | (with_reducible refine Ext.trans ?_ (by with_reducible assumption)))))
                | ((with_reducible refine phT rfl hG ?_); (repeat (first | (with_reducible assumption) | (with_reducible exact Ext.refl _) | (with_reducible refine Ext.drew ?_) | (with_reducible refine Ext.drewN ?_ _) | (with_reducible refine Ext.alloc ?_ _) | (with_reducible refine Ext.trans ?_ (by with_reducible assumption)))))
                | ((with_reducible refine phU hG ?_); (repeat (first | (with_reducible assumption) | (with_reducible exact Ext.refl _) | (with_reducible refine Ext.drew ?_) | (with_reducible refine Ext.drewN ?_ _) | (with_reducible refine Ext.alloc ?_ _) | (with_reducible refine Ext.trans ?_ (by with_reducible assumption)))))
                | (with_reducible exact phBox hE)
                | (with_reducible exact phRow hE))
          case he =>
            intro x w3 E3 hd
            simp [PhEnd, at_k, at_p] at hd
            obtain ⟨e0, e1, e2, e3, e4, e5, e6, e7, e8, e9, e10, e11, e12, e13, e14, e15, e16, e17, e18, w5, g7, g8, bX, e19, g9, g10⟩ := hd
            replace g10 := g8.heap g10
            have xX := blk4 g10
            simp only [frL, List.length_cons, List.length_nil, List.take_succ_cons, List.take_zero, Nat.reduceAdd, Nat.zero_add, List.setIfInBounds_toArray, List.set_cons_zero, List.set_cons_succ, e0, e1, e2, e3, e4, e5, e6, e7, e8, e9, e10, e11, e12, e13, e14, e15, e16, e17, e18, e19, List.length_cons, List.length_nil, List.drop_succ_cons, List.drop_zero]
            clear e0 e1 e2 e3 e4 e5 e6 e7 e8 e9 e10 e11 e12 e13 e14 e15 e16 e17 e18 e19 g7 g8 w5
            have hlb := lt_of_block hbx
            have hne8 : wo.heap.size ≠ bX := by omega
            have hneo : (Value.slice ad d.length cd).ownBlock ≠ some bX := fun e => by have := (hod.lt _ e).2; omega
            obtain ⟨fX, fX1, fX2, fX3⟩ := frz4 g10
            obtain ⟨W, hW⟩ : ∃ W, ((((w3.setCell ⟨bX, 0, none⟩ (.int .i64 K)).setCell ⟨bX, 1, none⟩ (.string key)).setCell ⟨bX, 2, none⟩ (.string ⟨#[]⟩)).setCell ⟨bX, 3, none⟩ (.int .i64 n)) = W := ⟨_, rfl⟩
            have EW : Ext wr W := by rw [← hW]; exact (((E3.setCell g9 _).setCell g9 _).setCell g9 _).setCell g9 _
            have gX : W.heap[bX]? = some (.cells #[.int .i64 K, .string key, .string ⟨#[]⟩, .int .i64 n] 125 (0, 0)) := by rw [← hW]; exact blk4_set g10 _ _ _ _
            have sW : W.heap.size = w3.heap.size := by rw [← hW]; simp
            have hbW := EW.heap hbx
            have hodW := own_ext hod EW
            have cW := cell_of_one hbW
            have cX := blk4 gX
            by_cases hk3 : K = 3 ∨ K = 5
            · have hcase : (K == 3) = true ∨ ((K == 3) = false ∧ (K == 5) = true) := by
                rcases hk3 with h | h
                · left; simp [h]
                · right; simp [h]
              clear hK
              have d1 := EW.cell x1
              have d2 := EW.cell x2
              obtain ⟨T, hT⟩ : ∃ T : Int, wrap64 (wrap64 (Y + 1) + x7) = T := ⟨_, rfl⟩
              have kf := keyOf_mem T
              have KF := fun w => kKey_any T w
              generalize keyOf T = fr at kf KF
              have KF := hid KF
              rcases hcase with q3 | ⟨q3, q5⟩
              all_goals
                go_wp2_with fail
                refine wp_region_ph [.k (.slice (some ⟨bc, offc, none⟩) c.length cap2), .k (.int .i64 j), .k (.int .i64 ((j : Int) + 1)), .k (.pointer (some ⟨bc, offc + (j + 1), none⟩)), .k (.int .i64 Y), .k (.int .i64 (wrap64 (Y + 1))), .k (.slice (some ⟨bc, offc, none⟩) c.length cap2), .k (.int .i64 j), .k (.int .i64 ((j : Int) + 2)), .k (.pointer (some ⟨bc, offc + (j + 2), none⟩)), .k (.int .i64 Z), .k (.int .i64 x7), .k (.int .i64 T), .k (.string fr), .k (.pointer (some ⟨bX, 2, none⟩))] [] (by kernel_rfl) (by kernel_rfl) (by kernel_rfl) rfl rfl ?hs ?hC ?he
                case hC =>
                  intro i hi
                  simp at hi
                case hs =>
                  refine ⟨?_, ?_, ?_, ?_, ?_, ?_, ?_, ?_, ?_, ?_, ?_, ?_, ?_, ?_, ?_, trivial⟩
                  all_goals (
                    intro x w' hE hd
                    try simp [PhDeps, at_k, at_p, at_t, at_any, Region.binds] at hd
                    try ((with_reducible refine Exists.elim hd ?_); clear hd; intro y hd; obtain ⟨hd, hG⟩ := hd)
                    have d1' := hE.cell d1
                    have d2' := hE.cell d2
                    first | simp only [frL, List.length_cons, List.length_nil, List.take_succ_cons, List.take_zero, Nat.reduceAdd, Nat.zero_add, List.setIfInBounds_toArray, List.set_cons_zero, List.set_cons_succ, hd] | simp only [frL, List.length_cons, List.length_nil, List.take_succ_cons, List.take_zero, Nat.reduceAdd, Nat.zero_add, List.setIfInBounds_toArray, List.set_cons_zero, List.set_cons_succ]
                    go_wp2_with (first | (go_at_call 16; ((with_reducible refine (W7.out _).mono ?_); rintro e wa ⟨rfl, rfl⟩)) | (go_at_call 54; refine (KF.out _).mono ?_; rintro e wa ⟨rfl, hea⟩))
                    all_goals first
                      | ((with_reducible refine phK ?_ ?_); (focus rfl); (repeat (first | (with_reducible assumption) | (with_reducible exact Ext.refl _) | (with_reducible refine Ext.drew ?_) | (with_reducible refine Ext.drewN ?_ _) | (with_reducible refine Ext.alloc ?_ _) | (with_reducible refine Ext.trans ?_ (by with_reducible assumption)))))
                      | ((with_reducible refine phT rfl hG ?_); (repeat (first | (with_reducible assumption) | (with_reducible exact Ext.refl _) | (with_reducible refine Ext.drew ?_) | (with_reducible refine Ext.drewN ?_ _) | (with_reducible refine Ext.alloc ?_ _) | (with_reducible refine Ext.trans ?_ (by with_reducible assumption)))))
                      | ((with_reducible refine phU hG ?_); (repeat (first | (with_reducible assumption) | (with_reducible exact Ext.refl _) | (with_reducible refine Ext.drew ?_) | (with_reducible refine Ext.drewN ?_ _) | (with_reducible refine Ext.alloc ?_ _) | (with_reducible refine Ext.trans ?_ (by with_reducible assumption)))))
                      | (with_reducible exact phBox hE)
                      | (with_reducible exact phRow hE))
                case he =>
                  intro x9 w4 E4 hd
                  simp [PhEnd, at_k, at_p] at hd
                  obtain ⟨e0, e1, e2, e3, e4, e5, e6, e7, e8, e9, e10, e11, e12, e13, e14⟩ := hd
                  simp only [frL, List.length_cons, List.length_nil, List.take_succ_cons, List.take_zero, Nat.reduceAdd, Nat.zero_add, List.setIfInBounds_toArray, List.set_cons_zero, List.set_cons_succ, e0, e1, e2, e3, e4, e5, e6, e7, e8, e9, e10, e11, e12, e13, e14, List.length_cons, List.length_nil, List.drop_succ_cons, List.drop_zero]
                  clear e0 e1 e2 e3 e4 e5 e6 e7 e8 e9 e10 e11 e12 e13 e14 hT hW d1 d2
                  have h10 := E4.heap gX
                  obtain ⟨iX, iX1, iX2, iX3⟩ := frz4 h10
                  have cX4 := blk4 h10
                  obtain ⟨W2, hW2⟩ : ∃ W2, w4.setCell ⟨bX, 2, none⟩ (.string fr) = W2 := ⟨_, rfl⟩
                  have EW2 : Ext wr W2 := by rw [← hW2]; exact (EW.trans E4).setCell g9 _
                  have gX2 : W2.heap[bX]? = some (.cells #[.int .i64 K, .string key, .string fr, .int .i64 n] 125 (0, 0)) := by rw [← hW2]; exact blk4_set2 h10 _
                  have sW2 : W2.heap.size = w4.heap.size := by rw [← hW2]; simp
                  clear cX cW hodW hbW
                  have hbW2 := EW2.heap hbx
                  have cW2 := cell_of_one hbW2
                  have cX2 := blk4 gX2
                  by_cases hfk : fr = key
                  · have qf : (fr.toList == key.toList) = true := by simp [hfk]
                    clear hfk
                    obtain ⟨jX, jX1, jX2, jX3⟩ := frz4 gX2
                    obtain ⟨W3, hW3⟩ : ∃ W3, W2.setCell ⟨bX, 2, none⟩ (.string ⟨#[113]⟩) = W3 := ⟨_, rfl⟩
                    have EW3 : Ext wr W3 := by rw [← hW3]; exact EW2.setCell g9 _
                    have gX3 : W3.heap[bX]? = some (.cells #[.int .i64 K, .string key, .string ⟨#[113]⟩, .int .i64 n] 125 (0, 0)) := by rw [← hW3]; exact blk4_set2 gX2 _
                    have sW3 : W3.heap.size = w4.heap.size := by rw [← hW3]; simp [sW2]
                    have hbW3 := EW3.heap hbx
                    have cW3 := cell_of_one hbW3
                    have cX3 := blk4 gX3
                    have oG : OpG ⟨K, key, ⟨#[113]⟩, n⟩ := ⟨hK1, hK5, km, fun _ => ⟨q_not.2, fun e => q_not.1 key km e.symm⟩, fun h3 h5 => absurd hk3 (by rintro (h | h); exact h3 h; exact h5 h), by show 0 ≤ n; omega, by show n ≤ 8; omega⟩
                    obtain ⟨p1, p2, p3, p4, p5⟩ := op_prep ⟨K, key, ⟨#[113]⟩, n⟩ hbW3 (own_ext hod EW3) sW3
                    go_wp2_with (first | (at_builtin; refine (wpList_app rfl _ _ 38 rfl (wo.heap.size + 1) 125 (.agg #[.int .i64 0, .string ⟨#[]⟩, .string ⟨#[]⟩, .int .i64 0]) 4 48 Tryz.underlying38 infoOp rfl (by decide) _ d.length (cO d) rfl p2 _ 1 (cO [⟨K, key, ⟨#[113]⟩, n⟩]) rfl p1 (one_op _) (by omega) (by unfold maxLen; omega) p3 ?_); intro v' w9 ho' hg; obtain ⟨a4, c4', rfl⟩ := own_form ho'; have hb4 := grown_heap hg p4 p5; have c4 := cell_of_one hb4; have f4 := free_of_one hb4))
                    go_roundw
                    case rel => exact ⟨j + 3, by go_num, din_step hdj hB hop oG (E2.trans EW3) (own_ext hod EW3) hg ho' hb4⟩
                    case measure => rename_i hA' _; simp [intOf]; omega
                  · have qf : (fr.toList == key.toList) = false := by simp; exact fun e => hfk (toList_inj e)
                    have oG : OpG ⟨K, key, fr, n⟩ := ⟨hK1, hK5, km, fun _ => ⟨keysL_key _ kf, hfk⟩, fun h3 h5 => absurd hk3 (by rintro (h | h); exact h3 h; exact h5 h), by show 0 ≤ n; omega, by show n ≤ 8; omega⟩
                    obtain ⟨p1, p2, p3, p4, p5⟩ := op_prep ⟨K, key, fr, n⟩ hbW2 (own_ext hod EW2) sW2
                    go_wp2_with (first | (at_builtin; refine (wpList_app rfl _ _ 38 rfl (wo.heap.size + 1) 125 (.agg #[.int .i64 0, .string ⟨#[]⟩, .string ⟨#[]⟩, .int .i64 0]) 4 48 Tryz.underlying38 infoOp rfl (by decide) _ d.length (cO d) rfl p2 _ 1 (cO [⟨K, key, fr, n⟩]) rfl p1 (one_op _) (by omega) (by unfold maxLen; omega) p3 ?_); intro v' w9 ho' hg; obtain ⟨a4, c4', rfl⟩ := own_form ho'; have hb4 := grown_heap hg p4 p5; have c4 := cell_of_one hb4; have f4 := free_of_one hb4))
                    go_roundw
                    case rel => exact ⟨j + 3, by go_num, din_step hdj hB hop oG (E2.trans EW2) (own_ext hod EW2) hg ho' hb4⟩
                    case measure => rename_i hA' _; simp [intOf]; omega
            · have q3 : (K == 3) = false := by simp; omega
              have q5 : (K == 5) = false := by simp; omega
              have oG : OpG ⟨K, key, ⟨#[]⟩, n⟩ := ⟨hK1, hK5, km, fun h => absurd h hk3, fun _ _ => rfl, by show 0 ≤ n; omega, by show n ≤ 8; omega⟩
              obtain ⟨p1, p2, p3, p4, p5⟩ := op_prep ⟨K, key, ⟨#[]⟩, n⟩ hbW hodW sW
              clear hK
              go_wp2_with (first | (at_builtin; refine (wpList_app rfl _ _ 38 rfl (wo.heap.size + 1) 125 (.agg #[.int .i64 0, .string ⟨#[]⟩, .string ⟨#[]⟩, .int .i64 0]) 4 48 Tryz.underlying38 infoOp rfl (by decide) _ d.length (cO d) rfl p2 _ 1 (cO [⟨K, key, ⟨#[]⟩, n⟩]) rfl p1 (one_op _) (by omega) (by unfold maxLen; omega) p3 ?_); intro v' w9 ho' hg; obtain ⟨a4, c4', rfl⟩ := own_form ho'; have hb4 := grown_heap hg p4 p5; have c4 := cell_of_one hb4; have f4 := free_of_one hb4))
              go_roundw
              case rel => exact ⟨j + 3, by go_num, din_step hdj hB hop oG (E2.trans EW) (own_ext hod EW) hg ho' hb4⟩
              case measure => rename_i hA' _; simp [intOf]; omega
        · have hA' : ¬ (j + 2 < c.length) ∨ (j + 2 < c.length ∧ ¬ d.length < 4) := by omega
          clear hA
          rcases hA' with hA | ⟨hA, hB⟩
          all_goals
            by_cases h0 : 0 < d.length
            · obtain ⟨p1, p2, p3⟩ := dd_prep (ad := ad) (n := d.length) (cd := cd) (own_ext hout E2) (by have := E.size'; have := E2.size'; omega) rfl
              go_wp2_with (first | (at_builtin; refine (wpList_app rfl _ _ 121 rfl w.heap.size 40 (.agg #[.slice none 0 0]) 1 24 Tryz.underlying121 infoDd rfl (by decide) _ vs.length vs rfl p2 _ 1 [.slice ad d.length cd] rfl p1 (one_deed _ _ _) (by have := hds.len; omega) (by unfold maxLen; have := hds.len; omega) p3 ?_); intro v' w9 ho' hg; obtain ⟨a9, c9, rfl⟩ := own_form ho'))
              go_roundw
              case rel =>
                obtain ⟨⟨vs', D', r1, r3, r4, r5⟩, r6⟩ := dd_step hout hds hdg hdl E E2 hod h0 hd4 hop hg ho'
                exact ⟨k + 1, by omega, by go_num, ⟨vs', D', r1, r3, r4, r5⟩, r6⟩
              case measure => simp [intOf] <;> omega
            · first
              | (exfalso; omega)
              | (go_wp2
                 go_roundw
                 case rel => exact ⟨k + 1, by omega, by go_num, ⟨vs, D, own_ext hout E2, hds.ext E2, hdg, by omega⟩, E.trans E2⟩
                 case measure => simp [intOf] <;> omega)
    · obtain rfl : k = N := by omega
      go_wp2
      go_ret
      exact ⟨_, vs, D, rfl, hout, hds, hdg, by omega, E⟩
end Go.Proofs.YtddghaoejnbkaaaGreatDoor
