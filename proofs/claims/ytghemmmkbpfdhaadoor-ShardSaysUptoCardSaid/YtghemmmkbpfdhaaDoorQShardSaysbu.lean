/- Contracts and lemmas for the proof of ShardSays; each theorem states its own conditions. -/
import Derived.Test.YtghemmmkbpfdhaaDoorQShardSaysbq
import Derived.Test.YtghemmmkbpfdhaaDoorQShardSaysbt
import Derived.Test.YtghemmmkbpfdhaaDoorQShardSaysbp
set_option linter.unusedVariables false
set_option linter.unusedSimpArgs false
/- Contracts and lemmas for the proofs of this seat; each theorem states its own conditions. -/
namespace Go.Proofs.YtghemmmkbpfdhaaDoor
open Go.RowKit
/-! deed.Keys -/
theorem infoStr : (Tryd.prog.info? 9).map (fun i => (i.zero, i.size, i.bytes)) = some (some (.string ⟨#[]⟩), 1, 16) := by kernel_rfl
theorem one_str (k : ByteArray) : ∀ u ∈ [Value.string k], u.oneCell' = true := by
  intro u hu; simp at hu; subst hu; rfl
theorem two_str (k j : ByteArray) : ∀ u ∈ [Value.string k, Value.string j], u.oneCell' = true := by
  intro u hu; simp at hu; rcases hu with rfl | rfl <;> rfl
theorem cS_app (a b : List ByteArray) : cS (a ++ b) = cS a ++ cS b := by simp [cS]
/-- an operation in a variable of its own -/
theorem new_op (w : World) (o : GOp) (z0 z1 z2 z3 : Value) : ∃ W, ((((w.alloc (.cells #[z0, z1, z2, z3] 138)).setCell ⟨w.heap.size, 0, none⟩ (.int .i64 o.kind)).setCell ⟨w.heap.size, 1, none⟩ (.string o.key)).setCell ⟨w.heap.size, 2, none⟩ (.string o.from_)).setCell ⟨w.heap.size, 3, none⟩ (.int .i64 o.n) = W ∧ Ext w W ∧ W.heap[w.heap.size]? = some (.cells #[.int .i64 o.kind, .string o.key, .string o.from_, .int .i64 o.n] 138 (0, 0)) := by
  have h := heap_alloc_new w (.cells #[z0, z1, z2, z3] 138)
  exact ⟨_, rfl, (((((Ext.refl w).alloc _).setCell (Nat.le_refl _) _).setCell (Nat.le_refl _) _).setCell (Nat.le_refl _) _).setCell (Nat.le_refl _) _, blk4_set h _ _ _ _⟩
/-- where Keys' loop stands -/
def KRel (w : World) (R W : List ByteArray) (vr vw : Value) (wr : World) : Prop :=
  wr.ownsRow w.heap.size 9 1 vr R.length (cS R) ∧ wr.ownsRow w.heap.size 9 1 vw W.length (cS W) ∧ (∀ k, vr.ownBlock = some k → vw.ownBlock ≠ some k) ∧ Ext w wr
theorem ext_of_gf {G : Nat → Option (Nat × List Value)} {w W w' : World} (E : Ext w W) (h : GF G W w') (hG : ∀ k, k < w.heap.size → G k = none) : Ext w w' := by
  have hs := E.size'
  refine ⟨h.1.trans E.os, h.2.1.trans E.tape, h.2.2.1.trans E.output, Nat.le_trans hs h.2.2.2.1, fun k hk => ?_⟩
  rcases h.2.2.2.2 k (by omega) with e | ⟨_, _, _, _, e, _⟩
  · exact e.trans (Below.block E k hk)
  · rw [hG k hk] at e; cases e
theorem g2_low {r u : Value} {n m B : Nat} {ns ms : List Value} (hr : ∀ k, r.ownBlock = some k → B ≤ k) (hu : ∀ k, u.ownBlock = some k → B ≤ k) : ∀ k, k < B → G2 r n ns u m ms k = none := fun k hk => by
  have h1 : r.ownBlock ≠ some k := fun e => by have := hr k e; omega
  have h2 : u.ownBlock ≠ some k := fun e => by have := hu k e; omega
  simp [G2, h1, h2]
/-- what a round with one append leaves -/
theorem krel_w {w W w' : World} {R Ws : List ByteArray} {vr vw v' : Value} {k : ByteArray} {ob : Obj} (h : KRel w R Ws vr vw W) (hg : GF (G2 vr R.length [] vw Ws.length [.string k]) (W.alloc ob) w') (ho : OwnG (G2 vr R.length [] vw Ws.length [.string k]) w.heap.size 9 1 v' (Ws.length + 1) (cS Ws ++ [.string k]) w')
    (hb : ∀ j, v'.ownBlock = some j → vw.ownBlock = some j ∨ (W.alloc ob).heap.size ≤ j) : KRel w R (Ws ++ [k]) vr v' w' := by
  obtain ⟨h1, h2, h3, h4⟩ := h
  refine ⟨(OwnG.st hg (g2_own_fst (h1.alloc ob))).1, ?_, fun j hj e => ?_, ext_of_gf (h4.alloc ob) hg (g2_low (own_ge h1) (own_ge h2))⟩
  · rw [List.length_append, cS_app]; exact ho.1
  · rcases hb j e with e' | e'
    · exact h3 j hj e'
    · have := (h1.lt j hj).2
      simp at e'; omega
theorem krel_r {w W w' : World} {R Ws : List ByteArray} {vr vw v' : Value} {k : ByteArray} {ob : Obj} (h : KRel w R Ws vr vw W) (hg : GF (G2 vr R.length [.string k] vw Ws.length []) (W.alloc ob) w') (ho : OwnG (G2 vr R.length [.string k] vw Ws.length []) w.heap.size 9 1 v' (R.length + 1) (cS R ++ [.string k]) w')
    (hb : ∀ j, v'.ownBlock = some j → vr.ownBlock = some j ∨ (W.alloc ob).heap.size ≤ j) : KRel w (R ++ [k]) Ws v' vw w' := by
  obtain ⟨h1, h2, h3, h4⟩ := h
  refine ⟨?_, (OwnG.st hg (g2_own_snd h3 (h2.alloc ob))).1, fun j hj e => ?_, ext_of_gf (h4.alloc ob) hg (g2_low (own_ge h1) (own_ge h2))⟩
  · rw [List.length_append, cS_app]; exact ho.1
  · rcases hb j hj with e' | e'
    · exact h3 j e' e
    · have := (h2.lt j e).2
      simp at e'; omega
/-- what an append in a round asks -/
theorem app_prep {w W : World} {R Ws : List ByteArray} {vr vw : Value} {sz : Nat} (k : ByteArray) (h : KRel w R Ws vr vw W) (hs : W.heap.size = sz) :
    Seg (W.alloc (.cells #[.string k] 9)) (.slice (some ⟨sz, 0, none⟩) 1 1) 1 1 [.string k] ∧ (W.alloc (.cells #[.string k] 9)).ownsRow w.heap.size 9 1 vr R.length (cS R) ∧ (W.alloc (.cells #[.string k] 9)).ownsRow w.heap.size 9 1 vw Ws.length (cS Ws) ∧
    w.heap.size ≤ (W.alloc (.cells #[.string k] 9)).heap.size ∧ (∀ n ns m ms i, (W.alloc (.cells #[.string k] 9)).heap.size ≤ i → G2 vr n ns vw m ms i = none) := by
  subst hs
  obtain ⟨h1, h2, h3, h4⟩ := h
  have := h4.size'
  refine ⟨seg_one (heap_alloc_new W _), h1.alloc _, h2.alloc _, by simp; omega, fun n ns m ms i hi => g2_none (N := W.heap.size) (fun k hk => (h1.lt k hk).2) (fun k hk => (h2.lt k hk).2) i (by simp at hi; omega)⟩
/-- and with two -/
theorem krel_two {w W w' : World} {R Ws ks js : List ByteArray} {vr vw v1 v2 : Value} {m : Nat} (h : KRel w R Ws vr vw W) (hks : ks.length = m) (hjs : js.length = m)
    (hg : GF (G2 vr R.length (cS ks) vw Ws.length (cS js)) W w')
    (h1 : PR.Up (GF (G2 vr R.length (cS ks) vw Ws.length (cS js))) W w' (App1 (G2 vr R.length (cS ks) vw Ws.length (cS js)) W.heap.size w.heap.size 9 vr (R.length + m) (cS R ++ cS ks) v1))
    (h2 : PR.Up (GF (G2 vr R.length (cS ks) vw Ws.length (cS js))) W w' (App2 (G2 vr R.length (cS ks) vw Ws.length (cS js)) W.heap.size w.heap.size 9 vw (Ws.length + m) (cS Ws ++ cS js) [v1] v2)) :
    KRel w (R ++ ks) (Ws ++ js) v1 v2 w' := by
  obtain ⟨q1, q2, q3, q4⟩ := h
  have a1 := h1.now (fun a b => App1.st a b)
  have a2 := h2.now (fun a b => App2.st a b)
  refine ⟨?_, ?_, fun k hk => a2.2.2 v1 (by simp) k hk, ext_of_gf q4 hg (g2_low (own_ge q1) (own_ge q2))⟩
  · rw [List.length_append, hks, cS_app]; exact a1.1.1
  · rw [List.length_append, hjs, cS_app]; exact a2.1.1
theorem krel_sort1 {w wr wa w2 : World} {R Ws : List ByteArray} {vr vw v1 : Value} {n : Nat} {xs : List Value} (h : KRel w R Ws vr vw wr) (hg1 : wr.grownBy wa vr.ownBlock) (Ea : Ext wa w2) (o1 : w2.ownsRow wr.heap.size 9 1 v1 n xs) :
    w2.ownsRow w.heap.size 9 1 vw Ws.length (cS Ws) ∧ Ext w w2 ∧ (v1.ownBlock = none ∨ v1.ownBlock ≠ vw.ownBlock) ∧ ∀ k, vw.ownBlock = some k → w.heap.size ≤ k := by
  obtain ⟨hr, hw, hap, E⟩ := h
  have hrw : vw.ownBlock = none ∨ vw.ownBlock ≠ vr.ownBlock := by
    cases e : vw.ownBlock with
    | none => exact .inl rfl
    | some j => exact .inr fun e' => hap j e'.symm e
  refine ⟨own_ext (grown_own hg1 hw hrw) Ea, (E.grown hg1 (fun k hk => own_ge hr k hk)).trans Ea, ?_, own_ge hw⟩
  cases e : v1.ownBlock with
  | none => exact .inl rfl
  | some j =>
    refine .inr fun e' => ?_
    have a := own_ge o1 j e
    have b := (hw.lt j e'.symm).2
    omega
theorem rds_take {d : Ops} {k : Nat} (hk : k < d.length) : rds (d.take (k + 1)) = rds (d.take k) ++ rdO d[k] ∧ wrs (d.take (k + 1)) = wrs (d.take k) ++ wrO d[k] := by
  rw [List.take_succ_eq_append_getElem hk]; exact ⟨by simp only [rds, List.flatMap_append, List.flatMap_cons, List.flatMap_nil, List.append_nil], by simp only [wrs, List.flatMap_append, List.flatMap_cons, List.flatMap_nil, List.append_nil]⟩
theorem rdO_len (o : GOp) : (rdO o).length ≤ 2 ∧ (wrO o).length ≤ 2 := by
  unfold rdO wrO
  refine ⟨?_, ?_⟩
  · split <;> (try split) <;> (try split) <;> (try split) <;> simp
  · split <;> (try split) <;> (try split) <;> (try split) <;> simp
theorem rds_len (d : Ops) : ∀ k, (rds (d.take k)).length ≤ 2 * k ∧ (wrs (d.take k)).length ≤ 2 * k
  | 0 => by simp [rds, wrs]
  | k + 1 => by
    obtain ⟨h1, h2⟩ := rds_len d k
    by_cases hk : k < d.length
    · rw [(rds_take hk).1, (rds_take hk).2]
      have := rdO_len d[k]
      simp only [List.length_append]; omega
    · rw [List.take_of_length_le (by omega)]
      rw [List.take_of_length_le (by omega)] at h1 h2
      omega
end Go.Proofs.YtghemmmkbpfdhaaDoor
