/- Contracts and lemmas for the proof of MergePlays; each theorem states its own conditions. -/
import Derived.WalkKit
import Derived.Laws.AppendOwnNone
import Derived.Deep.Draws
set_option linter.unusedVariables false
set_option linter.unusedSimpArgs false
/- Generic lemmas on worlds, slices and owned rows; no program is named. -/
namespace Go.Proofs.YtddghaoejnbkaaaDoor
open Go.RowKit

/-- w' is w, grown: nothing that was there has turned -/
def Ext (w w' : World) : Prop := Below w.heap.size w w'
theorem Ext.refl (w : World) : Ext w w := Below.refl _ _
theorem Ext.trans {a b c : World} (h : Ext a b) (k : Ext b c) : Ext a c := Below.trans h (Below.mono k h.size)
theorem Ext.drewN {a b : World} (h : Ext a b) (n : Nat) : Ext a (b.drewN n) := Below.trans h ⟨rfl, rfl, rfl, Nat.le_refl _, fun _ _ => rfl⟩
theorem Ext.drew {a b : World} (h : Ext a b) : Ext a b.drew := Below.drew h
theorem Ext.alloc {a b : World} (h : Ext a b) (o : Obj) : Ext a (b.alloc o) := Below.alloc h h.size o
theorem Ext.setCell {a b : World} (h : Ext a b) {p : Addr} (hp : a.heap.size ≤ p.block) (u : Value) : Ext a (b.setCell p u) := Below.setCell h hp u
theorem Ext.grown {a b c : World} (h : Ext a b) {row : Option Nat} (hg : b.grownBy c row) (hr : ∀ k, row = some k → a.heap.size ≤ k) : Ext a c := Below.grown h hg h.size hr
theorem Ext.cell {a b : World} (h : Ext a b) {p : Addr} {v : Value} (hp : a.cell? p = some v) : b.cell? p = some v := (Below.cell h (World.block_lt_of_cell? a p hp)).trans hp
theorem Ext.size' {a b : World} (h : Ext a b) : a.heap.size ≤ b.heap.size := Below.size h
theorem Ext.heap {a b : World} (h : Ext a b) {k : Nat} {o : Obj} (hk : a.heap[k]? = some o) : b.heap[k]? = some o := (Below.block h k (Array.getElem?_eq_some_iff.1 hk).1).trans hk

/-- v is a slice of n elements of sz cells, whose cells are xs -/
def Seg (w : World) (v : Value) (sz n : Nat) (xs : List Value) : Prop :=
  xs.length = n * sz ∧ ∃ a cap, v = .slice a n cap ∧ n ≤ cap ∧ cap ≤ maxLen ∧
    (0 < n → ∃ b off, a = some ⟨b, off, none⟩ ∧ ∀ j u, xs[j]? = some u → w.cell? ⟨b, off + j, none⟩ = some u)

theorem Seg.ext {w w' : World} {v : Value} {sz n : Nat} {xs : List Value} (h : Seg w v sz n xs) (k : Ext w w') : Seg w' v sz n xs := by
  obtain ⟨h0, a, cap, h1, h2, h3, h4⟩ := h
  refine ⟨h0, a, cap, h1, h2, h3, fun hn => ?_⟩
  obtain ⟨b, off, h5, h6⟩ := h4 hn
  exact ⟨b, off, h5, fun j u hu => k.cell (h6 j u hu)⟩

theorem Seg.nil (w : World) (sz : Nat) : Seg w (.slice none 0 0) sz 0 [] := ⟨by simp, none, 0, rfl, Nat.le_refl _, by simp [maxLen], fun h => absurd h (by omega)⟩

theorem own_seg {w : World} {B e sz n : Nat} {v : Value} {xs : List Value} (h : w.ownsRow B e sz v n xs) : Seg w v sz n xs := by
  have hc := h
  obtain ⟨h0, h1⟩ := h
  refine ⟨h0, ?_⟩
  rcases h1 with ⟨rfl, rfl⟩ | ⟨g, cap, cur, rfl, hb, hg, hn, hm, hs, ht⟩
  · exact ⟨none, 0, rfl, Nat.le_refl _, by simp [maxLen], fun h => absurd h (by omega)⟩
  · refine ⟨some ⟨g, 0, none⟩, cap, rfl, hn, hm, fun _ => ⟨g, 0, rfl, fun j u hu => ?_⟩⟩
    have hj : j < n * sz := by
      have := (List.getElem?_eq_some_iff.1 hu).1
      omega
    have := hc.cellAt j hj
    rw [Nat.zero_add, this, hu]

theorem own_ext {w w' : World} {B e sz n : Nat} {v : Value} {xs : List Value} (h : w.ownsRow B e sz v n xs) (k : Ext w w') : w'.ownsRow B e sz v n xs := by
  refine ⟨h.1, ?_⟩
  rcases h.2 with hn | ⟨g, cap, cur, rfl, hb, hg, rest⟩
  · exact .inl hn
  · exact .inr ⟨g, cap, cur, rfl, hb, k.heap hg, rest⟩

theorem own_base {w : World} {B B' e sz n : Nat} {v : Value} {xs : List Value} (h : w.ownsRow B e sz v n xs) (k : B' ≤ B) : w.ownsRow B' e sz v n xs := by
  refine ⟨h.1, ?_⟩
  rcases h.2 with hn | ⟨g, cap, cur, rfl, hb, rest⟩
  · exact .inl hn
  · exact .inr ⟨g, cap, cur, rfl, by omega, rest⟩

theorem own_ge {w : World} {B e sz n : Nat} {v : Value} {xs : List Value} (h : w.ownsRow B e sz v n xs) : ∀ k, v.ownBlock = some k → B ≤ k := fun k hk => (h.lt k hk).1


theorem addr_add (b off j : Nat) : (⟨b, off, none⟩ : Addr).add j = ⟨b, off + j, none⟩ := by
  unfold Addr.add
  split
  · rename_i h; subst h; rfl
  · rfl

/-- append(own row, whatever slice that reads as news) -/
theorem wpList_app {P : Program} {w : World} {ops : Array Oper} {rest : List Oper} {o : Oper} {a : Act} {Q : Exit → Act → World → Prop} (hgd : o.guard = none) (s x : Operand) (t : TypeId)
    (ho : o.op = .call { callee := .builtin .append, args := #[s, x], argTypes := #[t, t] })
    (base : Nat) (e : TypeId) (z : Value) (size bytes : Nat) (ht : P.underlying t = some (.slice e))
    (hinfo : (P.info? e).map (fun i => (i.zero, i.size, i.bytes)) = some (some z, size, bytes)) (hzs : z.cells.size = size) (hsz : 0 < size)
    (v : Value) (n : Nat) (xs : List Value) (hs : a.eval s = v) (hown : w.ownsRow base e size v n xs)
    (xv : Value) (m : Nat) (news : List Value) (hx : a.eval x = xv) (hseg : Seg w xv size m news) (h1 : ∀ u ∈ news, u.oneCell' = true)
    (hbytes : (n + m) * bytes ≤ 140737488355328) (h63 : n + m ≤ maxLen) (hbase : base ≤ w.heap.size)
    (h : ∀ v' w', w'.ownsRow base e size v' (n + m) (xs ++ news) → w.grownBy w' v.ownBlock → wpList P ops Q rest (a.put o.dst v') w') : wpList P ops Q (o :: rest) a w := by
  obtain ⟨i, hi, hz0, hz1, hz2⟩ := info_parts hinfo
  obtain ⟨hl, ad, cap, rfl, hc1, hc2, hc3⟩ := hseg
  cases ad with
  | none =>
    have hm : m = 0 := by
      rcases Nat.eq_zero_or_pos m with h | h
      · exact h
      · obtain ⟨b, off, hh, _⟩ := hc3 h; cases hh
    subst hm
    have hn : news = [] := List.eq_nil_of_length_eq_zero (by simpa using hl)
    subst hn
    refine wpList_plain hgd fun K hK => ?_
    have hrun : (Builtin.append_ #[t, t] o.type #[v, .slice none 0 cap]).run P w = .ok v w := by
      have hown' := hown
      obtain ⟨g0, g1⟩ := hown'
      rcases g1 with ⟨rfl, rfl⟩ | ⟨g, cap', cur, rfl, g2, g3, g4, g5, g6, g7⟩
      · simp [Builtin.append_, run_underlying ht, sizeOf, typeInfo, hi, Builtin.lenOf, Builtin.firstCells]
      · simp [Builtin.append_, run_underlying ht, sizeOf, typeInfo, hi, Builtin.lenOf, Builtin.firstCells, loadCells, storeCells, g4]
    unfold Oper.wp
    simp [execOp, ho, resolve, invoke, builtin, hs, hx, hrun, Result.andThen]
    exact hK _ _ (h v w (by simpa using hown) (World.grownBy.refl _ _))
  | some ad =>
    refine wpList_append_own _ hgd s x t ho base e i z size bytes ht hi hz0 hz1 hz2 hzs hsz v n xs hs hown ad m cap news hx hl ?_ h1 h63 hbytes hbase fun v' w' a1 a2 _ => h v' w' a1 a2
    intro j u hu
    have hm : 0 < m := by
      rcases Nat.eq_zero_or_pos m with h | h
      · subst h
        have hn : news = [] := List.eq_nil_of_length_eq_zero (by simpa using hl)
        subst hn; simp at hu
      · exact h
    obtain ⟨b, off, hh, h6⟩ := hc3 hm
    injection hh with hh
    subst hh
    rw [addr_add]
    exact h6 j u hu

theorem seg_none {w : World} {sz n cap : Nat} {xs : List Value} (h : Seg w (.slice none n cap) sz n xs) : n = 0 ∧ xs = [] := by
  obtain ⟨h0, a, c, h1, h2, h3, h4⟩ := h
  injection h1 with e1 e2 e3
  subst e1
  have hn : n = 0 := by
    rcases Nat.eq_zero_or_pos n with h | h
    · exact h
    · obtain ⟨b, off, hh, _⟩ := h4 h; cases hh
  subst hn
  exact ⟨rfl, List.eq_nil_of_length_eq_zero (by simpa using h0)⟩
theorem own_form {w : World} {B e sz n : Nat} {v : Value} {xs : List Value} (h : w.ownsRow B e sz v n xs) : ∃ a c, v = .slice a n c := by
  rcases h.2 with ⟨rfl, rfl⟩ | ⟨g, cap, cur, rfl, _⟩
  · exact ⟨none, 0, rfl⟩
  · exact ⟨_, _, rfl⟩
theorem seg_form {w : World} {v : Value} {sz n : Nat} {xs : List Value} (h : Seg w v sz n xs) : ∃ a c, v = .slice a n c := by
  obtain ⟨h0, a, c, h1, _⟩ := h
  exact ⟨a, c, h1⟩
theorem blk2 {w : World} {b : Nat} {x y : Value} {t : TypeId} (h : w.heap[b]? = some (.cells #[x, y] t (0, 0))) : w.cell? ⟨b, 0, none⟩ = some x ∧ w.cell? ⟨b, 1, none⟩ = some y ∧ w.frozen? ⟨b, 0, none⟩ = false ∧ w.frozen? ⟨b, 1, none⟩ = false := by
  simp [World.cell?, World.frozen?, h]
theorem heap_2 (w : World) (o1 o2 : Obj) : ((w.alloc o1).alloc o2).heap[w.heap.size + 1]? = some o2 := by
  have := heap_alloc_new (w.alloc o1) o2
  simpa using this
theorem cell_set_far {w : World} {p a : Addr} {u v : Value} (h : w.cell? a = some u) (hp : p.block ≠ a.block) : (w.setCell p v).cell? a = some u :=
  (World.cell?_of_block (w := w) (Below.heap_setCell _ _ _ _ (fun e => hp e.symm))).trans h
theorem keep2 {w w1 w2 : World} {a b : Addr} {u v : Value} (h : w1.cell? a = some u ∧ w1.cell? b = some v ∧ Ext w w1) (k : Ext w1 w2) : w2.cell? a = some u ∧ w2.cell? b = some v ∧ Ext w w2 := ⟨k.cell h.1, k.cell h.2.1, h.2.2.trans k⟩
theorem keep2s {w w1 : World} {a b p : Addr} {u v x : Value} (h : w1.cell? a = some u ∧ w1.cell? b = some v ∧ Ext w w1) (ha : p.block ≠ a.block) (hb : p.block ≠ b.block) (hw : w.heap.size ≤ p.block) :
    (w1.setCell p x).cell? a = some u ∧ (w1.setCell p x).cell? b = some v ∧ Ext w (w1.setCell p x) :=
  ⟨cell_set_far h.1 ha, cell_set_far h.2.1 hb, h.2.2.setCell hw x⟩
theorem own_set_far {w : World} {B e sz n : Nat} {v : Value} {xs : List Value} (h : w.ownsRow B e sz v n xs) {p : Addr} {u : Value} (hp : p.block < B) : (w.setCell p u).ownsRow B e sz v n xs := ownsRow_setCell_below h hp u
theorem blk2_set2 {w : World} {b : Nat} {x y u v : Value} {t : TypeId} (h : w.heap[b]? = some (.cells #[x, y] t (0, 0))) : ((w.setCell ⟨b, 0, none⟩ u).setCell ⟨b, 1, none⟩ v).heap[b]? = some (.cells #[u, v] t (0, 0)) := by
  simp [World.setCell, Array.getElem?_modify, h]
theorem own_set2 {w : World} {B e sz n : Nat} {v : Value} {xs : List Value} (h : w.ownsRow B e sz v n xs) {p q : Addr} {u u' : Value} (hp : p.block < B) (hq : q.block < B) : ((w.setCell p u).setCell q u').ownsRow B e sz v n xs := own_set_far (own_set_far h hp) hq
theorem cell1 {w : World} {a : Addr} {v : Value} (h : w.cell? a = some v) : ∀ o, (w.alloc o).cell? a = some v := fun o => ((Ext.refl w).alloc o).cell h
theorem seg_cells {w : World} {a : Option Addr} {sz n n' c : Nat} {xs : List Value} (h : Seg w (.slice a n' c) sz n xs) (hn : 0 < n) :
    ∃ b off, a = some ⟨b, off, none⟩ ∧ n' = n ∧ n ≤ c ∧ c ≤ maxLen ∧ ∀ j u, xs[j]? = some u → w.cell? ⟨b, off + j, none⟩ = some u := by
  obtain ⟨h0, a', c', h1, h2, h3, h4⟩ := h
  injection h1 with e1 e2 e3
  subst e1; subst e2; subst e3
  obtain ⟨b, off, h5, h6⟩ := h4 hn
  exact ⟨b, off, h5, rfl, h2, h3, h6⟩
theorem own_pos {w : World} {B e sz n c : Nat} {a : Option Addr} {xs : List Value} (h : w.ownsRow B e sz (.slice a n c) n xs) (hn : 0 < n) : ∃ g, a = some ⟨g, 0, none⟩ ∧ B ≤ g ∧ g < w.heap.size ∧ n ≤ c ∧ c ≤ maxLen := by
  have hl := h.lt
  rcases h.2 with ⟨h1, h2⟩ | ⟨g, cap, cur, h1, h2, h3, h4, h5, _⟩
  · omega
  · injection h1 with e1 e2 e3
    subst e1; subst e3
    exact ⟨g, rfl, h2, (hl g rfl).2, h4, h5⟩
theorem heap_1 (w : World) (o1 o2 : Obj) : ((w.alloc o1).alloc o2).heap[w.heap.size]? = some o1 := by
  exact ((Ext.refl (w.alloc o1)).alloc o2).heap (heap_alloc_new w o1)
theorem own_set_other {w : World} {B e sz n : Nat} {v : Value} {xs : List Value} (h : w.ownsRow B e sz v n xs) {p : Addr} (hp : v.ownBlock ≠ some p.block) (u : Value) : (w.setCell p u).ownsRow B e sz v n xs := ownsRow_setCell_other h hp u
theorem hid {p : Prop} (h : p) : Hid p := h
theorem own_ne {w : World} {B e sz n g : Nat} {v : Value} {xs : List Value} {cur : Array Value} {e' : TypeId} {fr : Nat × Nat} (h : w.ownsRow B e sz v n xs) (hg : w.heap[g]? = some (.cells cur e' fr)) (hne : e ≠ e') : v.ownBlock ≠ some g := by
  rcases h.2 with ⟨rfl, _⟩ | ⟨g', cap, cur', rfl, _, hg', _⟩
  · simp [Value.ownBlock]
  · intro hh
    simp [Value.ownBlock] at hh
    subst hh
    rw [hg] at hg'
    injection hg' with hg'
    injection hg' with _ h2 _
    exact hne h2.symm
theorem own_heap {w : World} {B e sz n c g : Nat} {xs : List Value} (h : w.ownsRow B e sz (.slice (some ⟨g, 0, none⟩) n c) n xs) : ∃ cur, w.heap[g]? = some (.cells cur e (0, 0)) := by
  rcases h.2 with ⟨h1, _⟩ | ⟨g', cap, cur', h1, _, hg', _⟩
  · cases h1
  · injection h1 with e1; injection e1 with e1; injection e1 with e1; subst e1; exact ⟨cur', hg'⟩
theorem heap_set_far {w : World} {p : Addr} {u : Value} {k : Nat} {o : Obj} (h : w.heap[k]? = some o) (hp : k ≠ p.block) : (w.setCell p u).heap[k]? = some o := (Below.heap_setCell _ _ _ _ hp).trans h
theorem cells_of {w : World} {b : Nat} {xs : List Value} {t : TypeId} (h : w.heap[b]? = some (.cells xs.toArray t (0, 0))) (j : Nat) (u : Value) (hu : xs[j]? = some u) : w.cell? ⟨b, j, none⟩ = some u := by
  simp [World.cell?, h, hu]
theorem grown_heap {w w' : World} {row : Option Nat} (hg : w.grownBy w' row) {k : Nat} {o : Obj} (h : w.heap[k]? = some o) (hne : row ≠ some k) : w'.heap[k]? = some o :=
  (hg.block k (Array.getElem?_eq_some_iff.1 h).1 (fun e => hne e.symm)).trans h
theorem grown_own {w w' : World} {row : Option Nat} {B e sz n : Nat} {v : Value} {xs : List Value} (hg : w.grownBy w' row) (h : w.ownsRow B e sz v n xs) (hne : v.ownBlock = none ∨ v.ownBlock ≠ row) : w'.ownsRow B e sz v n xs := h.kept hg hne
/-- two rows of unlike elements lie in unlike blocks -/
theorem own_own_ne {w : World} {B B' e e' sz sz' n n' : Nat} {v v' : Value} {xs xs' : List Value} (h : w.ownsRow B e sz v n xs) (h' : w.ownsRow B' e' sz' v' n' xs') (hne : e ≠ e') : v.ownBlock = none ∨ v.ownBlock ≠ v'.ownBlock := by
  rcases h'.2 with ⟨rfl, _⟩ | ⟨g, cap, cur, rfl, _, hg, _⟩
  · cases h0 : v.ownBlock with
    | none => exact .inl rfl
    | some k => right; simp [Value.ownBlock]
  · exact .inr (own_ne h hg hne)
theorem seg_blk {w : World} {b sz n c : Nat} {xs : List Value} {t : TypeId} (h : w.heap[b]? = some (.cells xs.toArray t (0, 0))) (hl : xs.length = n * sz) (hc : n ≤ c) (hm : c ≤ maxLen) : Seg w (.slice (some ⟨b, 0, none⟩) n c) sz n xs :=
  ⟨hl, _, _, rfl, hc, hm, fun _ => ⟨b, 0, rfl, fun j u hu => by rw [Nat.zero_add]; exact cells_of h j u hu⟩⟩
theorem seg_one {w : World} {b : Nat} {u : Value} {t : TypeId} (h : w.heap[b]? = some (.cells #[u] t (0, 0))) : Seg w (.slice (some ⟨b, 0, none⟩) 1 1) 1 1 [u] :=
  seg_blk (xs := [u]) h rfl (Nat.le_refl _) (by simp [maxLen])
theorem rB {a b : Bool} (h : a = b) : Ending.returned (.bool a) = .returned (.bool b) := by rw [h]
theorem rI {k : IntKind} {a b : Int} (h : a = b) : Ending.returned (.int k a) = .returned (.int k b) := by rw [h]
theorem rT2 {a a' b b' : Value} (h : a = a') (h' : b = b') : Ending.returned (.tuple #[a, b]) = .returned (.tuple #[a', b']) := by rw [h, h']
theorem vB {a b : Bool} (h : a = b) : Value.bool a = Value.bool b := by rw [h]
theorem vI {k : IntKind} {a b : Int} (h : a = b) : Value.int k a = Value.int k b := by rw [h]
end Go.Proofs.YtddghaoejnbkaaaDoor
