/- Contracts and lemmas for the proof of MergeGrows; each theorem states its own conditions. -/
import Derived.WalkKit
import Derived.Laws.AppendOwnNone
import Derived.Deep.Draws
import Derived.WalkLawsBesides
set_option linter.unusedVariables false
set_option linter.unusedSimpArgs false
/- Generic lemmas on worlds, slices and owned rows; no program is named. -/
namespace Go.Proofs.Ytijcckhkofkenaa
open Go.RowKit

/-- w' is w, grown: nothing that was there has turned -/
def Ext (w w' : World) : Prop := Below w.heap.size w w'
theorem Ext.refl (w : World) : Ext w w := Below.refl _ _
theorem Ext.trans {a b c : World} (h : Ext a b) (k : Ext b c) : Ext a c := Below.trans h (Below.mono k h.size)
theorem Ext.drewN {a b : World} (h : Ext a b) (n : Nat) : Ext a (b.drewN n) := Below.trans h ⟨rfl, rfl, rfl, Nat.le_refl _, fun _ _ => rfl⟩
theorem Ext.drew {a b : World} (h : Ext a b) : Ext a b.drew := Below.drew h
theorem Ext.alloc {a b : World} (h : Ext a b) (o : Obj) : Ext a (b.alloc o) := Below.alloc h h.size o
theorem Ext.setCell {a b : World} (h : Ext a b) {p : Addr} (hp : a.heap.size ≤ p.block) (u : Value) : Ext a (b.setCell p u) := Below.setCell h hp u
theorem Ext.grown {a b c : World} (h : Ext a b) {row : Option Nat} (hg : b.grownBy c row) (hr : ∀ k, row = some k → a.heap.size ≤ k) : Ext a c := Below.grown h hg h.size hr
theorem Ext.cell {a b : World} (h : Ext a b) {p : Addr} {v : Value} (hp : a.cell? p = some v) : b.cell? p = some v := (Below.cell h (World.block_lt_of_cell? a p hp)).trans hp
theorem Ext.size' {a b : World} (h : Ext a b) : a.heap.size ≤ b.heap.size := Below.size h
theorem Ext.heap {a b : World} (h : Ext a b) {k : Nat} {o : Obj} (hk : a.heap[k]? = some o) : b.heap[k]? = some o := (Below.block h k (Array.getElem?_eq_some_iff.1 hk).1).trans hk

/-- v is a slice of n elements of sz cells, whose cells are xs -/
def Seg (w : World) (v : Value) (sz n : Nat) (xs : List Value) : Prop :=
  xs.length = n * sz ∧ ∃ a cap, v = .slice a n cap ∧ n ≤ cap ∧ cap ≤ maxLen ∧
    (0 < n → ∃ b off, a = some ⟨b, off, none⟩ ∧ ∀ j u, xs[j]? = some u → w.cell? ⟨b, off + j, none⟩ = some u)

theorem Seg.ext {w w' : World} {v : Value} {sz n : Nat} {xs : List Value} (h : Seg w v sz n xs) (k : Ext w w') : Seg w' v sz n xs := by
  obtain ⟨h0, a, cap, h1, h2, h3, h4⟩ := h
  refine ⟨h0, a, cap, h1, h2, h3, fun hn => ?_⟩
  obtain ⟨b, off, h5, h6⟩ := h4 hn
  exact ⟨b, off, h5, fun j u hu => k.cell (h6 j u hu)⟩

theorem Seg.nil (w : World) (sz : Nat) : Seg w (.slice none 0 0) sz 0 [] := ⟨by simp, none, 0, rfl, Nat.le_refl _, by simp [maxLen], fun h => absurd h (by omega)⟩

theorem own_seg {w : World} {B e sz n : Nat} {v : Value} {xs : List Value} (h : w.ownsRow B e sz v n xs) : Seg w v sz n xs := by
  have hc := h
  obtain ⟨h0, h1⟩ := h
  refine ⟨h0, ?_⟩
  rcases h1 with ⟨rfl, rfl⟩ | ⟨g, cap, cur, rfl, hb, hg, hn, hm, hs, ht⟩
  · exact ⟨none, 0, rfl, Nat.le_refl _, by simp [maxLen], fun h => absurd h (by omega)⟩
  · refine ⟨some ⟨g, 0, none⟩, cap, rfl, hn, hm, fun _ => ⟨g, 0, rfl, fun j u hu => ?_⟩⟩
    have hj : j < n * sz := by
      have := (List.getElem?_eq_some_iff.1 hu).1
      omega
    have := hc.cellAt j hj
    rw [Nat.zero_add, this, hu]

theorem own_ext {w w' : World} {B e sz n : Nat} {v : Value} {xs : List Value} (h : w.ownsRow B e sz v n xs) (k : Ext w w') : w'.ownsRow B e sz v n xs := by
  refine ⟨h.1, ?_⟩
  rcases h.2 with hn | ⟨g, cap, cur, rfl, hb, hg, rest⟩
  · exact .inl hn
  · exact .inr ⟨g, cap, cur, rfl, hb, k.heap hg, rest⟩

theorem own_base {w : World} {B B' e sz n : Nat} {v : Value} {xs : List Value} (h : w.ownsRow B e sz v n xs) (k : B' ≤ B) : w.ownsRow B' e sz v n xs := by
  refine ⟨h.1, ?_⟩
  rcases h.2 with hn | ⟨g, cap, cur, rfl, hb, rest⟩
  · exact .inl hn
  · exact .inr ⟨g, cap, cur, rfl, by omega, rest⟩

theorem own_ge {w : World} {B e sz n : Nat} {v : Value} {xs : List Value} (h : w.ownsRow B e sz v n xs) : ∀ k, v.ownBlock = some k → B ≤ k := fun k hk => (h.lt k hk).1


theorem addr_add (b off j : Nat) : (⟨b, off, none⟩ : Addr).add j = ⟨b, off + j, none⟩ := by
  unfold Addr.add
  split
  · rename_i h; subst h; rfl
  · rfl

/-- append(own row, whatever slice that reads as news) -/
theorem wpList_app {P : Program} {w : World} {ops : Array Oper} {rest : List Oper} {o : Oper} {a : Act} {Q : Exit → Act → World → Prop} (hgd : o.guard = none) (s x : Operand) (t : TypeId)
    (ho : o.op = .call { callee := .builtin .append, args := #[s, x], argTypes := #[t, t] })
    (base : Nat) (e : TypeId) (z : Value) (size bytes : Nat) (ht : P.underlying t = some (.slice e))
    (hinfo : (P.info? e).map (fun i => (i.zero, i.size, i.bytes)) = some (some z, size, bytes)) (hzs : z.cells.size = size) (hsz : 0 < size)
    (v : Value) (n : Nat) (xs : List Value) (hs : a.eval s = v) (hown : w.ownsRow base e size v n xs)
    (xv : Value) (m : Nat) (news : List Value) (hx : a.eval x = xv) (hseg : Seg w xv size m news) (h1 : ∀ u ∈ news, u.oneCell' = true)
    (hbytes : (n + m) * bytes ≤ 140737488355328) (h63 : n + m ≤ maxLen) (hbase : base ≤ w.heap.size)
    (h : ∀ v' w', w'.ownsRow base e size v' (n + m) (xs ++ news) → w.grownBy w' v.ownBlock → wpList P ops Q rest (a.put o.dst v') w') : wpList P ops Q (o :: rest) a w := by
  obtain ⟨i, hi, hz0, hz1, hz2⟩ := info_parts hinfo
  obtain ⟨hl, ad, cap, rfl, hc1, hc2, hc3⟩ := hseg
  cases ad with
  | none =>
    have hm : m = 0 := by
      rcases Nat.eq_zero_or_pos m with h | h
      · exact h
      · obtain ⟨b, off, hh, _⟩ := hc3 h; cases hh
    subst hm
    have hn : news = [] := List.eq_nil_of_length_eq_zero (by simpa using hl)
    subst hn
    refine wpList_plain hgd fun K hK => ?_
    have hrun : (Builtin.append_ #[t, t] o.type #[v, .slice none 0 cap]).run P w = .ok v w := by
      have hown' := hown
      obtain ⟨g0, g1⟩ := hown'
      rcases g1 with ⟨rfl, rfl⟩ | ⟨g, cap', cur, rfl, g2, g3, g4, g5, g6, g7⟩
      · simp [Builtin.append_, run_underlying ht, sizeOf, typeInfo, hi, Builtin.lenOf, Builtin.firstCells]
      · simp [Builtin.append_, run_underlying ht, sizeOf, typeInfo, hi, Builtin.lenOf, Builtin.firstCells, loadCells, storeCells, g4]
    unfold Oper.wp
    simp [execOp, ho, resolve, invoke, builtin, hs, hx, hrun, Result.andThen]
    exact hK _ _ (h v w (by simpa using hown) (World.grownBy.refl _ _))
  | some ad =>
    refine wpList_append_own _ hgd s x t ho base e i z size bytes ht hi hz0 hz1 hz2 hzs hsz v n xs hs hown ad m cap news hx hl ?_ h1 h63 hbytes hbase fun v' w' a1 a2 _ => h v' w' a1 a2
    intro j u hu
    have hm : 0 < m := by
      rcases Nat.eq_zero_or_pos m with h | h
      · subst h
        have hn : news = [] := List.eq_nil_of_length_eq_zero (by simpa using hl)
        subst hn; simp at hu
      · exact h
    obtain ⟨b, off, hh, h6⟩ := hc3 hm
    injection hh with hh
    subst hh
    rw [addr_add]
    exact h6 j u hu

theorem seg_none {w : World} {sz n cap : Nat} {xs : List Value} (h : Seg w (.slice none n cap) sz n xs) : n = 0 ∧ xs = [] := by
  obtain ⟨h0, a, c, h1, h2, h3, h4⟩ := h
  injection h1 with e1 e2 e3
  subst e1
  have hn : n = 0 := by
    rcases Nat.eq_zero_or_pos n with h | h
    · exact h
    · obtain ⟨b, off, hh, _⟩ := h4 h; cases hh
  subst hn
  exact ⟨rfl, List.eq_nil_of_length_eq_zero (by simpa using h0)⟩
theorem own_form {w : World} {B e sz n : Nat} {v : Value} {xs : List Value} (h : w.ownsRow B e sz v n xs) : ∃ a c, v = .slice a n c := by
  rcases h.2 with ⟨rfl, rfl⟩ | ⟨g, cap, cur, rfl, _⟩
  · exact ⟨none, 0, rfl⟩
  · exact ⟨_, _, rfl⟩
theorem seg_form {w : World} {v : Value} {sz n : Nat} {xs : List Value} (h : Seg w v sz n xs) : ∃ a c, v = .slice a n c := by
  obtain ⟨h0, a, c, h1, _⟩ := h
  exact ⟨a, c, h1⟩
theorem blk2 {w : World} {b : Nat} {x y : Value} {t : TypeId} (h : w.heap[b]? = some (.cells #[x, y] t (0, 0))) : w.cell? ⟨b, 0, none⟩ = some x ∧ w.cell? ⟨b, 1, none⟩ = some y ∧ w.frozen? ⟨b, 0, none⟩ = false ∧ w.frozen? ⟨b, 1, none⟩ = false := by
  simp [World.cell?, World.frozen?, h]
theorem heap_2 (w : World) (o1 o2 : Obj) : ((w.alloc o1).alloc o2).heap[w.heap.size + 1]? = some o2 := by
  have := heap_alloc_new (w.alloc o1) o2
  simpa using this
theorem cell_set_far {w : World} {p a : Addr} {u v : Value} (h : w.cell? a = some u) (hp : p.block ≠ a.block) : (w.setCell p v).cell? a = some u :=
  (World.cell?_of_block (w := w) (Below.heap_setCell _ _ _ _ (fun e => hp e.symm))).trans h
theorem keep2 {w w1 w2 : World} {a b : Addr} {u v : Value} (h : w1.cell? a = some u ∧ w1.cell? b = some v ∧ Ext w w1) (k : Ext w1 w2) : w2.cell? a = some u ∧ w2.cell? b = some v ∧ Ext w w2 := ⟨k.cell h.1, k.cell h.2.1, h.2.2.trans k⟩
theorem keep2s {w w1 : World} {a b p : Addr} {u v x : Value} (h : w1.cell? a = some u ∧ w1.cell? b = some v ∧ Ext w w1) (ha : p.block ≠ a.block) (hb : p.block ≠ b.block) (hw : w.heap.size ≤ p.block) :
    (w1.setCell p x).cell? a = some u ∧ (w1.setCell p x).cell? b = some v ∧ Ext w (w1.setCell p x) :=
  ⟨cell_set_far h.1 ha, cell_set_far h.2.1 hb, h.2.2.setCell hw x⟩
theorem own_set_far {w : World} {B e sz n : Nat} {v : Value} {xs : List Value} (h : w.ownsRow B e sz v n xs) {p : Addr} {u : Value} (hp : p.block < B) : (w.setCell p u).ownsRow B e sz v n xs := ownsRow_setCell_below h hp u
theorem blk2_set2 {w : World} {b : Nat} {x y u v : Value} {t : TypeId} (h : w.heap[b]? = some (.cells #[x, y] t (0, 0))) : ((w.setCell ⟨b, 0, none⟩ u).setCell ⟨b, 1, none⟩ v).heap[b]? = some (.cells #[u, v] t (0, 0)) := by
  simp [World.setCell, Array.getElem?_modify, h]
theorem blk2_set0 {w : World} {b : Nat} {x y : Value} {t : TypeId} (h : w.heap[b]? = some (.cells #[x, y] t (0, 0))) (u : Value) : (w.setCell ⟨b, 0, none⟩ u).heap[b]? = some (.cells #[u, y] t (0, 0)) := by
  simp [World.setCell, Array.getElem?_modify, h]
theorem blk2_set1 {w : World} {b : Nat} {x y : Value} {t : TypeId} (h : w.heap[b]? = some (.cells #[x, y] t (0, 0))) (u : Value) : (w.setCell ⟨b, 1, none⟩ u).heap[b]? = some (.cells #[x, u] t (0, 0)) := by
  simp [World.setCell, Array.getElem?_modify, h]
theorem own_set2 {w : World} {B e sz n : Nat} {v : Value} {xs : List Value} (h : w.ownsRow B e sz v n xs) {p q : Addr} {u u' : Value} (hp : p.block < B) (hq : q.block < B) : ((w.setCell p u).setCell q u').ownsRow B e sz v n xs := own_set_far (own_set_far h hp) hq
theorem cell1 {w : World} {a : Addr} {v : Value} (h : w.cell? a = some v) : ∀ o, (w.alloc o).cell? a = some v := fun o => ((Ext.refl w).alloc o).cell h
theorem cell2 {w : World} {a : Addr} {v : Value} (h : w.cell? a = some v) : ∀ o o', ((w.alloc o).alloc o').cell? a = some v := fun o o' => (((Ext.refl w).alloc o).alloc o').cell h
theorem seg_cells {w : World} {a : Option Addr} {sz n n' c : Nat} {xs : List Value} (h : Seg w (.slice a n' c) sz n xs) (hn : 0 < n) :
    ∃ b off, a = some ⟨b, off, none⟩ ∧ n' = n ∧ n ≤ c ∧ c ≤ maxLen ∧ ∀ j u, xs[j]? = some u → w.cell? ⟨b, off + j, none⟩ = some u := by
  obtain ⟨h0, a', c', h1, h2, h3, h4⟩ := h
  injection h1 with e1 e2 e3
  subst e1; subst e2; subst e3
  obtain ⟨b, off, h5, h6⟩ := h4 hn
  exact ⟨b, off, h5, rfl, h2, h3, h6⟩
theorem rS {a b : ByteArray} (h : a = b) : Ending.returned (.string a) = .returned (.string b) := by rw [h]
theorem vS {a b : ByteArray} (h : a = b) : Value.string a = Value.string b := by rw [h]
theorem own_pos {w : World} {B e sz n c : Nat} {a : Option Addr} {xs : List Value} (h : w.ownsRow B e sz (.slice a n c) n xs) (hn : 0 < n) : ∃ g, a = some ⟨g, 0, none⟩ ∧ B ≤ g ∧ g < w.heap.size ∧ n ≤ c ∧ c ≤ maxLen := by
  have hl := h.lt
  rcases h.2 with ⟨h1, h2⟩ | ⟨g, cap, cur, h1, h2, h3, h4, h5, _⟩
  · omega
  · injection h1 with e1 e2 e3
    subst e1; subst e3
    exact ⟨g, rfl, h2, (hl g rfl).2, h4, h5⟩
theorem heap_1 (w : World) (o1 o2 : Obj) : ((w.alloc o1).alloc o2).heap[w.heap.size]? = some o1 := by
  exact ((Ext.refl (w.alloc o1)).alloc o2).heap (heap_alloc_new w o1)
theorem own_set_other {w : World} {B e sz n : Nat} {v : Value} {xs : List Value} (h : w.ownsRow B e sz v n xs) {p : Addr} (hp : v.ownBlock ≠ some p.block) (u : Value) : (w.setCell p u).ownsRow B e sz v n xs := ownsRow_setCell_other h hp u
theorem hid {p : Prop} (h : p) : Hid p := h
theorem frz1 {w : World} {a : Addr} {v : Value} (h : w.cell? a = some v) (hf : w.frozen? a = false) : ∀ o, (w.alloc o).frozen? a = false := fun o =>
  (Below.frozen ((Ext.refl w).alloc o) (World.block_lt_of_cell? w a h)).trans hf
theorem own_ne {w : World} {B e sz n g : Nat} {v : Value} {xs : List Value} {cur : Array Value} {e' : TypeId} {fr : Nat × Nat} (h : w.ownsRow B e sz v n xs) (hg : w.heap[g]? = some (.cells cur e' fr)) (hne : e ≠ e') : v.ownBlock ≠ some g := by
  rcases h.2 with ⟨rfl, _⟩ | ⟨g', cap, cur', rfl, _, hg', _⟩
  · simp [Value.ownBlock]
  · intro hh
    simp [Value.ownBlock] at hh
    subst hh
    rw [hg] at hg'
    injection hg' with hg'
    injection hg' with _ h2 _
    exact hne h2.symm
theorem own_heap {w : World} {B e sz n c g : Nat} {xs : List Value} (h : w.ownsRow B e sz (.slice (some ⟨g, 0, none⟩) n c) n xs) : ∃ cur, w.heap[g]? = some (.cells cur e (0, 0)) := by
  rcases h.2 with ⟨h1, _⟩ | ⟨g', cap, cur', h1, _, hg', _⟩
  · cases h1
  · injection h1 with e1; injection e1 with e1; injection e1 with e1; subst e1; exact ⟨cur', hg'⟩
theorem heap_set_far {w : World} {p : Addr} {u : Value} {k : Nat} {o : Obj} (h : w.heap[k]? = some o) (hp : k ≠ p.block) : (w.setCell p u).heap[k]? = some o := (Below.heap_setCell _ _ _ _ hp).trans h
theorem heap_alloc4 (w : World) (o1 o2 o3 o4 : Obj) : let W := (((w.alloc o1).alloc o2).alloc o3).alloc o4
    W.heap[w.heap.size]? = some o1 ∧ W.heap[w.heap.size + 1]? = some o2 ∧ W.heap[w.heap.size + 1 + 1]? = some o3 ∧ W.heap[w.heap.size + 1 + 1 + 1]? = some o4 := by
  have e1 := heap_alloc_new w o1
  have e2 := heap_alloc_new (w.alloc o1) o2
  have e3 := heap_alloc_new ((w.alloc o1).alloc o2) o3
  have e4 := heap_alloc_new (((w.alloc o1).alloc o2).alloc o3) o4
  simp only [World.size_alloc] at e2 e3 e4
  exact ⟨(((Ext.refl _).alloc o2 |>.alloc o3).alloc o4).heap e1, (((Ext.refl _).alloc o3).alloc o4).heap e2, ((Ext.refl _).alloc o4).heap e3, e4⟩
theorem cells_of {w : World} {b : Nat} {xs : List Value} {t : TypeId} (h : w.heap[b]? = some (.cells xs.toArray t (0, 0))) (j : Nat) (u : Value) (hu : xs[j]? = some u) : w.cell? ⟨b, j, none⟩ = some u := by
  simp [World.cell?, h, hu]
theorem grown_heap {w w' : World} {row : Option Nat} (hg : w.grownBy w' row) {k : Nat} {o : Obj} (h : w.heap[k]? = some o) (hne : row ≠ some k) : w'.heap[k]? = some o :=
  (hg.block k (Array.getElem?_eq_some_iff.1 h).1 (fun e => hne e.symm)).trans h
theorem grown_own {w w' : World} {row : Option Nat} {B e sz n : Nat} {v : Value} {xs : List Value} (hg : w.grownBy w' row) (h : w.ownsRow B e sz v n xs) (hne : v.ownBlock = none ∨ v.ownBlock ≠ row) : w'.ownsRow B e sz v n xs := h.kept hg hne
theorem grown_seg {w w' : World} {row : Option Nat} {sz n c b off : Nat} {xs : List Value} (hg : w.grownBy w' row) (h : Seg w (.slice (some ⟨b, off, none⟩) n c) sz n xs) (hne : row ≠ some b) : Seg w' (.slice (some ⟨b, off, none⟩) n c) sz n xs := by
  obtain ⟨h0, a, cap, h1, h2, h3, h4⟩ := h
  injection h1 with e1 e2 e3
  subst e1; subst e3
  refine ⟨h0, _, _, rfl, h2, h3, fun hn => ?_⟩
  obtain ⟨b', off', e, h5⟩ := h4 hn
  injection e with e; injection e with e1 e2
  subst e1; subst e2
  exact ⟨_, _, rfl, fun j u hu => hg.cell (h5 j u hu) (fun e => hne e.symm)⟩
/-- two rows of unlike elements lie in unlike blocks -/
theorem own_own_ne {w : World} {B B' e e' sz sz' n n' : Nat} {v v' : Value} {xs xs' : List Value} (h : w.ownsRow B e sz v n xs) (h' : w.ownsRow B' e' sz' v' n' xs') (hne : e ≠ e') : v.ownBlock = none ∨ v.ownBlock ≠ v'.ownBlock := by
  rcases h'.2 with ⟨rfl, _⟩ | ⟨g, cap, cur, rfl, _, hg, _⟩
  · cases h0 : v.ownBlock with
    | none => exact .inl rfl
    | some k => right; simp [Value.ownBlock]
  · exact .inr (own_ne h hg hne)
theorem seg_blk {w : World} {b sz n c : Nat} {xs : List Value} {t : TypeId} (h : w.heap[b]? = some (.cells xs.toArray t (0, 0))) (hl : xs.length = n * sz) (hc : n ≤ c) (hm : c ≤ maxLen) : Seg w (.slice (some ⟨b, 0, none⟩) n c) sz n xs :=
  ⟨hl, _, _, rfl, hc, hm, fun _ => ⟨b, 0, rfl, fun j u hu => by rw [Nat.zero_add]; exact cells_of h j u hu⟩⟩
theorem keep4 {w w1 w2 : World} {a b c d : Addr} {u v x y : Value} (h : w1.cell? a = some u ∧ w1.cell? b = some v ∧ w1.cell? c = some x ∧ w1.cell? d = some y ∧ Ext w w1) (k : Ext w1 w2) :
    w2.cell? a = some u ∧ w2.cell? b = some v ∧ w2.cell? c = some x ∧ w2.cell? d = some y ∧ Ext w w2 := ⟨k.cell h.1, k.cell h.2.1, k.cell h.2.2.1, k.cell h.2.2.2.1, h.2.2.2.2.trans k⟩
theorem keep4s {w w1 : World} {a b c d p : Addr} {u v x y z : Value} (h : w1.cell? a = some u ∧ w1.cell? b = some v ∧ w1.cell? c = some x ∧ w1.cell? d = some y ∧ Ext w w1)
    (hp : p.block ≠ a.block ∧ p.block ≠ b.block ∧ p.block ≠ c.block ∧ p.block ≠ d.block ∧ w.heap.size ≤ p.block) :
    (w1.setCell p z).cell? a = some u ∧ (w1.setCell p z).cell? b = some v ∧ (w1.setCell p z).cell? c = some x ∧ (w1.setCell p z).cell? d = some y ∧ Ext w (w1.setCell p z) :=
  ⟨cell_set_far h.1 hp.1, cell_set_far h.2.1 hp.2.1, cell_set_far h.2.2.1 hp.2.2.1, cell_set_far h.2.2.2.1 hp.2.2.2.1, h.2.2.2.2.setCell hp.2.2.2.2 z⟩
theorem seg_one {w : World} {b : Nat} {u : Value} {t : TypeId} (h : w.heap[b]? = some (.cells #[u] t (0, 0))) : Seg w (.slice (some ⟨b, 0, none⟩) 1 1) 1 1 [u] :=
  seg_blk (xs := [u]) h rfl (Nat.le_refl _) (by simp [maxLen])
theorem rB {a b : Bool} (h : a = b) : Ending.returned (.bool a) = .returned (.bool b) := by rw [h]
theorem rI {k : IntKind} {a b : Int} (h : a = b) : Ending.returned (.int k a) = .returned (.int k b) := by rw [h]
theorem rT2 {a a' b b' : Value} (h : a = a') (h' : b = b') : Ending.returned (.tuple #[a, b]) = .returned (.tuple #[a', b']) := by rw [h, h']
theorem vB {a b : Bool} (h : a = b) : Value.bool a = Value.bool b := by rw [h]
theorem vI {k : IntKind} {a b : Int} (h : a = b) : Value.int k a = Value.int k b := by rw [h]
end Go.Proofs.Ytijcckhkofkenaa

/- Contracts and lemmas for the proofs of this seat; each theorem states its own conditions. -/
namespace Go.Proofs.Ytijcckhkofkenaa
open Go.RowKit
/-! frames of things that turn: only what S names may turn; what it names later is of S, or new -/
def Kp (S : Nat → Prop) (w w' : World) (S' : Nat → Prop) : Prop :=
  (w'.os = w.os ∧ w'.tape = w.tape ∧ w'.output = w.output ∧ w.heap.size ≤ w'.heap.size) ∧
  (∀ i, i < w.heap.size → ¬ S i → w'.heap[i]? = w.heap[i]?) ∧ ∀ i, S' i → S i ∨ w.heap.size ≤ i
theorem Kp.of_ext {S : Nat → Prop} {w w' : World} (E : Ext w w') : Kp S w w' S := ⟨⟨E.os, E.tape, E.output, E.size'⟩, fun i hi _ => Below.block E i hi, fun i h => .inl h⟩
theorem Kp.refl (S : Nat → Prop) (w : World) : Kp S w w S := Kp.of_ext (Ext.refl w)
theorem Kp.size {S S' : Nat → Prop} {w w' : World} (h : Kp S w w' S') : w.heap.size ≤ w'.heap.size := h.1.2.2.2
theorem Kp.out {S S' : Nat → Prop} {w w' : World} (h : Kp S w w' S') {k : Nat} (hk : k < w.heap.size) (hS : ¬ S k) : ¬ S' k := fun q => by
  rcases h.2.2 k q with a | a
  · exact hS a
  · omega
theorem Kp.trans {S S' S'' : Nat → Prop} {a b c : World} (h : Kp S a b S') (k : Kp S' b c S'') : Kp S a c S'' := by
  have ho := fun i => h.out (k := i)
  obtain ⟨⟨h1, h2, h3, h4⟩, h5, h6⟩ := h
  obtain ⟨⟨k1, k2, k3, k4⟩, k5, k6⟩ := k
  refine ⟨⟨k1.trans h1, k2.trans h2, k3.trans h3, Nat.le_trans h4 k4⟩, fun i hi hS => ?_, fun i hi => ?_⟩
  · rw [k5 i (by omega) (ho i hi hS), h5 i hi hS]
  · rcases k6 i hi with q | q
    · exact h6 i q
    · right; omega
theorem Kp.ext {S S' : Nat → Prop} {a b c : World} (h : Kp S a b S') (E : Ext b c) : Kp S a c S' := h.trans (Kp.of_ext E)
theorem Kp.after {S S' : Nat → Prop} {a b c : World} (E : Ext a b) (h : Kp S b c S') : Kp S a c S' := (Kp.of_ext E).trans h
theorem Kp.heap {S S' : Nat → Prop} {w w' : World} (h : Kp S w w' S') {k : Nat} {o : Obj} (hk : w.heap[k]? = some o) (hS : ¬ S k) : w'.heap[k]? = some o := (h.2.1 k (Array.getElem?_eq_some_iff.1 hk).1 hS).trans hk
/-- v lies in none of S -/
def Off (S : Nat → Prop) (v : Value) : Prop := ∀ k, v.ownBlock = some k → ¬ S k
theorem Kp.own {S S' : Nat → Prop} {w w' : World} (h : Kp S w w' S') {B e sz n : Nat} {v : Value} {xs : List Value} (ho : w.ownsRow B e sz v n xs) (hS : Off S v) : w'.ownsRow B e sz v n xs := by
  refine ⟨ho.1, ?_⟩
  rcases ho.2 with hn | ⟨b, cap, cur, rfl, hb, hg, rest⟩
  · exact .inl hn
  · exact .inr ⟨b, cap, cur, rfl, hb, h.heap hg (hS b rfl), rest⟩
theorem Kp.off {S S' : Nat → Prop} {w w' : World} (h : Kp S w w' S') {B e sz n : Nat} {v : Value} {xs : List Value} (ho : w.ownsRow B e sz v n xs) (hS : Off S v) : Off S' v := fun k hk => h.out (ho.lt k hk).2 (hS k hk)
/-- below all that turns nothing turns -/
theorem Kp.low {S S' : Nat → Prop} {w0 w w' : World} (h : Kp S w w' S') (E : Ext w0 w) (hS : ∀ i, S i → w0.heap.size ≤ i) : Ext w0 w' ∧ ∀ i, S' i → w0.heap.size ≤ i := by
  obtain ⟨⟨h1, h2, h3, h4⟩, h5, h6⟩ := h
  have hs := E.size'
  refine ⟨⟨h1.trans E.os, h2.trans E.tape, h3.trans E.output, by omega, fun i hi => ?_⟩, fun i hi => ?_⟩
  · rw [h5 i (by omega) (fun q => by have := hS i q; omega)]
    exact Below.block E i hi
  · rcases h6 i hi with q | q
    · exact hS i q
    · omega
theorem Kp.wide {S S' S'' : Nat → Prop} {w w' : World} (h : Kp S w w' S') (k : ∀ i, S'' i → S' i ∨ w.heap.size ≤ i) : Kp S w w' S'' := ⟨h.1, h.2.1, fun i hi => by
  rcases k i hi with q | q
  · exact h.2.2 i q
  · exact .inr q⟩
theorem Kp.of_grown {S : Nat → Prop} {w w' : World} {row : Option Nat} (hg : w.grownBy w' row) (hr : ∀ k, row = some k → S k) : Kp S w w' S :=
  ⟨⟨hg.os, hg.tape, hg.output, hg.size⟩, fun i hi hS => hg.block i hi (fun e => hS (hr i e.symm)), fun i h => .inl h⟩
theorem grown_set (w : World) (g i : Nat) (u : Value) : w.grownBy (w.setCell ⟨g, i, none⟩ u) (some g) := ⟨rfl, rfl, rfl, by simp [World.setCell], fun j hj hne => by
    have : g ≠ j := fun e => hne (by rw [e])
    simp [World.setCell, Array.getElem?_modify, this]⟩
theorem Kp.put {S S' : Nat → Prop} {w0 w : World} (h : Kp S w0 w S') {b i : Nat} (hS : S' b) (u : Value) : Kp S w0 (w.setCell ⟨b, i, none⟩ u) S' :=
  h.trans (Kp.of_grown (grown_set w b i u) (fun k e => by injection e with e; subst e; exact hS))
/-- what S names has elements of these types -/
def TyS (w : World) (S : Nat → Prop) (T : List Nat) : Prop := ∀ k, S k → ∃ cs e, w.heap[k]? = some (.cells cs e (0, 0)) ∧ e ∈ T
theorem TyS.lt {w : World} {S : Nat → Prop} {T : List Nat} (h : TyS w S T) {k : Nat} (hk : S k) : k < w.heap.size := by
  obtain ⟨_, _, h, _⟩ := h k hk
  exact (Array.getElem?_eq_some_iff.1 h).1
theorem TyS.off {w : World} {S : Nat → Prop} {T : List Nat} (h : TyS w S T) {B e sz n : Nat} {v : Value} {xs : List Value} (ho : w.ownsRow B e sz v n xs) (he : e ∉ T) : Off S v := fun k hk hS => by
  obtain ⟨cs, e', hg, hm⟩ := h k hS
  exact own_ne ho hg (fun q => he (q ▸ hm)) hk
theorem TyS.ext {w w' : World} {S : Nat → Prop} {T : List Nat} (h : TyS w S T) (E : Ext w w') : TyS w' S T := fun k hk => by
  obtain ⟨cs, e, hg, hm⟩ := h k hk
  exact ⟨cs, e, E.heap hg, hm⟩
/-- new blocks are in none of S -/
theorem off_new {w : World} {S : Nat → Prop} {T : List Nat} (h : TyS w S T) {w' : World} {B e sz n : Nat} {v : Value} {xs : List Value} (ho : w'.ownsRow B e sz v n xs) (hB : w.heap.size ≤ B) : Off S v := fun k hk hS => by
  have := h.lt hS
  have := own_ge ho k hk
  omega
end Go.Proofs.Ytijcckhkofkenaa

/- Contracts and lemmas for the proofs of this seat; each theorem states its own conditions. -/
namespace Go.Proofs.Ytijcckhkofkenaa
open Go.RowKit
example : DecidableEq ByteArray := inferInstance
/-- strings in order -/
def blt (a b : ByteArray) : Bool := Op.bytesLess a.toList b.toList
theorem toList_data (s : ByteArray) : s.toList = s.data.toList := ByteArray.toList_eq s
theorem size_toList (s : ByteArray) : s.toList.length = s.size := by rw [toList_data, Array.length_toList]; rfl
theorem toList_inj {a b : ByteArray} (h : a.toList = b.toList) : a = b := by
  rw [toList_data, toList_data] at h
  cases a with | mk a => cases b with | mk b => simp at h; simp [h]
/-- a letter -/
def letB (c : UInt8) : Bool := 97 ≤ c && c ≤ 122
/-- P3 -/
def keyB (s : ByteArray) : Bool := !s.toList.isEmpty && decide (s.size ≤ 6) && s.toList.all letB
theorem key_false1 {s : ByteArray} (h : s.toList = []) : keyB s = false := by simp [keyB, h]
theorem key_false2 {s : ByteArray} (h : 6 < (s.size : Int)) : keyB s = false := by
  have : ¬ s.size ≤ 6 := by omega
  simp [keyB, this]
theorem key_false3 {s : ByteArray} (k : Nat) (hk : k < s.size) (h : (s[k].toNat : Int) < 97 ∨ 122 < (s[k].toNat : Int)) : keyB s = false := by
  have : s.toList.all letB = false := by
    rw [List.all_eq_false]
    refine ⟨s[k], ?_, ?_⟩
    · rw [toList_data]; exact Array.getElem_mem_toList (xs := s.data) (by exact hk)
    · simp [letB, UInt8.le_iff_toNat_le]; omega
  simp [keyB, this]
/-- the first k bytes are letters -/
def letTo (s : ByteArray) (k : Nat) : Prop := ∀ j, (hj : j < s.size) → j < k → 97 ≤ (s[j].toNat : Int) ∧ (s[j].toNat : Int) ≤ 122
theorem letTo_zero (s : ByteArray) : letTo s 0 := fun j _ h => absurd h (by omega)
theorem letTo_step {s : ByteArray} {k : Nat} (h : letTo s k) (hk : k < s.size) (h1 : 97 ≤ (s[k].toNat : Int)) (h2 : (s[k].toNat : Int) ≤ 122) : letTo s (k + 1) := by
  intro j hj hjk
  rcases Nat.lt_succ_iff_lt_or_eq.1 hjk with h3 | h3
  · exact h j hj h3
  · subst h3; exact ⟨h1, h2⟩
theorem key_true {s : ByteArray} (h1 : ¬ s.toList = []) (h2 : (s.size : Int) ≤ 6) (h : letTo s s.size) : keyB s = true := by
  have h3 : s.size ≤ 6 := by omega
  have : s.toList.all letB = true := by
    rw [List.all_eq_true]
    intro c hc
    rw [toList_data, List.mem_iff_getElem] at hc
    obtain ⟨k, hk, rfl⟩ := hc
    have hk' : k < s.size := by simpa using hk
    have := h k hk' hk'
    have e : s.data.toList[k] = s[k]'(by simpa using hk) := rfl
    rw [e]
    simp [letB, UInt8.le_iff_toNat_le]; omega
  simp [keyB, this, h3]
  simpa using h1

/-! lists as cells -/
def cI (l : List Int) : List Value := l.map (Value.int .i64)
def cS (l : List ByteArray) : List Value := l.map Value.string
def cB (l : List Bool) : List Value := l.map Value.bool
def cP (l : List (ByteArray × Int)) : List Value := l.flatMap fun p => [.string p.1, .int .i64 p.2]
theorem cI_len (l : List Int) : (cI l).length = l.length := by simp [cI]
theorem cS_len (l : List ByteArray) : (cS l).length = l.length := by simp [cS]
theorem cB_len (l : List Bool) : (cB l).length = l.length := by simp [cB]
theorem cP_len (l : List (ByteArray × Int)) : (cP l).length = l.length * 2 := by
  induction l with
  | nil => rfl
  | cons a l ih => simp [cP] at ih ⊢; omega
theorem cP_at (l : List (ByteArray × Int)) (k : Nat) (hk : k < l.length) : (cP l)[k * 2]? = some (.string l[k].1) ∧ (cP l)[k * 2 + 1]? = some (.int .i64 l[k].2) := by
  induction l generalizing k with
  | nil => simp at hk
  | cons a l ih =>
    cases k with
    | zero => simp [cP]
    | succ k =>
      have := ih k (by simpa using hk)
      have e : (k + 1) * 2 = k * 2 + 1 + 1 := by omega
      simpa [cP, e] using this
theorem cI_one (l : List Int) : ∀ u ∈ cI l, u.oneCell' = true := by intro u hu; simp [cI] at hu; obtain ⟨a, _, rfl⟩ := hu; rfl
theorem cS_one (l : List ByteArray) : ∀ u ∈ cS l, u.oneCell' = true := by intro u hu; simp [cS] at hu; obtain ⟨a, _, rfl⟩ := hu; rfl
theorem cB_one (l : List Bool) : ∀ u ∈ cB l, u.oneCell' = true := by
  intro u hu; simp only [cB, List.mem_map] at hu; obtain ⟨a, _, rfl⟩ := hu; rfl
theorem cP_one (l : List (ByteArray × Int)) : ∀ u ∈ cP l, u.oneCell' = true := by
  intro u hu; simp only [cP, List.mem_flatMap, List.mem_cons, List.not_mem_nil, or_false] at hu; obtain ⟨a, _, rfl | rfl⟩ := hu <;> rfl
theorem cI_at0 (l : List Int) (k : Nat) (hk : k < l.length) : (cI l)[k]? = some (.int .i64 l[k]) := by simp [cI, hk]
theorem cS_at0 (l : List ByteArray) (k : Nat) (hk : k < l.length) : (cS l)[k]? = some (.string l[k]) := by simp [cS, hk]
theorem cB_at0 (l : List Bool) (k : Nat) (hk : k < l.length) : (cB l)[k]? = some (.bool l[k]) := by simp [cB, hk]
theorem cP_at0 (l : List (ByteArray × Int)) (k : Nat) (hk : k < l.length) : (cP l)[k * 2]? = some (.string l[k].1) := (cP_at l k hk).1
theorem cP_at1 (l : List (ByteArray × Int)) (k : Nat) (hk : k < l.length) : (cP l)[k * 2 + 1]? = some (.int .i64 l[k].2) := (cP_at l k hk).2
/-- an operation of a deed -/
structure GOp where
  kind : Int
  key : ByteArray
  from_ : ByteArray
  n : Int
deriving DecidableEq
def cO (l : List GOp) : List Value := l.flatMap fun p => [.int .i64 p.kind, .string p.key, .string p.from_, .int .i64 p.n]
theorem cO_len (l : List GOp) : (cO l).length = l.length * 4 := by
  induction l with
  | nil => rfl
  | cons a l ih => simp [cO] at ih ⊢; omega
theorem cO_at (l : List GOp) (k : Nat) (hk : k < l.length) : (cO l)[k * 4]? = some (.int .i64 l[k].kind) ∧ (cO l)[k * 4 + 1]? = some (.string l[k].key) ∧ (cO l)[k * 4 + 2]? = some (.string l[k].from_) ∧ (cO l)[k * 4 + 3]? = some (.int .i64 l[k].n) := by
  induction l generalizing k with
  | nil => simp at hk
  | cons a l ih =>
    cases k with
    | zero => simp [cO]
    | succ k =>
      have := ih k (by simpa using hk)
      have e : (k + 1) * 4 = k * 4 + 1 + 1 + 1 + 1 := by omega
      simpa [cO, e] using this
theorem cO_at0 (l : List GOp) (k : Nat) (hk : k < l.length) : (cO l)[k * 4]? = some (.int .i64 l[k].kind) := (cO_at l k hk).1
theorem cO_at1 (l : List GOp) (k : Nat) (hk : k < l.length) : (cO l)[k * 4 + 1]? = some (.string l[k].key) := (cO_at l k hk).2.1
theorem cO_at2 (l : List GOp) (k : Nat) (hk : k < l.length) : (cO l)[k * 4 + 2]? = some (.string l[k].from_) := (cO_at l k hk).2.2.1
theorem cO_at3 (l : List GOp) (k : Nat) (hk : k < l.length) : (cO l)[k * 4 + 3]? = some (.int .i64 l[k].n) := (cO_at l k hk).2.2.2
theorem cO_one (l : List GOp) : ∀ u ∈ cO l, u.oneCell' = true := by
  intro u hu; simp only [cO, List.mem_flatMap, List.mem_cons, List.not_mem_nil, or_false] at hu; obtain ⟨a, _, rfl | rfl | rfl | rfl⟩ := hu <;> rfl
def opNe (a b : GOp) : Bool := !(decide (a = b))
theorem opNe_true {a b : GOp} (h : opNe a b = true) : a ≠ b := by simpa [opNe] using h
theorem opNe_false {a b : GOp} (h : opNe a b = false) : a = b := by simpa [opNe] using h
theorem str_ne {a b : ByteArray} (h : (!a.toList == b.toList) = true) : a ≠ b := by rintro rfl; simp at h
theorem str_eq {a b : ByteArray} (h : (!a.toList == b.toList) = false) : a = b := by simp at h; exact toList_inj h
theorem take_eq_step {α : Type} {l m : List α} {k : Nat} (hk : k < l.length) (hm : k < m.length) (h : l.take k = m.take k) (e : l[k] = m[k]) : l.take (k + 1) = m.take (k + 1) := by
  rw [List.take_succ_eq_append_getElem hk, List.take_succ_eq_append_getElem hm, h, e]

/-! searching loops -/
def allTo (p : Nat → Bool) (k : Nat) : Prop := ∀ i, i < k → p i = true
theorem allTo_zero (p : Nat → Bool) : allTo p 0 := fun i h => absurd h (by omega)
theorem allTo_succ {p : Nat → Bool} {k : Nat} (h : allTo p k) (hk : p k = true) : allTo p (k + 1) := by
  intro i hi
  rcases Nat.lt_succ_iff_lt_or_eq.1 hi with h3 | h3
  · exact h i h3
  · subst h3; exact hk
theorem all_true {p : Nat → Bool} {n : Nat} (h : allTo p n) : (List.range n).all p = true := by
  rw [List.all_eq_true]; intro x hx; exact h x (List.mem_range.1 hx)
theorem all_false {p : Nat → Bool} {n k : Nat} (hk : k < n) (h : p k = false) : (List.range n).all p = false := by
  rw [List.all_eq_false]; exact ⟨k, List.mem_range.2 hk, by simp [h]⟩
theorem allTo_of {p : Nat → Bool} {n : Nat} (h : (List.range n).all p = true) : allTo p n := by
  rw [List.all_eq_true] at h; exact fun i hi => h i (List.mem_range.2 hi)

/-- i is where what p holds of ends -/
def cutAt (p : Nat → Bool) (n i : Nat) : Prop := i ≤ n ∧ (∀ j, j < i → p j = true) ∧ (∀ j, i ≤ j → j < n → p j = false)
theorem cutAt_uniq {p : Nat → Bool} {n i i' : Nat} (h : cutAt p n i) (h' : cutAt p n i') : i = i' := by
  obtain ⟨h1, h2, h3⟩ := h
  obtain ⟨h1', h2', h3'⟩ := h'
  rcases Nat.lt_trichotomy i i' with h | h | h
  · have a := h2' i h; have b := h3 i (Nat.le_refl _) (by omega); rw [a] at b; cases b
  · exact h
  · have a := h2 i' h; have b := h3' i' (Nat.le_refl _) (by omega); rw [a] at b; cases b
/-- p holds of a beginning -/
def dropsB (p : Nat → Bool) (n : Nat) : Prop := ∀ i j, i < j → j < n → p j = true → p i = true
/-- the invariant of a binary search -/
def bsInv (p : Nat → Bool) (n i j : Nat) : Prop := i ≤ j ∧ j ≤ n ∧ (∀ x, x < i → p x = true) ∧ (∀ x, j ≤ x → x < n → p x = false)
theorem bsInv_start (p : Nat → Bool) (n : Nat) : bsInv p n 0 n := ⟨Nat.zero_le _, Nat.le_refl _, fun _ h => absurd h (by omega), fun _ h h' => absurd h' (by omega)⟩
theorem bsInv_up {p : Nat → Bool} {n i j : Nat} (hd : dropsB p n) (h : bsInv p n i j) (hij : i < j) (hp : p ((i + j) / 2) = true) : bsInv p n ((i + j) / 2 + 1) j := by
  obtain ⟨h1, h2, h3, h4⟩ := h
  refine ⟨by omega, h2, fun x hx => ?_, h4⟩
  rcases Nat.lt_succ_iff_lt_or_eq.1 hx with h | h
  · exact hd x _ h (by omega) hp
  · subst h; exact hp
theorem bsInv_down {p : Nat → Bool} {n i j : Nat} (hd : dropsB p n) (h : bsInv p n i j) (hij : i < j) (hp : p ((i + j) / 2) = false) : bsInv p n i ((i + j) / 2) := by
  obtain ⟨h1, h2, h3, h4⟩ := h
  refine ⟨by omega, by omega, h3, fun x hx hxn => ?_⟩
  rcases Nat.eq_or_lt_of_le hx with h | h
  · subst h; exact hp
  · cases hpx : p x with
    | false => rfl
    | true => have := hd _ x h hxn hpx; rw [hp] at this; cases this
theorem bsInv_end {p : Nat → Bool} {n i : Nat} (h : bsInv p n i i) : cutAt p n i := ⟨h.2.1, h.2.2.1, h.2.2.2⟩
end Go.Proofs.Ytijcckhkofkenaa

/- Contracts and lemmas for the proofs of this seat; each theorem states its own conditions. -/
namespace Go.Proofs.Ytijcckhkofkenaa
/-! the order of strings -/
theorem bl_irrefl : ∀ x : List UInt8, Op.bytesLess x x = false
  | [] => rfl
  | a :: x => by simp [Op.bytesLess, bl_irrefl x, UInt8.lt_irrefl]
theorem u8_lt {a b : UInt8} : a < b ↔ a.toNat < b.toNat := UInt8.lt_iff_toNat_lt
theorem u8_eq {a b : UInt8} : a = b ↔ a.toNat = b.toNat := ⟨fun h => by rw [h], UInt8.toNat_inj.1⟩
theorem bl_trans : ∀ x y z : List UInt8, Op.bytesLess x y = true → Op.bytesLess y z = true → Op.bytesLess x z = true
  | _, _, [] => fun _ h => by simp [Op.bytesLess] at h
  | _, [], _ :: _ => fun h _ => by simp [Op.bytesLess] at h
  | [], _ :: _, _ :: _ => fun _ _ => rfl
  | a :: x, b :: y, c :: z => by
    simp only [Op.bytesLess, Bool.or_eq_true, decide_eq_true_eq, Bool.and_eq_true, beq_iff_eq, u8_lt, u8_eq]
    rintro (h | ⟨h, h'⟩) (k | ⟨k, k'⟩)
    · exact .inl (by omega)
    · exact .inl (by omega)
    · exact .inl (by omega)
    · exact .inr ⟨by omega, bl_trans x y z h' k'⟩
theorem bl_tri : ∀ x y : List UInt8, Op.bytesLess x y = true ∨ x = y ∨ Op.bytesLess y x = true
  | [], [] => .inr (.inl rfl)
  | [], _ :: _ => .inl rfl
  | _ :: _, [] => .inr (.inr rfl)
  | a :: x, b :: y => by
    rcases bl_tri x y with h | h | h
    · rcases Nat.lt_trichotomy a.toNat b.toNat with k | k | k
      · left; simp [Op.bytesLess, u8_lt, k]
      · left; have := u8_eq.2 k; subst this; simp [Op.bytesLess, h]
      · right; right; simp [Op.bytesLess, u8_lt, k]
    · rcases Nat.lt_trichotomy a.toNat b.toNat with k | k | k
      · left; simp [Op.bytesLess, u8_lt, k]
      · right; left; have := u8_eq.2 k; rw [this, h]
      · right; right; simp [Op.bytesLess, u8_lt, k]
    · rcases Nat.lt_trichotomy a.toNat b.toNat with k | k | k
      · left; simp [Op.bytesLess, u8_lt, k]
      · right; right; have := u8_eq.2 k; subst this; simp [Op.bytesLess, h]
      · right; right; simp [Op.bytesLess, u8_lt, k]
theorem blt_irrefl (a : ByteArray) : blt a a = false := bl_irrefl _
theorem blt_trans {a b c : ByteArray} (h : blt a b = true) (k : blt b c = true) : blt a c = true := bl_trans _ _ _ h k
theorem blt_tri (a b : ByteArray) : blt a b = true ∨ a = b ∨ blt b a = true := by
  rcases bl_tri a.toList b.toList with h | h | h
  · exact .inl h
  · exact .inr (.inl (toList_inj h))
  · exact .inr (.inr h)
theorem blt_asymm {a b : ByteArray} (h : blt a b = true) : blt b a = false := by
  cases k : blt b a with
  | false => rfl
  | true => have := blt_trans h k; rw [blt_irrefl] at this; cases this
theorem blt_ne {a b : ByteArray} (h : blt a b = true) : a ≠ b := by rintro rfl; rw [blt_irrefl] at h; cases h
theorem blt_of_not {a b : ByteArray} (h : blt a b = false) : a = b ∨ blt b a = true := by
  rcases blt_tri a b with k | k | k
  · rw [h] at k; cases k
  · exact .inl k
  · exact .inr k
/-- not greater -/
theorem ble_trans {a b c : ByteArray} (h : blt b a = false) (k : blt c b = false) : blt c a = false := by
  rcases blt_of_not h with rfl | h
  · exact k
  · rcases blt_of_not k with rfl | k
    · exact blt_asymm h
    · exact blt_asymm (blt_trans h k)
theorem blt_ble {a b c : ByteArray} (h : blt a b = true) (k : blt c b = false) : blt a c = true := by
  rcases blt_of_not k with rfl | k
  · exact h
  · exact blt_trans h k
theorem ble_blt {a b c : ByteArray} (h : blt b a = false) (k : blt b c = true) : blt a c = true := by
  rcases blt_of_not h with rfl | h
  · exact k
  · exact blt_trans h k

/-! sorted lists of strings -/
def kAt (ks : List ByteArray) (i : Nat) : ByteArray := ks.getD i ByteArray.empty
theorem kAt_eq {ks : List ByteArray} {i : Nat} (h : i < ks.length) : kAt ks i = ks[i] := by simp [kAt, h]
/-- strictly sorted -/
def srt (ks : List ByteArray) : Prop := ∀ i j, i < j → j < ks.length → blt (kAt ks i) (kAt ks j) = true
theorem srt_adj {ks : List ByteArray} (h : ∀ i, i + 1 < ks.length → blt (kAt ks i) (kAt ks (i + 1)) = true) : srt ks := by
  intro i j hij
  induction j with
  | zero => omega
  | succ j ih =>
    intro hj
    rcases Nat.lt_succ_iff_lt_or_eq.1 hij with k | k
    · exact blt_trans (ih k (by omega)) (h j hj)
    · subst k; exact h i hj
/-- cuts not greater than a key -/
def leAt (ks : List ByteArray) (t : ByteArray) (i : Nat) : Bool := !(blt t (kAt ks i))
def bltAt (ks : List ByteArray) (t : ByteArray) (i : Nat) : Bool := blt (kAt ks i) t
def hitS (ks : List ByteArray) (t : ByteArray) (i : Nat) : Bool := decide (i < ks.length) && (kAt ks i).toList == t.toList
theorem bltAt_eq {ks : List ByteArray} {t : ByteArray} {i : Nat} (h : i < ks.length) : bltAt ks t i = blt ks[i] t := by simp [bltAt, kAt_eq h]
theorem hitS_eq {ks : List ByteArray} {t : ByteArray} {i : Nat} (h : i < ks.length) : hitS ks t i = (ks[i].toList == t.toList) := by simp [hitS, h, kAt_eq h]
theorem hitS_out {ks : List ByteArray} {t : ByteArray} {i : Nat} (h : ¬ i < ks.length) : hitS ks t i = false := by simp [hitS, h]
theorem dropsB_blt {ks : List ByteArray} (h : srt ks) (t : ByteArray) : dropsB (bltAt ks t) ks.length := fun i j hij hj hp => blt_trans (h i j hij hj) hp
theorem dropsB_le {ks : List ByteArray} (h : srt ks) (t : ByteArray) : dropsB (leAt ks t) ks.length := fun i j hij hj hp => by
  simp only [leAt, Bool.not_eq_true'] at hp ⊢
  exact ble_trans (blt_asymm (h i j hij hj)) hp
/-- where p ends -/
def idx (p : Nat → Bool) (n : Nat) : Nat := ((List.range n).takeWhile p).length
theorem idx_spec (p : Nat → Bool) (n i : Nat) (h : cutAt p n i) : idx p n = i := by
  obtain ⟨h1, h2, h3⟩ := h
  have e : List.range n = List.range i ++ (List.range (n - i)).map (i + ·) := by
    have := List.range_add (n := i) (m := n - i)
    rw [show i + (n - i) = n from by omega] at this; exact this
  unfold idx
  rw [e, List.takeWhile_append_of_pos (fun a ha => h2 a (List.mem_range.1 ha))]
  cases hn : n - i with
  | zero => simp
  | succ m =>
    rw [List.range_succ_eq_map]
    simp only [List.map_cons, List.takeWhile_cons, Nat.add_zero]
    rw [h3 i (Nat.le_refl _) (by omega)]
    simp
/-- the first cut not less, and whether it is the key: from it the number of cuts not greater -/
theorem cut_le {ks : List ByteArray} {t : ByteArray} {i : Nat} (hs : srt ks) (h : cutAt (bltAt ks t) ks.length i) : cutAt (leAt ks t) ks.length (if hitS ks t i then i + 1 else i) := by
  obtain ⟨h1, h2, h3⟩ := h
  have lo : ∀ j, j < i → leAt ks t j = true := fun j hj => by
    have := h2 j hj; simp only [bltAt] at this; simp [leAt, blt_asymm this]
  by_cases hi : i < ks.length
  · cases hh : hitS ks t i with
    | true =>
      have e : ks[i] = t := toList_inj (by rw [hitS_eq hi] at hh; simpa using hh)
      rw [if_pos rfl]
      refine ⟨by omega, fun j hj => ?_, fun j hj hjn => ?_⟩
      · rcases Nat.lt_succ_iff_lt_or_eq.1 hj with k | k
        · exact lo j k
        · subst k; simp [leAt, kAt_eq hi, e, blt_irrefl]
      · have := hs i j (by omega) hjn
        rw [kAt_eq hi, e] at this
        simp [leAt, this]
    | false =>
      rw [if_neg (by simp)]
      refine ⟨h1, lo, fun j hj hjn => ?_⟩
      have a := h3 i (Nat.le_refl _) hi
      rw [bltAt_eq hi] at a
      have hti : blt t ks[i] = true := by
        rcases blt_of_not a with k | k
        · rw [hitS_eq hi, k] at hh; simp at hh
        · exact k
      rcases Nat.eq_or_lt_of_le hj with k | k
      · subst k; simp [leAt, kAt_eq hi, hti]
      · have := blt_trans hti (by rw [← kAt_eq hi]; exact hs i j k hjn)
        simp [leAt, this]
  · rw [hitS_out hi, if_neg (by simp)]
    exact ⟨h1, lo, fun j hj hjn => absurd hjn (by omega)⟩
end Go.Proofs.Ytijcckhkofkenaa
