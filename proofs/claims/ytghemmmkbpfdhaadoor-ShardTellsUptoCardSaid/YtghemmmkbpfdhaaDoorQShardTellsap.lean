/- Contracts and lemmas for the proof of ShardTells; each theorem states its own conditions. -/
import Derived.Test.YtghemmmkbpfdhaaDoorQShardTellsab
import Derived.Laws.CopyRow
import Derived.Laws.CopyOwn
import Derived.Laws.IdiomCopy
import Derived.Lib.SliceRun
import Derived.Lib.AppendZeros
import Derived.Lib.AppendZerosOnto
import Derived.Shelf.Spec.SlicesInsert
set_option linter.unusedVariables false
set_option linter.unusedSimpArgs false
/- Contracts and lemmas for the proofs of this seat; each theorem states its own conditions. -/
namespace Go.Proofs.YtghemmmkbpfdhaaDoor
open Go.RowKit
/-! a row of one's own, told to the cell: built-in copy, append and clear at elements of however many cells -/
def spl (cur : List Value) (o : Nat) (vs : List Value) : List Value := cur.take o ++ vs ++ cur.drop (o + vs.length)
theorem spl_len {cur vs : List Value} {o : Nat} (h : o + vs.length ≤ cur.length) : (spl cur o vs).length = cur.length := by
  simp only [spl, List.length_append, List.length_take, List.length_drop]; omega
theorem spl_take {cur vs : List Value} {o : Nat} (h : o + vs.length ≤ cur.length) : (spl cur o vs).take (o + vs.length) = cur.take o ++ vs := by
  have : (cur.take o ++ vs).length = o + vs.length := by rw [List.length_append, List.length_take]; omega
  unfold spl; rw [← this, List.take_left]
theorem spl_take_lo {cur vs : List Value} {o m : Nat} (h : o ≤ cur.length) (hm : m ≤ o) : (spl cur o vs).take m = cur.take m := by
  have : m ≤ (cur.take o).length := by rw [List.length_take]; omega
  unfold spl; rw [List.append_assoc, List.take_append_of_le_length this, List.take_take, Nat.min_eq_left hm]
def RowB (w : World) (g : Nat) (e : TypeId) (cur : List Value) : Prop := w.heap[g]? = some (.cells cur.toArray e (0, 0))
theorem RowB.set {w : World} {g : Nat} {e : TypeId} {cur : List Value} (h : RowB w g e cur) (cs : List Value) : RowB (w.setRow g cs.toArray) g e cs := setRow_heap w g _ _ _ _ h
theorem RowB.cell {w : World} {g : Nat} {e : TypeId} {cur : List Value} (h : RowB w g e cur) {j : Nat} {u : Value} (hu : cur[j]? = some u) : w.cell? ⟨g, j, none⟩ = some u := by
  unfold RowB at h; simp [World.cell?, h, hu]
theorem RowB.drew {w : World} {g : Nat} {e : TypeId} {cur : List Value} (h : RowB w g e cur) : RowB w.drew g e cur := h
theorem run_copy_row {P : Program} (w : World) (dT sT ty e : TypeId) (size g o dLen dCap : Nat) (a : Addr) (sLen sCap : Nat) (cs cur : List Value)
    (hu : P.underlying dT = some (.slice e)) (hs : (P.info? e).map (·.size) = some size) (hrow : RowB w g e cur) (hn : cs.length = Nat.min sLen dLen * size)
    (hsrc : ∀ j v, cs[j]? = some v → w.cell? (a.add j) = some v) (hfit : o + cs.length ≤ cur.length) (h1 : ∀ v ∈ cs, v.oneCell' = true) :
    (Builtin.copy_ #[dT, sT] ty #[.slice (some ⟨g, o, none⟩) dLen dCap, .slice (some a) sLen sCap]).run P w = .ok (goInt (Nat.min sLen dLen)) (w.setRow g (spl cur o cs).toArray) := by
  have hf := run_firstCells_some (P := P) w size (Nat.min sLen dLen) a sLen sCap cs hn hsrc
  have hst := run_storeCells_at P g o e cs 0 cur.toArray w hrow (by simpa using hfit) h1
  cases hq : P.info? e with
  | none => simp [hq] at hs
  | some i =>
    have hsz : i.size = size := by simpa [hq] using hs
    simp only [Nat.add_zero] at hst
    simp [Builtin.copy_, run_underlying hu, sizeOf, typeInfo, hq, hsz, Builtin.lenOf, hf, hst, spl]
theorem run_clear_row {P : Program} (w : World) (t e ty : TypeId) (z : Value) (ht : P.underlying t = some (.slice e)) (hv : ∀ w, (zeroValue e).run P w = .ok z w) (g o n c : Nat) (cur : List Value) (hn : 0 < n)
    (hrow : RowB w g e cur) (hfit : o + (Builtin.zeroCells z.cells n).size ≤ cur.length) (h1 : ∀ v ∈ (Builtin.zeroCells z.cells n).toList, v.oneCell' = true) :
    (Builtin.clear_ #[t] ty #[.slice (some ⟨g, o, none⟩) n c]).run P w = .ok (.tuple #[]) (w.setRow g (spl cur o (Builtin.zeroCells z.cells n).toList).toArray) := by
  have hst := run_storeCells_at P g o e (Builtin.zeroCells z.cells n).toList 0 cur.toArray w hrow (by simpa using hfit) h1
  simp only [Nat.add_zero] at hst
  obtain ⟨m, rfl⟩ : ∃ m, n = m + 1 := ⟨n - 1, by omega⟩
  simp [Builtin.clear_, run_underlying ht, hv, hst, spl]
theorem run_app_row {P : Program} (w : World) (t ty e : TypeId) (i : TypeInfo) (ht : P.underlying t = some (.slice e)) (hi : P.info? e = some i)
    (g sLen sCap : Nat) (cur : List Value) (hg : RowB w g e cur) (a : Addr) (m c : Nat) (news : List Value) (hl : news.length = m * i.size) (hnews : ∀ j u, news[j]? = some u → w.cell? (a.add j) = some u) (h1 : ∀ u ∈ news, u.oneCell' = true)
    (hroom : sLen + m ≤ sCap) (hfit : sLen * i.size + news.length ≤ cur.length) :
    (Builtin.append_ #[t, t] ty #[.slice (some ⟨g, 0, none⟩) sLen sCap, .slice (some a) m c]).run P w = .ok (.slice (some ⟨g, 0, none⟩) (sLen + m) sCap) (w.setRow g (spl cur (sLen * i.size) news).toArray) := by
  have := run_append_room (P := P) w t ty e i ht hi g sLen sCap cur.toArray hg a m c news hl hnews h1 hroom (by simpa using hfit)
  simpa [spl] using this
theorem wp_clear_run {P : Program} (w : World) {o : Oper} {a : Act} {K : Act → World → Prop} {Q : Exit → Act → World → Prop} (d : Operand) (t : TypeId)
    (ho : o.op = .call { callee := .builtin .clear, args := #[d], argTypes := #[t] }) (v : Value) (hd : a.eval d = v) {v' : Value} {w' : World}
    (hr : (Builtin.clear_ #[t] o.type #[v]).run P w = .ok v' w') (h : K (a.put o.dst v') w') : o.wp P a w K Q := by
  unfold Oper.wp execOp
  simp only [ho, resolve, invoke, builtin, Sem.run_bind, Sem.run_pure, Result.andThen_ok, List.map_toArray, List.map_cons, List.map_nil, hd, hr]
  exact h
theorem wpList_clear_run {P : Program} (w : World) {ops : Array Oper} {rest : List Oper} {o : Oper} {a : Act} {Q : Exit → Act → World → Prop} (hgd : o.guard = none) (d : Operand) (t : TypeId)
    (ho : o.op = .call { callee := .builtin .clear, args := #[d], argTypes := #[t] }) (v : Value) (hd : a.eval d = v) {v' : Value} {w' : World}
    (hr : (Builtin.clear_ #[t] o.type #[v]).run P w = .ok v' w') (h : wpList P ops Q rest (a.put o.dst v') w') : wpList P ops Q (o :: rest) a w :=
  wpList_plain hgd fun _ hK => wp_clear_run w d t ho v hd hr (hK _ _ h)
theorem own_of_row {w : World} {B g e size n cap : Nat} {cur xs : List Value} (hrow : RowB w g e cur) (hB : B ≤ g) (hn : n ≤ cap) (hc : cap ≤ maxLen) (hl : cur.length = cap * size) (hx : xs.length = n * size) (ht : cur.take (n * size) = xs) :
    w.ownsRow B e size (.slice (some ⟨g, 0, none⟩) n cap) n xs := ⟨hx, .inr ⟨g, cap, cur.toArray, rfl, hB, hrow, hn, hc, by simpa using hl, by simpa using ht⟩⟩
/-- a row of one's own, opened -/
theorem own_row {w : World} {B e size n c : Nat} {a : Option Addr} {xs : List Value} (h : w.ownsRow B e size (.slice a n c) n xs) (hn : 0 < n) :
    ∃ g cur, a = some ⟨g, 0, none⟩ ∧ B ≤ g ∧ g < w.heap.size ∧ RowB w g e cur ∧ n ≤ c ∧ c ≤ maxLen ∧ cur.length = c * size ∧ cur.take (n * size) = xs := by
  have hlt := h.lt
  rcases h.2 with ⟨h1, _⟩ | ⟨g, cap, cur, h1, hb, hg, h2, h3, h4, h5⟩
  · injection h1 with _ h2 _; omega
  · injection h1 with e1 e2 e3
    subst e1; subst e3
    exact ⟨g, cur.toList, rfl, hb, (hlt g rfl).2, by simpa [RowB] using hg, h2, h3, by simpa using h4, h5⟩
theorem seg_of_take {w : World} {g e size n cap : Nat} {cur xs : List Value} (hrow : RowB w g e cur) (hn : n ≤ cap) (hc : cap ≤ maxLen) (hx : xs.length = n * size) (ht : cur.take (n * size) = xs) :
    Seg w (.slice (some ⟨g, 0, none⟩) n cap) size n xs := by
  refine ⟨hx, _, _, rfl, hn, hc, fun _ => ⟨g, 0, rfl, fun j u hu => ?_⟩⟩
  rw [← ht, List.getElem?_take] at hu
  split at hu
  · rw [Nat.zero_add]; exact hrow.cell hu
  · cases hu
end Go.Proofs.YtghemmmkbpfdhaaDoor
