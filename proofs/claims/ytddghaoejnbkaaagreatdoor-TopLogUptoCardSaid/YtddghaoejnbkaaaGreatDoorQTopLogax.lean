/- Contracts and lemmas for the proof of TopLog; each theorem states its own conditions. -/
import Derived.Test.YtddghaoejnbkaaaGreatDoorQTopLogaw
import Derived.Test.YtddghaoejnbkaaaGreatDoorQTopLogac
import Derived.OneCell
import Derived.Test.YtddghaoejnbkaaaGreatDoorQTopLogan
import Derived.Shelf.Abstract
import Derived.Maps.OwnSet
import Derived.Test.YtddghaoejnbkaaaGreatDoorQTopLogaj
import Derived.Test.YtddghaoejnbkaaaGreatDoorQTopLogaa
import Derived.Laws.IdiomCopy
import Derived.Test.YtddghaoejnbkaaaGreatDoorQTopLogam
import Derived.Test.YtddghaoejnbkaaaGreatDoorQTopLogaf
import Derived.Shelf.Sort.Plain
import Derived.Shelf.Slices.In.SortNone
import Derived.Shelf.Slices.CompactS
set_option linter.unusedVariables false
set_option linter.unusedSimpArgs false
/- Contracts and lemmas for the proofs of this seat; each theorem states its own conditions. -/
namespace Go.Proofs.YtddghaoejnbkaaaGreatDoor
open Go.RowKit Go.Maps
/-! roref.List -/
theorem lawS : Keyed Tryz.prog 9 := string_keyed Tryz.underlying9
theorem set_grown (w : World) (p : Addr) (u : Value) : w.grownBy (w.setCell p u) (some p.block) :=
  ⟨rfl, rfl, rfl, by simp, fun k _ hne => Below.heap_setCell _ _ _ _ (fun e => hne (by rw [e]))⟩
theorem ext_of_grown {w w' : World} (h : w.grownBy w' none) : Ext w w' := ⟨h.os, h.tape, h.output, h.size, fun k hk => h.block k hk (by simp)⟩
/-- where List's loop stands -/
def LRel (w : World) (b n : Nat) (D : DU) (f : ByteArray → Option Int) (wr : World) : Prop :=
  ∃ (left : Lit → Bool) (cnt : Nat) (l : Prs) (v : Value), wr.ranges Tryz.prog 9 (plainElem Tryz.prog 3) b (w.heap.size + 1) n D left cnt ∧ Gath f left l ∧ l.length + cnt ≤ n ∧
    wr.heap[w.heap.size]? = some (.cells #[v] 36 (0, 0)) ∧ wr.ownsRow (w.heap.size + 2) 62 2 v l.length (cP l) ∧ Ext w wr
set_option maxRecDepth 10000 in
set_option maxHeartbeats 1000000 in
theorem rlist_any (b n : Nat) (D : DU) (f : ByteArray → Option Int) (w : World) (hown : w.ownsMap Tryz.prog 9 (plainElem Tryz.prog 3) b n D) (hF : MapF kS okS dI D f) (hn : n ≤ 100000000) :
    Calls Tryz.prog 45 #[.map (some b)] w fun e w' => ∃ v' l, e = .returned v' ∧ srtP l ∧ nzP l ∧ (∀ k, valP l k = (f k).getD 0) ∧ l.length ≤ n ∧ w'.ownsRow w.heap.size 62 2 v' l.length (cP l) ∧ Ext w w' := by
  have hsz := own_size hown
  have hbl := hown.lt
  have b0 := heap_alloc_new w (.cells #[.slice none 0 0] 36)
  have E0 := (Ext.refl w).alloc (.cells #[.slice none 0 0] 36)
  have hown0 := ownsMap_ext hown E0
  go_enter Tryz.func45, Tryz.ntmps45
  go_wp2_with (first
    | (at_range; refine wpList_range_own _ rfl _ 71 rfl 9 3 lawS Tryz.underlying71 _ b n _ rfl hown0 ?_; intro w0 hrg0 hg0 hs0; simp only [World.size_alloc] at hrg0 ⊢)
    | go_in)
  go_frame
  have E1 := E0.trans (ext_of_grown hg0)
  go_loopw [4, 5] (fun _ _ wr => LRel w b n D f wr) (fun _ _ wr => wr.rangeLeft b (w.heap.size + 1))
  case atStart =>
    refine ⟨_, _, [], .slice none 0 0, by simpa using hrg0, gath_start hF, by simpa using hsz, grown_heap hg0 b0 (by simp), World.ownsRow_nil _ _ _ _, E1⟩
  case round =>
    obtain ⟨left, cnt, l, v, hrg, hG, hlc, hbx, ho, E⟩ := hrel
    go_wp2_with (first
      | (at_next; refine wpList_next_si _ rfl _ rfl 9 3 lawS Tryz.underlying9 Tryz.underlying3 b (w.heap.size + 1) n D f hF _ _ rfl hrg ?_ ?_)
      | go_in)
    · intro hl0
      obtain ⟨ao, co, rfl⟩ := own_form ho
      have c1 := cell_of_one hbx
      have hne : (Value.slice ao l.length co).ownBlock ≠ some w.heap.size := fun e => by have := own_ge ho _ e; omega
      go_wp2_with fail
      refine (sortP_any (w.heap.size + 2) co w.heap.size ao l _ ho (by omega) c1 hne).mono ?_
      rintro e w2 ⟨rfl, l', hl', hp, hs, ho2, hg2⟩
      have hb2 := grown_heap hg2 hbx hne
      have c2 := cell_of_one hb2
      have hge := own_ge ho
      have E2 : Ext w w2 := E.grown hg2 (fun k hk => by have := hge k hk; omega)
      obtain ⟨r1, r2, r3⟩ := gath_end hG hl0 hp hs hF.2.1
      go_wp2
      go_ret
      exact ⟨_, l', rfl, r1, r2, r3, by omega, by rw [hl']; exact own_base ho2 (by omega), E2⟩
    · intro x c w1 cnt1 hwx hwc hlx hfx hrg1 hlt hg1 hs1 hen
      have hge := own_ge ho
      have E1' : Ext w w1 := E.grown hg1 (fun k hk => by injection hk with hk; omega)
      have hb1 := grown_heap hg1 hbx (by simp)
      have hne : v.ownBlock ≠ some (w.heap.size + 1) := fun e => by have := hge _ e; omega
      have ho1 := grown_own hg1 ho (.inr hne)
      by_cases hc : c = 0
      · subst hc
        have hG' := gath_drop hG hwx hlx hfx
        have HG := hid hG'
        clear hG hG'
        go_wp2
        go_roundw
        case rel => exact ⟨_, cnt1, l, v, hrg1, HG.out, by omega, hb1, ho1, E1'⟩
        case measure => rw [hrg1.left_eq, hrg.left_eq]; exact hlt
      · have hG' := gath_keep hG hwx hlx hfx hc
        have hc' : (c != 0) = true := by simp [hc]
        have HG := hid hG'
        clear hG hG' hc
        obtain ⟨ao, co, rfl⟩ := own_form ho
        have c1 := cell_of_one hb1
        have f1 := free_of_one hb1
        have hb1a := ((Ext.refl w1).alloc (.cells #[.string x, .int .i64 c] 62)).heap hb1
        have bn := heap_alloc_new w1 (.cells #[.string x, .int .i64 c] 62)
        have hsv : Seg (w1.alloc (.cells #[.string x, .int .i64 c] 62)) (.slice (some ⟨w1.heap.size, 0, none⟩) 1 1) 2 1 [.string x, .int .i64 c] :=
          ⟨rfl, _, _, rfl, Nat.le_refl _, by simp [maxLen], fun _ => ⟨w1.heap.size, 0, rfl, fun j u hu => by have := seg_vb bn j u hu; rwa [addr_add] at this⟩⟩
        have hrg1a := hrg1.alloc (.cells #[.string x, .int .i64 c] 62)
        have E1a := E1'.alloc (.cells #[.string x, .int .i64 c] 62)
        have hB : w.heap.size + 2 ≤ (w1.alloc (.cells #[.string x, .int .i64 c] 62)).heap.size := by have := hrg1.lt; simp; omega
        have hne2 : (Value.slice ao l.length co).ownBlock ≠ some w.heap.size := fun e => by have := hge _ e; omega
        have hne3 : (Value.slice ao l.length co).ownBlock ≠ some b := fun e => by have := hge _ e; omega
        clear bn hs1
        go_wp2_with (first | (at_builtin; refine (wpList_app rfl _ _ 36 rfl (w.heap.size + 2) 62 (.agg #[.string ⟨#[]⟩, .int .i64 0]) 2 24 Tryz.underlying36 infoP rfl (by decide) _ l.length (cP l) rfl (ho1.alloc _) (.slice (some ⟨w1.heap.size, 0, none⟩) 1 1) 1 [.string x, .int .i64 c] rfl hsv (kv_one _ _) (by omega) (by unfold maxLen; omega) hB ?_); intro v' w4 ho' hg; obtain ⟨a4, c4', rfl⟩ := own_form ho'; have hb4 := grown_heap hg hb1a hne2; have c4 := cell_of_one hb4; have f4 := free_of_one hb4))
        go_roundw
        case rel =>
          have hrg4 := hrg1a.kept hg (fun e => hne3 e.symm) (fun e => hne e.symm)
          have hrg5 := hrg4.kept (set_grown w4 ⟨w.heap.size, 0, none⟩ (.slice a4 (l.length + 1) c4')) (by simp; omega) (by simp)
          have E4 : Ext w w4 := E1a.grown hg (fun k hk => by have := hge k hk; omega)
          refine ⟨_, cnt1, l ++ [(x, c)], _, hrg5, HG.out, by simp; omega, one_setCell hb4, ?_, E4.setCell (Nat.le_refl _) _⟩
          have := own_set_far ho' (p := ⟨w.heap.size, 0, none⟩) (u := .slice a4 (l.length + 1) c4') (by simp)
          rw [List.length_append, cP_app, cP_one1]
          exact this
        case measure =>
          have hrg4 := hrg1a.kept hg (fun e => hne3 e.symm) (fun e => hne e.symm)
          have hrg5 := hrg4.kept (set_grown w4 ⟨w.heap.size, 0, none⟩ (.slice a4 (l.length + 1) c4')) (by simp; omega) (by simp)
          rw [hrg5.left_eq, hrg.left_eq]; exact hlt
end Go.Proofs.YtddghaoejnbkaaaGreatDoor

/- Contracts and lemmas for the proofs of this seat; each theorem states its own conditions. -/
namespace Go.Proofs.YtddghaoejnbkaaaGreatDoor
open Go.RowKit
/-! what slices.DeleteFunc's walk leans on -/
theorem grown_of_ext {w w' : World} (h : Ext w w') {row : Option Nat} : w.grownBy w' row := ⟨h.os, h.tape, h.output, h.size', fun i hi _ => Below.block h i hi⟩
theorem row_grown (w : World) (g : Nat) (cs : Array Value) : w.grownBy (w.setRow g cs) (some g) := by
  have hB := below_setRow (Below.refl 0 w) (Nat.zero_le g) cs
  exact ⟨hB.os, hB.tape, hB.output, hB.size, fun k _ hne => setRow_other w g k _ (fun e => hne (by rw [e]))⟩
theorem own_cell_set {w : World} {B e sz n c g i : Nat} {xs : List Value} (h : w.ownsRow B e sz (.slice (some ⟨g, 0, none⟩) n c) n xs) (hi : i < xs.length) (u : Value) : (w.setCell ⟨g, i, none⟩ u).ownsRow B e sz (.slice (some ⟨g, 0, none⟩) n c) n (xs.set i u) := by
  obtain ⟨h0, h1⟩ := h
  rcases h1 with ⟨h1, _⟩ | ⟨g', cap, cur, h1, h2, h3, h4, h5, h6, h7⟩
  · cases h1
  · injection h1 with e1 _ e3
    injection e1 with e1; injection e1 with e1
    subst e1; subst e3
    refine ⟨by simpa using h0, .inr ⟨g, c, cur.setIfInBounds i u, rfl, h2, ?_, h4, h5, by simpa using h6, ?_⟩⟩
    · simp [World.setCell, Array.getElem?_modify, h3]
    · show (cur.setIfInBounds i u).toList.take (n * sz) = xs.set i u
      rw [← h7]
      rw [Array.toList_setIfInBounds, List.take_set]
theorem own_free {w : World} {B e sz n c g : Nat} {xs : List Value} (h : w.ownsRow B e sz (.slice (some ⟨g, 0, none⟩) n c) n xs) (i : Nat) : w.frozen? ⟨g, i, none⟩ = false := by
  obtain ⟨cur, hc⟩ := own_heap h
  simp [World.frozen?, hc]
theorem own_cell_at {w : World} {B e sz n c g i : Nat} {xs : List Value} (h : w.ownsRow B e sz (.slice (some ⟨g, 0, none⟩) n c) n xs) (hi : i < xs.length) : ∃ u, w.cell? ⟨g, i, none⟩ = some u := by
  have hn : 0 < n := by
    rcases Nat.eq_zero_or_pos n with e | e
    · have := h.1; rw [e] at this; omega
    · exact e
  obtain ⟨_, _, he, _, _, _, hc⟩ := seg_cells (own_seg h) hn
  injection he with he; injection he with he1 he2
  subst he1; subst he2
  have := hc i xs[i] (List.getElem?_eq_getElem hi)
  rw [Nat.zero_add] at this
  exact ⟨_, this⟩
/-- two stores into one's own row, side by side -/
theorem own_two {w : World} {B e sz n c g i : Nat} {xs : List Value} (h : w.ownsRow B e sz (.slice (some ⟨g, 0, none⟩) n c) n xs) (hi : i + 1 < xs.length) (u : Value) :
    (∃ z, w.cell? ⟨g, i, none⟩ = some z) ∧ w.frozen? ⟨g, i, none⟩ = false ∧ (∃ z, (w.setCell ⟨g, i, none⟩ u).cell? ⟨g, i + 1, none⟩ = some z) ∧ (w.setCell ⟨g, i, none⟩ u).frozen? ⟨g, i + 1, none⟩ = false := by
  have h2 := own_cell_set h (i := i) (by omega) u
  exact ⟨own_cell_at h (by omega), own_free h i, own_cell_at h2 (by rw [List.length_set]; omega), own_free h2 (i + 1)⟩
theorem first_of {α : Type} {p : α → Bool} {L : List α} (h : ¬ ∀ x ∈ L, p x = false) : ∃ i, ∃ (hi : i < L.length), (∀ j (h : j < i), p (L[j]'(by omega)) = false) ∧ p L[i] = true := by
  induction L with
  | nil => exact absurd (by simp) h
  | cons x L ih =>
    cases hx : p x with
    | true => exact ⟨0, by simp, fun j hj => by omega, by simpa using hx⟩
    | false =>
      obtain ⟨i, hi, h1, h2⟩ := ih fun hh => h fun y hy => by
        rcases List.mem_cons.1 hy with e | e
        · rw [e]; exact hx
        · exact hh y e
      refine ⟨i + 1, by simpa using hi, fun j hj => ?_, by simpa using h2⟩
      cases j with
      | zero => simpa using hx
      | succ j => simpa using h1 j (by omega)
theorem first_fil {α : Type} {p : α → Bool} {L : List α} {i : Nat} (hi : i < L.length) (hlo : ∀ j (h : j < i), p (L[j]'(by omega)) = false) (hp : p L[i] = true) :
    ((L.take (i + 1)).filter fun x => !p x).length = i ∧ ((L.take (i + 1)).filter fun x => !p x) ++ [L[i]] ++ L.drop (i + 1) = L := by
  have e : ((L.take (i + 1)).filter fun x => !p x) = L.take i := by
    rw [List.take_succ_eq_append_getElem hi, List.filter_append]
    have e1 : (L.take i).filter (fun x => !p x) = L.take i := List.filter_eq_self.2 fun x hx => by
      obtain ⟨j, hj, rfl⟩ := List.mem_iff_getElem.1 hx
      simp only [List.length_take] at hj
      rw [List.getElem_take]
      simp [hlo j (by omega)]
    rw [e1]; simp [hp]
  rw [e]
  refine ⟨by rw [List.length_take]; omega, ?_⟩
  rw [List.append_assoc, List.singleton_append, ← List.drop_eq_getElem_cons hi, List.take_append_drop]
theorem del_step {α : Type} {p : α → Bool} {L mid : List α} {i j : Nat} (hj : j < L.length) (hf : ((L.take j).filter fun x => !p x).length = i) (hm : i + mid.length = j) (hij : i < j) :
    (p L[j] = true → ∃ mid', ((L.take (j + 1)).filter fun x => !p x).length = i ∧ i + mid'.length = j + 1 ∧ ((L.take (j + 1)).filter fun x => !p x) ++ mid' ++ L.drop (j + 1) = ((L.take j).filter fun x => !p x) ++ mid ++ L.drop j) ∧
    (p L[j] = false → ∃ mid', ((L.take (j + 1)).filter fun x => !p x).length = i + 1 ∧ i + 1 + mid'.length = j + 1 ∧ ((L.take (j + 1)).filter fun x => !p x) ++ mid' ++ L.drop (j + 1) = (((L.take j).filter fun x => !p x) ++ mid ++ L.drop j).set i L[j]) := by
  have e1 : (L.take (j + 1)).filter (fun x => !p x) = (L.take j).filter (fun x => !p x) ++ [L[j]].filter (fun x => !p x) := by
    rw [List.take_succ_eq_append_getElem hj, List.filter_append]
  have e2 := List.drop_eq_getElem_cons hj
  generalize (L.take j).filter (fun x => !p x) = A at hf e1
  generalize L[j] = x at e1 e2
  refine ⟨fun h => ⟨mid ++ [x], ?_, by simp; omega, ?_⟩, fun h => ?_⟩
  · rw [e1]; simp [h, hf]
  · rw [e1, e2]; simp [h]
  · obtain ⟨m0, rest, rfl⟩ : ∃ m0 rest, mid = m0 :: rest := by
      cases mid with
      | nil => simp at hm; omega
      | cons m0 rest => exact ⟨m0, rest, rfl⟩
    refine ⟨rest ++ [x], ?_, by simp at hm ⊢; omega, ?_⟩
    · rw [e1]; simp [h, hf]
    · rw [e1, e2, List.append_assoc A (m0 :: rest), List.set_append, if_neg (by omega), hf, Nat.sub_self]
      simp [h]
end Go.Proofs.YtddghaoejnbkaaaGreatDoor

/- Contracts and lemmas for the proofs of this seat; each theorem states its own conditions. -/
namespace Go.Proofs.YtddghaoejnbkaaaGreatDoor
open Go.RowKit
/-! slices.IndexFunc, ContainsFunc, DeleteFunc at claims -/
end Go.Proofs.YtddghaoejnbkaaaGreatDoor

/- Contracts and lemmas for the proofs of this seat; each theorem states its own conditions. -/
namespace Go.Proofs.YtddghaoejnbkaaaGreatDoor
open Go.RowKit Go.Maps
/-! maps whose elements are slices of one's own, read by the slice VALUE: a row's block, length and capacity -/
section
variable {P : Program} (w : World) {ops : Array Oper} {rest : List Oper} {o : Oper} {a : Act} {Q : Exit → Act → World → Prop}
end
end Go.Proofs.YtddghaoejnbkaaaGreatDoor

/- Contracts and lemmas for the proofs of this seat; each theorem states its own conditions. -/
namespace Go.Proofs.YtddghaoejnbkaaaGreatDoor
/-! the table of claims, in plain lists -/
def memB (l : List ByteArray) (k : ByteArray) : Bool := l.any fun j => decide (j = k)
theorem memB_iff {l : List ByteArray} {k : ByteArray} : memB l k = true ↔ k ∈ l := by simp [memB]
def tchB (d : Ops) (k : ByteArray) : Bool := memB (rds d) k || memB (wrs d) k
theorem tchB_iff {d : Ops} {k : ByteArray} : tchB d k = true ↔ k ∈ rds d ∨ k ∈ wrs d := by simp [tchB, memB_iff]
theorem rd_key {d : Ops} (h : DeedOk d) : ∀ k ∈ rds d, keyB k = true := fun k hk => by
  obtain ⟨o, ho, hk⟩ := List.mem_flatMap.1 hk
  have oo := h.ops o ho
  rcases kinds oo with e | e | e | e | e
  all_goals simp [rdO, e] at hk
  · rw [hk]; exact oo.key
  · rw [hk]; exact (oo.from_ (.inl e)).1
  · rw [hk]; exact oo.key
  · rcases hk with hk | hk
    · rw [hk]; exact oo.key
    · rw [hk]; exact (oo.from_ (.inr e)).1
theorem wr_key {d : Ops} (h : DeedOk d) : ∀ k ∈ wrs d, keyB k = true := fun k hk => by
  obtain ⟨o, ho, hk⟩ := List.mem_flatMap.1 hk
  have oo := h.ops o ho
  rcases kinds oo with e | e | e | e | e
  all_goals simp [wrO, e] at hk
  · rw [hk]; exact oo.key
  · rw [hk]; exact oo.key
  · rw [hk]; exact oo.key
  · rcases hk with hk | hk
    · rw [hk]; exact oo.key
    · rw [hk]; exact (oo.from_ (.inr e)).1
theorem tch_key {d : Ops} (h : DeedOk d) {k : ByteArray} (hk : tchB d k = true) : keyB k = true := by
  rcases tchB_iff.1 hk with e | e
  · exact rd_key h k e
  · exact wr_key h k e
end Go.Proofs.YtddghaoejnbkaaaGreatDoor

/- Contracts and lemmas for the proofs of this seat; each theorem states its own conditions. -/
namespace Go.Proofs.YtddghaoejnbkaaaGreatDoor
open Go.RowKit
/-! Many cells written in one block -/
def putL (cur : Array Value) (o : Nat) : List Value → Array Value
  | [] => cur
  | v :: r => putL (cur.setIfInBounds o v) (o + 1) r
theorem putL_size : ∀ (vs : List Value) (cur : Array Value) (o : Nat), (putL cur o vs).size = cur.size
  | [], _, _ => rfl
  | _ :: r, cur, o => by rw [putL, putL_size r]; simp
theorem putL_eq : ∀ (vs : List Value) (cur : Array Value) (o : Nat), o + vs.length ≤ cur.size → (putL cur o vs).toList = cur.toList.take o ++ vs ++ cur.toList.drop (o + vs.length)
  | [], cur, o, _ => by simp [putL]
  | v :: r, cur, o, h => by
    simp only [List.length_cons] at h
    rw [putL, putL_eq r _ _ (by simp; omega), Array.toList_setIfInBounds, List.set_eq_take_append_cons_drop, if_pos (by simp; omega)]
    have e1 : (cur.toList.take o).length = o := by simp; omega
    have e2 : o + 1 - o = 1 := by omega
    have e3 : o + 1 + r.length - o = r.length + 1 := by omega
    rw [List.take_append, List.drop_append, e1, e2, e3, List.take_of_length_le (by omega), @List.drop_eq_nil_of_le _ (cur.toList.take o) _ (by omega)]
    simp [Nat.add_assoc, Nat.add_comm 1]
theorem setCells_heap (b : Nat) (t : TypeId) (fr : Nat × Nat) : ∀ (vs : List Value) (o : Nat) (w : World) (cur : Array Value), w.heap[b]? = some (.cells cur t fr) → (w.setCells b o vs).heap[b]? = some (.cells (putL cur o vs) t fr)
  | [], _, _, _, h => h
  | v :: r, o, w, cur, h => setCells_heap b t fr r (o + 1) _ _ (by simp [World.setCell, Array.getElem?_modify, h])
theorem ext_setCells {B b : Nat} {a : World} (hb : B ≤ b) : ∀ (vs : List Value) (o : Nat) (w : World), Below B a w → Below B a (w.setCells b o vs)
  | [], _, _, h => h
  | v :: r, o, w, h => ext_setCells hb r (o + 1) _ (Below.setCell h hb v)
theorem setCells_other {b k : Nat} (hk : k ≠ b) : ∀ (vs : List Value) (o : Nat) (w : World), (w.setCells b o vs).heap[k]? = w.heap[k]?
  | [], _, _ => rfl
  | v :: r, o, w => (setCells_other hk r (o + 1) _).trans (Below.heap_setCell _ _ _ _ (fun e => hk e))
end Go.Proofs.YtddghaoejnbkaaaGreatDoor

/- Contracts and lemmas for the proofs of this seat; each theorem states its own conditions. -/
namespace Go.Proofs.YtddghaoejnbkaaaGreatDoor
open Go.RowKit Go.Shelf Go.Lib Go.Sort
/-! deed.sorted: texts in order, each once -/
theorem bl_lt (x y : List UInt8) : (Op.bytesLess x y = true) ↔ x < y := by rw [bytesLess_eq]; simp
theorem lt_tri (x y : List UInt8) : x < y ∨ x = y ∨ y < x := by
  rcases bl_tri x y with h | h | h
  · exact .inl ((bl_lt _ _).1 h)
  · exact .inr (.inl h)
  · exact .inr (.inr ((bl_lt _ _).1 h))
theorem lt_tr {x y z : List UInt8} (h : x < y) (k : y < z) : x < z := (bl_lt _ _).1 (bl_trans _ _ _ ((bl_lt _ _).2 h) ((bl_lt _ _).2 k))
theorem lt_ir (x : List UInt8) : ¬ x < x := fun h => by have := (bl_lt _ _).2 h; rw [bl_irrefl] at this; cases this
theorem le_not {x y : List UInt8} : x ≤ y ↔ ¬ y < x := Iff.rfl
theorem le_lt {x y z : List UInt8} (h : x ≤ y) (k : y < z) : x < z := by
  rcases lt_tri x y with e | e | e
  · exact lt_tr e k
  · rw [e]; exact k
  · exact absurd e (le_not.1 h)
theorem le_tr {x y z : List UInt8} (h : x ≤ y) (k : y ≤ z) : x ≤ z := by
  rcases lt_tri y z with e | e | e
  · exact le_not.2 fun h' => lt_ir _ (lt_tr (le_lt h e) h')
  · rw [← e]; exact h
  · exact absurd e (le_not.1 k)
theorem sort_le (zs : List (List UInt8)) : (zs.mergeSort fun x y => decide (x ≤ y)).Pairwise fun x y => x ≤ y := by
  have := List.pairwise_mergeSort (le := fun x y : List UInt8 => decide (x ≤ y)) (fun a b c h k => by simp only [decide_eq_true_eq] at *; exact le_tr h k) (fun a b => by
    rcases lt_tri a b with e | e | e
    · simp only [Bool.or_eq_true, decide_eq_true_eq]; exact .inl (le_not.2 fun h => lt_ir _ (lt_tr e h))
    · simp only [Bool.or_eq_true, decide_eq_true_eq]; left; rw [e]; exact le_not.2 (lt_ir _)
    · simp only [Bool.or_eq_true, decide_eq_true_eq]; exact .inr (le_not.2 fun h => lt_ir _ (lt_tr e h))) zs
  exact this.imp fun h => by simpa using h
theorem comp_to {d : Array (List UInt8)} (h : ∀ i j, i < j → j < d.size → d[i]! ≤ d[j]!) : ∀ m, m ≤ d.size → (compactUpTo d m).Pairwise (fun x y => x < y) ∧ (∀ x ∈ compactUpTo d m, ∃ j, j < m ∧ x = d[j]!) ∧ ∀ j, j < m → d[j]! ∈ compactUpTo d m
  | 0, _ => by simp [compactUpTo]
  | m + 1, hm => by
    obtain ⟨h1, h2, h3⟩ := comp_to h m (by omega)
    rw [compactUpTo_succ]
    by_cases hk : keeps d m = true
    · rw [if_pos hk]
      refine ⟨List.pairwise_append.2 ⟨h1, by simp, fun a ha b hb => ?_⟩, fun x hx => ?_, fun j hj => ?_⟩
      · simp at hb; subst hb
        obtain ⟨j, hj, rfl⟩ := h2 a ha
        have hne : d[m]! ≠ d[m - 1]! := by
          simp [keeps] at hk
          rcases hk with e | e
          · omega
          · exact e
        have h4 := h (m - 1) m (by omega) (by omega)
        have h5 : d[m - 1]! < d[m]! := by
          rcases lt_tri (d[m - 1]!) (d[m]!) with e | e | e
          · exact e
          · exact absurd e.symm hne
          · exact absurd e (le_not.1 h4)
        rcases Nat.lt_or_ge j (m - 1) with e | e
        · exact le_lt (h j (m - 1) e (by omega)) h5
        · have : j = m - 1 := by omega
          rw [this]; exact h5
      · rcases List.mem_append.1 hx with hx | hx
        · obtain ⟨j, hj, e⟩ := h2 x hx; exact ⟨j, by omega, e⟩
        · simp at hx; exact ⟨m, by omega, hx⟩
      · rcases Nat.lt_or_ge j m with e | e
        · exact List.mem_append_left _ (h3 j e)
        · have : j = m := by omega
          rw [this]; simp
    · rw [if_neg hk, List.append_nil]
      have hm0 : m ≠ 0 ∧ d[m]! = d[m - 1]! := by
        simp [keeps] at hk; exact hk
      refine ⟨h1, fun x hx => ?_, fun j hj => ?_⟩
      · obtain ⟨j, hj, e⟩ := h2 x hx; exact ⟨j, by omega, e⟩
      · rcases Nat.lt_or_ge j m with e | e
        · exact h3 j e
        · have : j = m := by omega
          rw [this, hm0.2]
          exact h3 (m - 1) (by omega)
theorem comp_sorted {zs : List (List UInt8)} (h : zs.Pairwise fun x y => x ≤ y) : (compact zs).Pairwise (fun x y => x < y) ∧ ∀ x, x ∈ compact zs ↔ x ∈ zs := by
  have ha : ∀ i j, i < j → j < zs.toArray.size → zs.toArray[i]! ≤ zs.toArray[j]! := fun i j hij hj => by
    have hj' : j < zs.length := by simpa using hj
    have hi' : i < zs.length := by omega
    have := List.pairwise_iff_getElem.1 h i j hi' hj' hij
    simpa [hi', hj'] using this
  obtain ⟨h1, h2, h3⟩ := comp_to ha zs.length (by simp)
  refine ⟨h1, fun x => ⟨fun hx => ?_, fun hx => ?_⟩⟩
  · obtain ⟨j, hj, e⟩ := h2 x hx
    rw [e]; simp [hj]
  · obtain ⟨j, hj, rfl⟩ := List.mem_iff_getElem.1 hx
    have := h3 j hj
    unfold compact
    simpa [hj] using this
def ofL (b : List UInt8) : ByteArray := ⟨b.toArray⟩
theorem ofL_data (k : ByteArray) : ofL k.data.toList = k := by simp [ofL]
/-- texts in order, each once -/
def sortU (L : List ByteArray) : List ByteArray := (compact ((L.map fun k => k.data.toList).mergeSort fun x y => decide (x ≤ y))).map ofL
theorem sortU_mem (L : List ByteArray) (k : ByteArray) : k ∈ sortU L ↔ k ∈ L := by
  unfold sortU
  have h := (comp_sorted (sort_le (L.map fun k => k.data.toList))).2
  simp only [List.mem_map, h, List.mem_mergeSort]
  constructor
  · rintro ⟨b, ⟨q, hq, rfl⟩, rfl⟩; rw [ofL_data]; exact hq
  · intro hk; exact ⟨k.data.toList, ⟨k, hk, rfl⟩, ofL_data k⟩
theorem sortU_len (L : List ByteArray) : (sortU L).length ≤ L.length := by
  unfold sortU
  have := compact_length_le ((L.map fun k => k.data.toList).mergeSort fun x y => decide (x ≤ y))
  rw [List.length_map]
  refine Nat.le_trans this ?_
  rw [List.length_mergeSort]; simp
theorem own_puts {w : World} {B e n c g : Nat} {xs ys : List Value} (h : w.ownsRow B e 1 (.slice (some ⟨g, 0, none⟩) n c) n xs) (hl : ys.length = n) (q : Nat) (os : Array Obj) :
    (grow ((w.drewN q).setCells g 0 ys) os).ownsRow B e 1 (.slice (some ⟨g, 0, none⟩) n c) n ys ∧ w.grownBy (grow ((w.drewN q).setCells g 0 ys) os) (some g) := by
  obtain ⟨h0, h1⟩ := h
  rcases h1 with ⟨h1, _⟩ | ⟨g', cap, cur, h1, h2, h3, h4, h5, h6, h7⟩
  · cases h1
  · injection h1 with e1 _ e3
    injection e1 with e1; injection e1 with e1
    subst e1; subst e3
    have hh := setCells_heap g e (0, 0) ys 0 (w.drewN q) cur h3
    have hlt := lt_of_block hh
    have hb := ext_setCells (B := 0) (b := g) (a := w) (Nat.zero_le _) ys 0 (w.drewN q) ⟨rfl, rfl, rfl, Nat.le_refl _, fun _ _ => rfl⟩
    refine ⟨⟨by simpa using hl, .inr ⟨g, c, putL cur 0 ys, rfl, h2, ?_, h4, h5, by rw [putL_size]; exact h6, ?_⟩⟩, hb.os, hb.tape, hb.output, by rw [size_grow]; exact Nat.le_trans hb.size (Nat.le_add_right _ _), fun k hk hne => ?_⟩
    · rw [heap_grow_old _ _ hlt]; exact hh
    · rw [putL_eq _ _ _ (by omega)]
      simp [hl]
    · rw [heap_grow_old _ _ (Nat.lt_of_lt_of_le hk hb.size), setCells_other (fun e => hne (by rw [e])) ys 0]
      rfl
theorem own_shorter {w : World} {B e n m c g : Nat} {xs : List Value} (h : w.ownsRow B e 1 (.slice (some ⟨g, 0, none⟩) n c) n xs) (hm : m ≤ n) : w.ownsRow B e 1 (.slice (some ⟨g, 0, none⟩) m c) m (xs.take m) := by
  obtain ⟨h0, h1⟩ := h
  rcases h1 with ⟨h1, _⟩ | ⟨g', cap, cur, h1, h2, h3, h4, h5, h6, h7⟩
  · cases h1
  · injection h1 with e1 _ e3
    injection e1 with e1; injection e1 with e1
    subst e1; subst e3
    refine ⟨by rw [List.length_take]; omega, .inr ⟨g, c, cur, rfl, h2, h3, by omega, h5, h6, ?_⟩⟩
    rw [← h7, List.take_take]
    congr 1; omega
theorem holds_own {w : World} {B e c g : Nat} {zs : List (List UInt8)} {n : Nat} (h : w.ownsRow B e 1 (.slice (some ⟨g, 0, none⟩) n c) n (zs.map encStr)) : Holds encStr w g 0 zs.toArray := by
  intro j hj
  have hj' : j < zs.length := by simpa using hj
  have hn := h.1
  simp at hn
  obtain ⟨_, _, he, _, _, _, hc⟩ := seg_cells (own_seg h) (by omega)
  injection he with he; injection he with he1 he2
  subst he1; subst he2
  refine ⟨?_, ?_⟩
  · rw [hc j (encStr zs[j]) (by simp [hj'])]
    simp [hj']
  · obtain ⟨cur, hcu⟩ := own_heap h
    simp [World.frozen?, hcu]
theorem cS_enc (L : List ByteArray) : cS L = (L.map fun k => k.data.toList).map encStr := by
  simp [cS, encStr, Function.comp_def]
theorem cS_of (zs : List (List UInt8)) : cS (zs.map ofL) = zs.map encStr := by
  simp [cS, encStr, ofL, Function.comp_def]
set_option maxRecDepth 10000 in
set_option maxHeartbeats 1000000 in
theorem sorted_any (B : Nat) (v : Value) (L : List ByteArray) (w : World) (ho : w.ownsRow B 9 1 v L.length (cS L)) (hB : B ≤ w.heap.size) (hn : L.length ≤ 1000000) :
    Calls Tryz.prog 166 #[v] w fun e w' => ∃ v', e = .returned v' ∧ w'.ownsRow w.heap.size 9 1 v' (sortU L).length (cS (sortU L)) ∧ ∃ w1, w.grownBy w1 v.ownBlock ∧ Ext w1 w' := by
  by_cases h0 : L.length = 0
  · have hL : L = [] := List.eq_nil_of_length_eq_zero h0
    subst hL
    obtain ⟨a, c, rfl⟩ := own_form ho
    have hs := own_seg ho
    have S0 := hid (Any.slices_Sort_string_none lays190 a c w)
    have C0 := hid (Any.slices_Compact_string_empty lays194 a c w)
    have K0 := hid (clone_Str (.slice a 0 c) 0 [] w hs (by simp) (by omega))
    have hu : sortU [] = [] := by simp [sortU, compact, compactUpTo]
    rw [hu]
    clear hu
    go_enter Tryz.func166, Tryz.ntmps166
    go_wp2_with fail
    refine (S0.out).mono ?_
    rintro e w1 ⟨rfl, rfl⟩
    clear S0
    go_wp2_with fail
    refine (C0.out).mono ?_
    rintro e w1 ⟨rfl, rfl⟩
    go_wp2_with fail
    refine (K0.out).mono ?_
    rintro e w1 ⟨a', c', rfl, ho', E1⟩
    go_wp2
    go_ret
    exact ⟨_, rfl, ho', _, World.grownBy.refl _ _, E1⟩
  · obtain ⟨a, c, rfl⟩ := own_form ho
    obtain ⟨g, rfl, hg1, hg2, hg3, hg4⟩ := own_pos ho (by omega)
    clear h0
    rw [cS_enc] at ho
    have hl : (L.map fun k => k.data.toList).length = L.length := by simp
    have S1 := Any.slices_Sort_string lays190 g 0 c (L.map fun k => k.data.toList) w (holds_own ho) hg2 (by omega)
    have hls : ((L.map fun k => k.data.toList).mergeSort fun x y => decide (x ≤ y)).length = L.length := by rw [List.length_mergeSort, hl]
    have hsu : sortU L = (compact ((L.map fun k => k.data.toList).mergeSort fun x y => decide (x ≤ y))).map ofL := rfl
    have hle := compact_length_le ((L.map fun k => k.data.toList).mergeSort fun x y => decide (x ≤ y))
    have hH := holds_own ho
    rw [hl] at S1
    have PS := fun q => putRow_eq_setCells encStr w g 0 (L.map fun k => k.data.toList).toArray ((L.map fun k => k.data.toList).mergeSort fun x y => decide (x ≤ y)) q hH (by rw [hls]; simp)
    generalize ((L.map fun k => k.data.toList).mergeSort fun x y => decide (x ≤ y)) = M at S1 hls hsu hle PS
    generalize L.map (fun k => k.data.toList) = Z at ho hl hH PS
    have S1 := hid S1
    have PS := hid PS
    have HSU := hid hsu
    have hcl : (sortU L).length = (compact M).length := by rw [hsu]; simp
    clear hsu hH
    go_enter Tryz.func166, Tryz.ntmps166
    go_wp2_with fail
    refine (S1.out).mono ?_
    clear S1
    rintro e w1 ⟨rfl, q, os, rfl⟩
    rw [PS.out q]
    clear PS
    obtain ⟨ho1, hg'⟩ := own_puts ho (ys := M.map encStr) (by simpa using hls) q os
    generalize grow ((w.drewN q).setCells g 0 (M.map encStr)) os = w1 at ho1 hg' ⊢
    have C1 := Any.slices_Compact_string lays194 g 0 c M w1 (holds_own ho1) (by omega) (by omega)
    have hH1 := holds_own ho1
    have PS1 := fun q => putRow_eq_setCells encStr w1 g 0 M.toArray (compact M ++ List.replicate (M.length - (compact M).length) []) q hH1 (by simp; omega)
    rw [hls] at C1 PS1
    have hle' : (compact M).length ≤ L.length := by omega
    have C1 := hid C1
    have PS1 := hid PS1
    have HLE := hid hle'
    clear hH1 hls hl hle hle'
    generalize compact M = D at C1 PS1 HLE hcl HSU
    go_wp2_with fail
    refine (C1.out).mono ?_
    clear C1
    rintro e w2 ⟨rfl, q2, rfl⟩
    rw [PS1.out q2]
    clear PS1
    have hle := HLE.out
    obtain ⟨ho2, hg2'⟩ := own_puts ho1 (ys := (D ++ List.replicate (L.length - D.length) []).map encStr) (by simp; omega) q2 #[]
    rw [grow_empty] at ho2 hg2'
    have ho3 := own_shorter ho2 (m := D.length) hle
    have et : ((D ++ List.replicate (L.length - D.length) []).map encStr).take D.length = D.map encStr := by rw [List.map_append, List.take_left' (by simp)]
    rw [et] at ho3
    clear et
    generalize ((w1.drewN q2).setCells g 0 ((D ++ List.replicate (L.length - D.length) []).map encStr)) = w2 at ho2 ho3 hg2' ⊢
    have K0 := hid (clone_Str (.slice (some ⟨g, 0, none⟩) D.length c) D.length (D.map encStr) w2 (own_seg ho3) (by intro u hu; simp [encStr] at hu; obtain ⟨_, _, rfl⟩ := hu; rfl) (by omega))
    have hG := hg'.trans hg2'
    clear hle
    go_wp2_with fail
    refine (K0.out).mono ?_
    rintro e w3 ⟨a', c', rfl, ho', E1⟩
    go_wp2
    go_ret
    refine ⟨_, rfl, ?_, w2, hG, E1⟩
    rw [hcl, HSU.out, cS_of]
    exact own_base ho' hG.size
end Go.Proofs.YtddghaoejnbkaaaGreatDoor
