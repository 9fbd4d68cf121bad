/- Contracts and lemmas for the proof of CopiesSame; each theorem states its own conditions. -/
import Derived.Test.YtimchedebcoohaaGreatQCopiesSameaq
import Derived.Test.YtimchedebcoohaaGreatQCopiesSameah
import Derived.OneCell
import Derived.Test.YtimchedebcoohaaGreatQCopiesSameap
import Derived.Test.YtimchedebcoohaaGreatQCopiesSameak
import Derived.Shelf.Abstract
import Derived.Maps.OwnSet
set_option linter.unusedVariables false
set_option linter.unusedSimpArgs false
/- Contracts and lemmas for the proofs of this seat; each theorem states its own conditions. -/
namespace Go.Proofs.YtimchedebcoohaaGreat
open Go.RowKit Go.Maps
/-! roref.List -/
theorem lawS : Keyed Tryz.prog 9 := string_keyed Tryz.underlying9
theorem set_grown (w : World) (p : Addr) (u : Value) : w.grownBy (w.setCell p u) (some p.block) :=
  ⟨rfl, rfl, rfl, by simp, fun k _ hne => Below.heap_setCell _ _ _ _ (fun e => hne (by rw [e]))⟩
theorem ext_of_grown {w w' : World} (h : w.grownBy w' none) : Ext w w' := ⟨h.os, h.tape, h.output, h.size, fun k hk => h.block k hk (by simp)⟩
/-- where List's loop stands -/
def LRel (w : World) (b n : Nat) (D : DU) (f : ByteArray → Option Int) (wr : World) : Prop :=
  ∃ (left : Lit → Bool) (cnt : Nat) (l : Prs) (v : Value), wr.ranges Tryz.prog 9 (plainElem Tryz.prog 3) b (w.heap.size + 1) n D left cnt ∧ Gath f left l ∧ l.length + cnt ≤ n ∧
    wr.heap[w.heap.size]? = some (.cells #[v] 22 (0, 0)) ∧ wr.ownsRow (w.heap.size + 2) 33 2 v l.length (cP l) ∧ Ext w wr
set_option maxRecDepth 10000 in
set_option maxHeartbeats 1000000 in
theorem rlist_any (b n : Nat) (D : DU) (f : ByteArray → Option Int) (w : World) (hown : w.ownsMap Tryz.prog 9 (plainElem Tryz.prog 3) b n D) (hF : MapF kS okS dI D f) (hn : n ≤ 100000000) :
    Calls Tryz.prog 85 #[.map (some b)] w fun e w' => ∃ v' l, e = .returned v' ∧ srtP l ∧ nzP l ∧ (∀ k, valP l k = (f k).getD 0) ∧ l.length ≤ n ∧ w'.ownsRow w.heap.size 33 2 v' l.length (cP l) ∧ Ext w w' := by
  have hsz := own_size hown
  have hbl := hown.lt
  have b0 := heap_alloc_new w (.cells #[.slice none 0 0] 22)
  have E0 := (Ext.refl w).alloc (.cells #[.slice none 0 0] 22)
  have hown0 := ownsMap_ext hown E0
  go_enter Tryz.func85, Tryz.ntmps85
  go_wp2_with (first
    | (at_range; refine wpList_range_own _ rfl _ 152 rfl 9 3 lawS Tryz.underlying152 _ b n _ rfl hown0 ?_; intro w0 hrg0 hg0 hs0; simp only [World.size_alloc] at hrg0 ⊢)
    | go_in)
  go_frame
  have E1 := E0.trans (ext_of_grown hg0)
  go_loopw [4, 5] (fun _ _ wr => LRel w b n D f wr) (fun _ _ wr => wr.rangeLeft b (w.heap.size + 1))
  case atStart =>
    refine ⟨_, _, [], .slice none 0 0, by simpa using hrg0, gath_start hF, by simpa using hsz, grown_heap hg0 b0 (by simp), World.ownsRow_nil _ _ _ _, E1⟩
  case round =>
    obtain ⟨left, cnt, l, v, hrg, hG, hlc, hbx, ho, E⟩ := hrel
    go_wp2_with (first
      | (at_next; refine wpList_next_si _ rfl _ rfl 9 3 lawS Tryz.underlying9 Tryz.underlying3 b (w.heap.size + 1) n D f hF _ _ rfl hrg ?_ ?_)
      | go_in)
    · intro hl0
      obtain ⟨ao, co, rfl⟩ := own_form ho
      have c1 := cell_of_one hbx
      have hne : (Value.slice ao l.length co).ownBlock ≠ some w.heap.size := fun e => by have := own_ge ho _ e; omega
      go_wp2_with fail
      refine (sortP_any (w.heap.size + 2) co w.heap.size ao l _ ho (by omega) c1 hne).mono ?_
      rintro e w2 ⟨rfl, l', hl', hp, hs, ho2, hg2⟩
      have hb2 := grown_heap hg2 hbx hne
      have c2 := cell_of_one hb2
      have hge := own_ge ho
      have E2 : Ext w w2 := E.grown hg2 (fun k hk => by have := hge k hk; omega)
      obtain ⟨r1, r2, r3⟩ := gath_end hG hl0 hp hs hF.2.1
      go_wp2
      go_ret
      exact ⟨_, l', rfl, r1, r2, r3, by omega, by rw [hl']; exact own_base ho2 (by omega), E2⟩
    · intro x c w1 cnt1 hwx hwc hlx hfx hrg1 hlt hg1 hs1 hen
      have hge := own_ge ho
      have E1' : Ext w w1 := E.grown hg1 (fun k hk => by injection hk with hk; omega)
      have hb1 := grown_heap hg1 hbx (by simp)
      have hne : v.ownBlock ≠ some (w.heap.size + 1) := fun e => by have := hge _ e; omega
      have ho1 := grown_own hg1 ho (.inr hne)
      by_cases hc : c = 0
      · subst hc
        have hG' := gath_drop hG hwx hlx hfx
        have HG := hid hG'
        clear hG hG'
        go_wp2
        go_roundw
        case rel => exact ⟨_, cnt1, l, v, hrg1, HG.out, by omega, hb1, ho1, E1'⟩
        case measure => rw [hrg1.left_eq, hrg.left_eq]; exact hlt
      · have hG' := gath_keep hG hwx hlx hfx hc
        have hc' : (c != 0) = true := by simp [hc]
        have HG := hid hG'
        clear hG hG' hc
        obtain ⟨ao, co, rfl⟩ := own_form ho
        have c1 := cell_of_one hb1
        have f1 := free_of_one hb1
        have hb1a := ((Ext.refl w1).alloc (.cells #[.string x, .int .i64 c] 33)).heap hb1
        have bn := heap_alloc_new w1 (.cells #[.string x, .int .i64 c] 33)
        have hsv : Seg (w1.alloc (.cells #[.string x, .int .i64 c] 33)) (.slice (some ⟨w1.heap.size, 0, none⟩) 1 1) 2 1 [.string x, .int .i64 c] :=
          ⟨rfl, _, _, rfl, Nat.le_refl _, by simp [maxLen], fun _ => ⟨w1.heap.size, 0, rfl, fun j u hu => by have := seg_vb bn j u hu; rwa [addr_add] at this⟩⟩
        have hrg1a := hrg1.alloc (.cells #[.string x, .int .i64 c] 33)
        have E1a := E1'.alloc (.cells #[.string x, .int .i64 c] 33)
        have hB : w.heap.size + 2 ≤ (w1.alloc (.cells #[.string x, .int .i64 c] 33)).heap.size := by have := hrg1.lt; simp; omega
        have hne2 : (Value.slice ao l.length co).ownBlock ≠ some w.heap.size := fun e => by have := hge _ e; omega
        have hne3 : (Value.slice ao l.length co).ownBlock ≠ some b := fun e => by have := hge _ e; omega
        clear bn hs1
        go_wp2_with (first | (at_builtin; refine (wpList_app rfl _ _ 22 rfl (w.heap.size + 2) 33 (.agg #[.string ⟨#[]⟩, .int .i64 0]) 2 24 Tryz.underlying22 infoP rfl (by decide) _ l.length (cP l) rfl (ho1.alloc _) (.slice (some ⟨w1.heap.size, 0, none⟩) 1 1) 1 [.string x, .int .i64 c] rfl hsv (kv_one _ _) (by omega) (by unfold maxLen; omega) hB ?_); intro v' w4 ho' hg; obtain ⟨a4, c4', rfl⟩ := own_form ho'; have hb4 := grown_heap hg hb1a hne2; have c4 := cell_of_one hb4; have f4 := free_of_one hb4))
        go_roundw
        case rel =>
          have hrg4 := hrg1a.kept hg (fun e => hne3 e.symm) (fun e => hne e.symm)
          have hrg5 := hrg4.kept (set_grown w4 ⟨w.heap.size, 0, none⟩ (.slice a4 (l.length + 1) c4')) (by simp; omega) (by simp)
          have E4 : Ext w w4 := E1a.grown hg (fun k hk => by have := hge k hk; omega)
          refine ⟨_, cnt1, l ++ [(x, c)], _, hrg5, HG.out, by simp; omega, one_setCell hb4, ?_, E4.setCell (Nat.le_refl _) _⟩
          have := own_set_far ho' (p := ⟨w.heap.size, 0, none⟩) (u := .slice a4 (l.length + 1) c4') (by simp)
          rw [List.length_append, cP_app, cP_one1]
          exact this
        case measure =>
          have hrg4 := hrg1a.kept hg (fun e => hne3 e.symm) (fun e => hne e.symm)
          have hrg5 := hrg4.kept (set_grown w4 ⟨w.heap.size, 0, none⟩ (.slice a4 (l.length + 1) c4')) (by simp; omega) (by simp)
          rw [hrg5.left_eq, hrg.left_eq]; exact hlt
end Go.Proofs.YtimchedebcoohaaGreat

/- Contracts and lemmas for the proofs of this seat; each theorem states its own conditions. -/
namespace Go.Proofs.YtimchedebcoohaaGreat
open Go.RowKit
/-! what slices.DeleteFunc's walk leans on -/
theorem grown_of_ext {w w' : World} (h : Ext w w') {row : Option Nat} : w.grownBy w' row := ⟨h.os, h.tape, h.output, h.size', fun i hi _ => Below.block h i hi⟩
theorem row_grown (w : World) (g : Nat) (cs : Array Value) : w.grownBy (w.setRow g cs) (some g) := by
  have hB := below_setRow (Below.refl 0 w) (Nat.zero_le g) cs
  exact ⟨hB.os, hB.tape, hB.output, hB.size, fun k _ hne => setRow_other w g k _ (fun e => hne (by rw [e]))⟩
theorem own_cell_set {w : World} {B e sz n c g i : Nat} {xs : List Value} (h : w.ownsRow B e sz (.slice (some ⟨g, 0, none⟩) n c) n xs) (hi : i < xs.length) (u : Value) : (w.setCell ⟨g, i, none⟩ u).ownsRow B e sz (.slice (some ⟨g, 0, none⟩) n c) n (xs.set i u) := by
  obtain ⟨h0, h1⟩ := h
  rcases h1 with ⟨h1, _⟩ | ⟨g', cap, cur, h1, h2, h3, h4, h5, h6, h7⟩
  · cases h1
  · injection h1 with e1 _ e3
    injection e1 with e1; injection e1 with e1
    subst e1; subst e3
    refine ⟨by simpa using h0, .inr ⟨g, c, cur.setIfInBounds i u, rfl, h2, ?_, h4, h5, by simpa using h6, ?_⟩⟩
    · simp [World.setCell, Array.getElem?_modify, h3]
    · show (cur.setIfInBounds i u).toList.take (n * sz) = xs.set i u
      rw [← h7]
      rw [Array.toList_setIfInBounds, List.take_set]
theorem own_free {w : World} {B e sz n c g : Nat} {xs : List Value} (h : w.ownsRow B e sz (.slice (some ⟨g, 0, none⟩) n c) n xs) (i : Nat) : w.frozen? ⟨g, i, none⟩ = false := by
  obtain ⟨cur, hc⟩ := own_heap h
  simp [World.frozen?, hc]
theorem own_cell_at {w : World} {B e sz n c g i : Nat} {xs : List Value} (h : w.ownsRow B e sz (.slice (some ⟨g, 0, none⟩) n c) n xs) (hi : i < xs.length) : ∃ u, w.cell? ⟨g, i, none⟩ = some u := by
  have hn : 0 < n := by
    rcases Nat.eq_zero_or_pos n with e | e
    · have := h.1; rw [e] at this; omega
    · exact e
  obtain ⟨_, _, he, _, _, _, hc⟩ := seg_cells (own_seg h) hn
  injection he with he; injection he with he1 he2
  subst he1; subst he2
  have := hc i xs[i] (List.getElem?_eq_getElem hi)
  rw [Nat.zero_add] at this
  exact ⟨_, this⟩
/-- two stores into one's own row, side by side -/
theorem own_two {w : World} {B e sz n c g i : Nat} {xs : List Value} (h : w.ownsRow B e sz (.slice (some ⟨g, 0, none⟩) n c) n xs) (hi : i + 1 < xs.length) (u : Value) :
    (∃ z, w.cell? ⟨g, i, none⟩ = some z) ∧ w.frozen? ⟨g, i, none⟩ = false ∧ (∃ z, (w.setCell ⟨g, i, none⟩ u).cell? ⟨g, i + 1, none⟩ = some z) ∧ (w.setCell ⟨g, i, none⟩ u).frozen? ⟨g, i + 1, none⟩ = false := by
  have h2 := own_cell_set h (i := i) (by omega) u
  exact ⟨own_cell_at h (by omega), own_free h i, own_cell_at h2 (by rw [List.length_set]; omega), own_free h2 (i + 1)⟩
theorem first_of {α : Type} {p : α → Bool} {L : List α} (h : ¬ ∀ x ∈ L, p x = false) : ∃ i, ∃ (hi : i < L.length), (∀ j (h : j < i), p (L[j]'(by omega)) = false) ∧ p L[i] = true := by
  induction L with
  | nil => exact absurd (by simp) h
  | cons x L ih =>
    cases hx : p x with
    | true => exact ⟨0, by simp, fun j hj => by omega, by simpa using hx⟩
    | false =>
      obtain ⟨i, hi, h1, h2⟩ := ih fun hh => h fun y hy => by
        rcases List.mem_cons.1 hy with e | e
        · rw [e]; exact hx
        · exact hh y e
      refine ⟨i + 1, by simpa using hi, fun j hj => ?_, by simpa using h2⟩
      cases j with
      | zero => simpa using hx
      | succ j => simpa using h1 j (by omega)
theorem first_fil {α : Type} {p : α → Bool} {L : List α} {i : Nat} (hi : i < L.length) (hlo : ∀ j (h : j < i), p (L[j]'(by omega)) = false) (hp : p L[i] = true) :
    ((L.take (i + 1)).filter fun x => !p x).length = i ∧ ((L.take (i + 1)).filter fun x => !p x) ++ [L[i]] ++ L.drop (i + 1) = L := by
  have e : ((L.take (i + 1)).filter fun x => !p x) = L.take i := by
    rw [List.take_succ_eq_append_getElem hi, List.filter_append]
    have e1 : (L.take i).filter (fun x => !p x) = L.take i := List.filter_eq_self.2 fun x hx => by
      obtain ⟨j, hj, rfl⟩ := List.mem_iff_getElem.1 hx
      simp only [List.length_take] at hj
      rw [List.getElem_take]
      simp [hlo j (by omega)]
    rw [e1]; simp [hp]
  rw [e]
  refine ⟨by rw [List.length_take]; omega, ?_⟩
  rw [List.append_assoc, List.singleton_append, ← List.drop_eq_getElem_cons hi, List.take_append_drop]
theorem del_step {α : Type} {p : α → Bool} {L mid : List α} {i j : Nat} (hj : j < L.length) (hf : ((L.take j).filter fun x => !p x).length = i) (hm : i + mid.length = j) (hij : i < j) :
    (p L[j] = true → ∃ mid', ((L.take (j + 1)).filter fun x => !p x).length = i ∧ i + mid'.length = j + 1 ∧ ((L.take (j + 1)).filter fun x => !p x) ++ mid' ++ L.drop (j + 1) = ((L.take j).filter fun x => !p x) ++ mid ++ L.drop j) ∧
    (p L[j] = false → ∃ mid', ((L.take (j + 1)).filter fun x => !p x).length = i + 1 ∧ i + 1 + mid'.length = j + 1 ∧ ((L.take (j + 1)).filter fun x => !p x) ++ mid' ++ L.drop (j + 1) = (((L.take j).filter fun x => !p x) ++ mid ++ L.drop j).set i L[j]) := by
  have e1 : (L.take (j + 1)).filter (fun x => !p x) = (L.take j).filter (fun x => !p x) ++ [L[j]].filter (fun x => !p x) := by
    rw [List.take_succ_eq_append_getElem hj, List.filter_append]
  have e2 := List.drop_eq_getElem_cons hj
  generalize (L.take j).filter (fun x => !p x) = A at hf e1
  generalize L[j] = x at e1 e2
  refine ⟨fun h => ⟨mid ++ [x], ?_, by simp; omega, ?_⟩, fun h => ?_⟩
  · rw [e1]; simp [h, hf]
  · rw [e1, e2]; simp [h]
  · obtain ⟨m0, rest, rfl⟩ : ∃ m0 rest, mid = m0 :: rest := by
      cases mid with
      | nil => simp at hm; omega
      | cons m0 rest => exact ⟨m0, rest, rfl⟩
    refine ⟨rest ++ [x], ?_, by simp at hm ⊢; omega, ?_⟩
    · rw [e1]; simp [h, hf]
    · rw [e1, e2, List.append_assoc A (m0 :: rest), List.set_append, if_neg (by omega), hf, Nat.sub_self]
      simp [h]
end Go.Proofs.YtimchedebcoohaaGreat

/- Contracts and lemmas for the proofs of this seat; each theorem states its own conditions. -/
namespace Go.Proofs.YtimchedebcoohaaGreat
open Go.RowKit
/-! slices.IndexFunc, ContainsFunc, DeleteFunc at claims -/
/-- the cells of claims -/
def cK (l : List (Nat × Bool)) : List Value := l.flatMap fun c => [.int .i64 c.1, .bool c.2]
theorem cK_cons (c : Nat × Bool) (l : List (Nat × Bool)) : cK (c :: l) = .int .i64 c.1 :: .bool c.2 :: cK l := by simp [cK]
theorem cK_app (a b : List (Nat × Bool)) : cK (a ++ b) = cK a ++ cK b := by simp [cK]
theorem cK_len : ∀ l : List (Nat × Bool), (cK l).length = l.length * 2
  | [] => rfl
  | c :: l => by rw [cK_cons]; simp only [List.length_cons, cK_len l]; omega
theorem cK_one (l : List (Nat × Bool)) : ∀ u ∈ cK l, u.oneCell' = true := by
  intro u hu
  simp only [cK, List.mem_flatMap] at hu
  obtain ⟨c, _, hc⟩ := hu
  simp at hc
  rcases hc with rfl | rfl <;> rfl
theorem cK_at : ∀ (l : List (Nat × Bool)) (k : Nat) (hk : k < l.length), (cK l)[k * 2]? = some (.int .i64 l[k].1) ∧ (cK l)[k * 2 + 1]? = some (.bool l[k].2)
  | [], k, h => by simp at h
  | c :: l, 0, h => by simp [cK_cons]
  | c :: l, k + 1, h => by
    have := cK_at l k (by simpa using h)
    rw [show (k + 1) * 2 = k * 2 + 1 + 1 by omega, cK_cons]
    simpa using this
set_option maxRecDepth 10000 in
set_option maxHeartbeats 1000000 in
theorem indexF_K (fn : Nat) (cs : Array Value) (hen : ∀ args w, (callFunc fn args).run Tryz.prog w = .ok (.enter fn args) w) (p : Nat × Bool → Bool) (v : Value) (L : List (Nat × Bool)) (w : World) (hv : Seg w v 2 L.length (cK L))
    (hc : ∀ x ∈ L, ∀ w', Ext w w' → Calls Tryz.prog fn (#[.agg #[.int .i64 x.1, .bool x.2]] ++ cs) w' fun e w'' => e = .returned (.bool (p x)) ∧ Ext w' w'') :
    Calls Tryz.prog 126 #[v, .func (.func fn) #[] cs] w fun e w' => e = .returned (.int .i64 (firstI p L 0)) ∧ Ext w w' := by
  obtain ⟨h0, a, cap, rfl, h1, h2, h3⟩ := hv
  unfold maxLen at h2
  have H3 := hid h3
  have HC := hid hc
  clear h3 hc h0
  go_enter Tryz.func126, Tryz.ntmps126
  go_wp2
  go_loopw [5, 8] (fun _ i wr => ∃ k : Nat, k ≤ L.length ∧ i = .int .i64 k ∧ (∀ j (h : j < L.length), j < k → p L[j] = false) ∧ Ext w wr) (fun _ i _ => L.length - (intOf i).toNat)
  case atStart => exact ⟨0, Nat.zero_le _, rfl, fun j _ h => by omega, Ext.refl _⟩
  case round =>
    obtain ⟨k, hk, rfl, hn, E⟩ := hrel
    have HN := hid hn
    clear hn
    by_cases hlt : k < L.length
    · obtain ⟨b, off, rfl, hcell⟩ := H3.out (by omega)
      have x0 := E.cell (hcell (k * 2) _ (cK_at L k hlt).1)
      have x1 := E.cell (hcell (k * 2 + 1) _ (cK_at L k hlt).2)
      rw [← Nat.add_assoc] at x1
      have C := HC.out L[k] (List.getElem_mem hlt) wr E
      clear hcell
      cases hp : p L[k] with
      | true =>
        rw [hp] at C
        have C := hid C
        have hi : firstI p L 0 = (k : Int) := by
          have := firstI_hit (i := 0) hlt (fun j h' => HN.out j (by omega) h') hp
          simpa using this
        have HI := hid hi
        clear hi hp
        generalize L[k] = x at x0 x1 C
        go_wp2_with (first | (go_at_fn fn; refine (C.out).mono ?_; rintro e wa ⟨rfl, Ea⟩))
        go_ret
        exact ⟨rI HI.out.symm, E.trans Ea⟩
      | false =>
        rw [hp] at C
        have C := hid C
        have HP := hid hp
        have HS := hid (show ∀ j (h : j < L.length), j < k + 1 → p L[j] = false from fun j hj h => by
          rcases Nat.lt_or_ge j k with h' | h'
          · exact HN.out j hj h'
          · have : j = k := by omega
            subst this; exact HP.out)
        clear hp
        generalize L[k] = x at x0 x1 C
        go_wp2_with (first | (go_at_fn fn; refine (C.out).mono ?_; rintro e wa ⟨rfl, Ea⟩))
        go_roundw
        case rel => exact ⟨k + 1, by omega, by go_num, HS.out, E.trans Ea⟩
        case measure => simp [intOf]; omega
    · obtain rfl : k = L.length := by omega
      have hi : firstI p L 0 = -1 := firstI_miss fun x hx => by
        obtain ⟨j, hj, rfl⟩ := List.mem_iff_getElem.1 hx
        exact HN.out j hj hj
      have HI := hid hi
      clear hi
      go_wp2
      go_ret
      exact ⟨rI HI.out.symm, E⟩
set_option maxHeartbeats 1000000 in
theorem containsF_K (fn : Nat) (cs : Array Value) (hen : ∀ args w, (callFunc fn args).run Tryz.prog w = .ok (.enter fn args) w) (p : Nat × Bool → Bool) (v : Value) (L : List (Nat × Bool)) (w : World) (hv : Seg w v 2 L.length (cK L))
    (hc : ∀ x ∈ L, ∀ w', Ext w w' → Calls Tryz.prog fn (#[.agg #[.int .i64 x.1, .bool x.2]] ++ cs) w' fun e w'' => e = .returned (.bool (p x)) ∧ Ext w' w'') :
    Calls Tryz.prog 142 #[v, .func (.func fn) #[] cs] w fun e w' => e = .returned (.bool (L.any p)) ∧ Ext w w' := by
  have C := hid (indexF_K fn cs hen p v L w hv hc)
  have HA := hid (firstI_any (p := p) (l := L) (i := 0))
  generalize firstI p L 0 = z at C HA
  clear hc hv
  go_enter Tryz.func142, Tryz.ntmps142
  go_wp2_with fail
  refine (C.out).mono ?_
  rintro e wa ⟨rfl, Ea⟩
  go_wp2
  go_ret
  exact ⟨rB (by rw [← HA.out]), Ea⟩
theorem delset_K (x : Nat × Bool) : ∀ (l : List (Nat × Bool)) (k : Nat), k < l.length → ((cK l).set (k * 2) (.int .i64 x.1)).set (k * 2 + 1) (.bool x.2) = cK (l.set k x)
  | [], k, h => by simp at h
  | c :: l, 0, h => by simp [cK]
  | c :: l, k + 1, h => by
    have := delset_K x l k (by simpa using h)
    have e : ∀ (y : Nat × Bool) (m : List (Nat × Bool)), cK (y :: m) = [.int .i64 y.1, .bool y.2] ++ cK m := fun y m => by simp [cK]
    rw [show (k + 1) * 2 = k * 2 + 1 + 1 by omega, List.set_cons_succ, e, e, ← this]
    rfl
theorem infoDelK : (Tryz.prog.info? 181).map (fun i => (i.zero, i.size, i.bytes)) = some (some (.agg #[.int .i64 0, .bool false]), 2, 16) := by kernel_rfl
theorem zeroDelK (w : World) : (zeroValue 181).run Tryz.prog w = .ok (.agg #[.int .i64 0, .bool false]) w := Tryz.zeroValue181 w
theorem zeroDelCK (n : Nat) : ∀ v ∈ (Builtin.zeroCells (Value.agg #[.int .i64 0, .bool false]).cells n).toList, v.oneCell' = true := by
  intro v hv
  have hc : (Value.agg #[.int .i64 0, .bool false]).cells = #[.int .i64 0, .bool false] := by kernel_rfl
  rw [hc] at hv
  simp only [Builtin.zeroCells, Array.toList_map, List.mem_map] at hv
  obtain ⟨i, _, rfl⟩ := hv
  have h2 : i % 2 = 0 ∨ i % 2 = 1 := by omega
  rcases h2 with h2 | h2 <;> simp [h2, Value.oneCell']
set_option maxRecDepth 10000 in
set_option maxHeartbeats 2000000 in
theorem delF_K (B fn : Nat) (cs : Array Value) (hen : ∀ args w, (callFunc fn args).run Tryz.prog w = .ok (.enter fn args) w) (p : Nat × Bool → Bool) (v : Value) (L : List (Nat × Bool)) (w : World) (ho : w.ownsRow B 181 2 v L.length (cK L)) (hn : L.length ≤ 1000000)
    (hc : ∀ x ∈ L, ∀ w', w.grownBy w' v.ownBlock → Calls Tryz.prog fn (#[.agg #[.int .i64 x.1, .bool x.2]] ++ cs) w' fun e w'' => e = .returned (.bool (p x)) ∧ Ext w' w'') :
    Calls Tryz.prog 106 #[v, .func (.func fn) #[] cs] w fun e w' => ∃ v', e = .returned v' ∧ w'.ownsRow B 181 2 v' (L.filter fun x => !p x).length (cK (L.filter fun x => !p x)) ∧ w.grownBy w' v.ownBlock ∧ v'.ownBlock = v.ownBlock := by
  have hI := indexF_K fn cs hen p v L w (own_seg ho) (fun x hx w' E => hc x hx w' (grown_of_ext E))
  obtain ⟨a, c, rfl⟩ := own_form ho
  by_cases hany : ∀ x ∈ L, p x = false
  · rw [firstI_miss hany] at hI
    have hI := hid hI
    have hf := hid (show (L.filter fun x => !p x) = L from List.filter_eq_self.2 fun x hx => by simp [hany x hx])
    clear hany hc
    go_enter Tryz.func106, Tryz.ntmps106
    go_wp2_with fail
    refine (hI.out).mono ?_
    rintro e w1 ⟨rfl, E1⟩
    go_wp2
    go_ret
    exact ⟨_, rfl, by rw [hf.out]; exact own_ext ho E1, grown_of_ext E1, rfl⟩
  · obtain ⟨i0, hi0, hlo, hp0⟩ := first_of hany
    rw [firstI_hit hi0 (fun j h => hlo j h) hp0, Nat.zero_add] at hI
    have hI := hid hI
    obtain ⟨g, rfl, hg1, hg2, hg3, hg4⟩ := own_pos ho (by omega)
    unfold maxLen at hg4
    have HC := hid hc
    have qi : ((i0 : Int) == -1) = false := by simp
    have F0 := hid (first_fil hi0 hlo hp0)
    clear hany hc hlo hp0
    go_enter Tryz.func106, Tryz.ntmps106
    go_wp2_with fail
    refine (hI.out).mono ?_
    clear hI
    rintro e w1 ⟨rfl, E1⟩
    go_wp2_with fail
    go_loopw [5, 6, 7] (fun i6 j6 _ wr => ∃ (i j : Nat) (mid : List (Nat × Bool)), i6 = .int .i64 i ∧ j6 = .int .i64 j ∧ j ≤ L.length ∧ ((L.take j).filter fun x => !p x).length = i ∧ i + mid.length = j ∧ i < j ∧ wr.ownsRow B 181 2 (.slice (some ⟨g, 0, none⟩) L.length c) L.length (cK (((L.take j).filter fun x => !p x) ++ mid ++ L.drop j)) ∧ w.grownBy wr (some g)) (fun _ j6 _ _ => L.length - (intOf j6).toNat)
    case atStart => exact ⟨i0, i0 + 1, [L[i0]], rfl, by go_num, by omega, F0.out.1, rfl, by omega, by rw [F0.out.2]; exact own_ext ho E1, grown_of_ext E1⟩
    case round =>
      obtain ⟨i, j, mid, rfl, rfl, hj, hfi, hmid, hij, ho2, hg⟩ := hrel
      by_cases hjl : j < L.length
      · have hlen : ((((L.take j).filter fun x => !p x) ++ mid ++ L.drop j)).length = L.length := by simp only [List.length_append, List.length_drop]; omega
        have hget : (((L.take j).filter fun x => !p x) ++ mid ++ L.drop j)[j]? = some L[j] := by
          rw [List.getElem?_append_right (by simp only [List.length_append]; omega)]
          simp only [List.length_append, hfi, hmid, Nat.sub_self]
          simp [hjl]
        have hstep := del_step (p := p) hjl hfi hmid hij
        obtain ⟨_, _, he, _, _, _, hcell⟩ := seg_cells (own_seg ho2) (by omega)
        injection he with he; injection he with he1 he2
        subst he1; subst he2
        generalize hM : ((L.take j).filter fun x => !p x) ++ mid ++ L.drop j = M at ho2 hlen hget hcell hstep
        have hMj : M[j]'(by omega) = L[j] := by rw [List.getElem?_eq_getElem (by omega)] at hget; injection hget
        have x0 := hcell (j * 2) _ (cK_at M j (by omega)).1
        have x1 := hcell (j * 2 + 1) _ (cK_at M j (by omega)).2
        rw [hMj, Nat.zero_add] at x0 x1
        have hmem := List.getElem_mem hjl
        clear hcell hget hMj hM
        have HST := hid hstep
        clear hstep
        generalize L[j] = x at x0 x1 hmem HST
        have bx := heap_alloc_new wr (.cells #[.int .i64 x.1, .bool x.2] 181)
        have EA := (Ext.refl wr).alloc (.cells #[.int .i64 x.1, .bool x.2] 181)
        have gA := hg.trans (grown_of_ext EA)
        have C := HC.out x hmem (wr.alloc (.cells #[.int .i64 x.1, .bool x.2] 181)) gA
        cases hp : p x with
        | true =>
          rw [hp] at C
          have C := hid C
          have S1 := hid (HST.out.1 hp)
          clear hp
          have xb := blk2 bx
          go_wp2_with (first | (go_at_fn fn; refine (C.out).mono ?_; rintro e wa ⟨rfl, Ea⟩))
          go_roundw
          case rel =>
            obtain ⟨mid', s1, s2, s3⟩ := S1.out
            exact ⟨i, j + 1, mid', rfl, by go_num, by omega, s1, s2, by omega, by rw [s3]; exact own_ext (own_ext ho2 EA) Ea, gA.trans (grown_of_ext Ea)⟩
          case measure => simp [intOf]; omega
        | false =>
          rw [hp] at C
          have C := hid C
          have S1 := hid (HST.out.2 hp)
          clear hp
          have hil : i < M.length := by omega
          go_wp2_with (first | (go_at_fn fn; refine (C.out).mono ?_; rintro e wa ⟨rfl, Ea⟩; have xb := blk2 (Ea.heap bx); obtain ⟨⟨y0, w0⟩, w1, ⟨y2, w2⟩, w3⟩ := own_two (own_ext (own_ext ho2 EA) Ea) (i := i * 2) (by rw [cK_len]; omega) (.int .i64 x.1)))
          go_roundw
          case rel =>
            obtain ⟨mid', s1, s2, s3⟩ := S1.out
            have o3 := own_ext (own_ext ho2 EA) Ea
            have o4 := own_cell_set o3 (i := i * 2) (by rw [cK_len]; omega) (.int .i64 x.1)
            have o5 := own_cell_set o4 (i := i * 2 + 1) (by rw [List.length_set, cK_len]; omega) (.bool x.2)
            rw [delset_K x M i hil] at o5
            exact ⟨i + 1, j + 1, mid', by go_num, by go_num, by omega, s1, s2, by omega, by rw [s3]; exact o5, ((gA.trans (grown_of_ext Ea)).trans (set_grown _ _ _)).trans (set_grown _ _ _)⟩
          case measure => simp [intOf]; omega
      · have hjL : j = L.length := by omega
        subst hjL
        rw [List.take_of_length_le (Nat.le_refl _)] at hfi ho2
        rw [List.drop_of_length_le (Nat.le_refl _), List.append_nil] at ho2
        obtain ⟨g', cur, he, hb, hlt, hrow, hnc, hcm, hcl, htk⟩ := own_row ho2 (by omega)
        injection he with he; injection he with he
        subst he
        have hz2 : (Builtin.zeroCells (Value.agg #[.int .i64 0, .bool false]).cells (L.length - i)).size = (L.length - i) * 2 := by
          rw [size_zeroCells]; rfl
        have hz3 : (Builtin.zeroCells (Value.agg #[.int .i64 0, .bool false]).cells (L.length - i)).toList.length = (L.length - i) * 2 := hz2
        have hclr := fun ty => run_clear_row (P := Tryz.prog) wr 178 181 ty _ Tryz.underlying178 zeroDelK g (i * 2) (L.length - i) (c - i) cur (by omega) hrow (by rw [hz2, hcl]; omega) (zeroDelCK _)
        have hl3 := spl_len (cur := cur) (o := i * 2) (vs := (Builtin.zeroCells (Value.agg #[.int .i64 0, .bool false]).cells (L.length - i)).toList) (by rw [hz3, hcl]; omega)
        have ht3 := spl_take_lo (cur := cur) (o := i * 2) (m := i * 2) (vs := (Builtin.zeroCells (Value.agg #[.int .i64 0, .bool false]).cells (L.length - i)).toList) (by rw [hcl]; omega) (Nat.le_refl _)
        have hrow3 := hrow.set (spl cur (i * 2) (Builtin.zeroCells (Value.agg #[.int .i64 0, .bool false]).cells (L.length - i)).toList)
        have hB3 := row_grown wr g (spl cur (i * 2) (Builtin.zeroCells (Value.agg #[.int .i64 0, .bool false]).cells (L.length - i)).toList).toArray
        generalize spl cur (i * 2) (Builtin.zeroCells (Value.agg #[.int .i64 0, .bool false]).cells (L.length - i)).toList = cur3 at hclr hl3 ht3 hrow3 hB3
        have hcut : cur.take (i * 2) = cK (L.filter fun x => !p x) := by
          have h1 : cur.take (i * 2) = (cK ((L.filter fun x => !p x) ++ mid)).take (i * 2) := by rw [← htk, List.take_take, Nat.min_eq_left (by omega)]
          rw [h1, cK_app, List.take_left' (by rw [cK_len, hfi])]
        have HD := hid (And.intro (hl3.trans hcl) (ht3.trans hcut))
        have HCL := hid hclr
        have HF := hid hfi
        have hci : ¬ c = i := by omega
        have hi1 : (i : Int) ≤ (L.length : Int) := by omega
        have hi2 : (i : Int) ≤ (c : Int) := by omega
        clear hl3 ht3 hz2 hz3 hclr hcut htk hcl hfi ho2
        go_wp2_with (first | (refine wpList_clear_run wr rfl _ _ rfl _ (by rfl) (HCL.out _) ?_))
        go_ret
        refine ⟨_, rfl, ?_, hg.trans hB3, rfl⟩
        rw [HF.out]
        exact own_of_row hrow3 hb (by omega) hcm HD.out.1 (by rw [cK_len, HF.out]) HD.out.2
end Go.Proofs.YtimchedebcoohaaGreat

/- Contracts and lemmas for the proofs of this seat; each theorem states its own conditions. -/
namespace Go.Proofs.YtimchedebcoohaaGreat
open Go.RowKit Go.Maps
/-! maps whose elements are slices of one's own, read by the slice VALUE: a row's block, length and capacity -/
abbrev SV := Option (Nat × Nat × Nat)
def svV : SV → Value
  | none => .slice none 0 0
  | some (g, n, c) => .slice (some ⟨g, 0, none⟩) n c
def dV : SV → DU
  | none => .nil
  | some (g, n, c) => .agg [.lit (.int .i64 g), .lit (.int .i64 n), .lit (.int .i64 c)]
theorem dV_inj {a b : SV} (h : dV a = dV b) : a = b := by
  cases a with
  | none => cases b with
    | none => rfl
    | some b => obtain ⟨g, n, c⟩ := b; simp [dV] at h
  | some a => cases b with
    | none => obtain ⟨g, n, c⟩ := a; simp [dV] at h
    | some b =>
      obtain ⟨g, n, c⟩ := a
      obtain ⟨g', n', c'⟩ := b
      simp [dV] at h
      have h1 : g = g' := by omega
      have h2 : n = n' := by omega
      have h3 : c = c' := by omega
      rw [h1, h2, h3]
def svElem (v : Value) : Option (DU × List MemPlace) :=
  match v with
  | .slice none n c => if n = 0 ∧ c = 0 then some (.nil, []) else none
  | .slice (some a) n c => if a.off = 0 ∧ a.spot = none then some (.agg [.lit (.int .i64 a.block), .lit (.int .i64 n), .lit (.int .i64 c)], []) else none
  | _ => none
theorem svElem_mk (s : SV) : svElem (svV s) = some (dV s, []) := by
  cases s with
  | none => simp [svV, svElem, dV]
  | some s => obtain ⟨g, n, c⟩ := s; simp [svV, svElem, dV]
theorem svElem_inv {v : Value} {z : DU × List MemPlace} (h : svElem v = some z) : ∃ s, v = svV s ∧ z = (dV s, []) := by
  unfold svElem at h
  split at h
  · split at h
    · rename_i e; obtain ⟨rfl, rfl⟩ := e; exact ⟨none, rfl, (Option.some.inj h).symm⟩
    · cases h
  · rename_i a n c
    split at h
    · rename_i e
      obtain ⟨b, off, sp⟩ := a
      obtain ⟨rfl, rfl⟩ := e
      exact ⟨some (b, n, c), rfl, (Option.some.inj h).symm⟩
    · cases h
  · cases h
theorem sv_block (s : SV) : (svV s).ownBlock = s.map (·.1) := by
  cases s with
  | none => rfl
  | some s => rfl
/-- what an own row is as such a value -/
theorem sv_of_own {w : World} {B e sz n : Nat} {v : Value} {xs : List Value} (h : w.ownsRow B e sz v n xs) : ∃ s : SV, v = svV s ∧ ∀ p, s = some p → p.2.1 = n := by
  rcases h.2 with ⟨rfl, _⟩ | ⟨g, cap, cur, rfl, _⟩
  · exact ⟨none, rfl, fun p hp => by cases hp⟩
  · exact ⟨some (g, n, cap), rfl, fun p hp => by injection hp with hp; subst hp; rfl⟩
section
variable {P : Program} (w : World) {ops : Array Oper} {rest : List Oper} {o : Oper} {a : Act} {Q : Exit → Act → World → Prop}
/-- m[k] -/
theorem wpList_lookup_sv {κ : Type} {klit : κ → Lit} {ok : κ → Prop} (hg : o.guard = none) (m x : Operand) (t : TypeId) (hop : o.op = Op.lookup t m x false)
    (k e : TypeId) (K : Keyed P k) (ht : P.underlying t = some (.map k e)) (hz : (zeroValue e).run P w = .ok (.slice none 0 0) w) (b n : Nat) (D : DU) (f : κ → Option SV) (hF : MapF klit ok dV D f)
    (hm : a.eval m = .map (some b)) (hown : w.ownsMap P k svElem b n D) (key : Value) (kk : κ) (hkk : ok kk) (hx : a.eval x = key) (hkey : Go.keyOf P k key = some (klit kk))
    (hK : wpList P ops Q rest (a.put o.dst (svV ((f kk).getD none))) w) : wpList P ops Q (o :: rest) a w := by
  refine wpList_plain hg fun K' hK' => ?_
  obtain ⟨v, ps, hrun, hv⟩ := hown.lookup K ht hz (svElem_mk none) hkey
  obtain ⟨s, rfl, hs⟩ := svElem_inv hv
  injection hs with hs _
  have := hF.look dV_inj hkk hs
  subst this
  unfold Oper.wp
  simp [execOp, hop, hm, hx, hrun, Result.andThen]
  exact hK' _ _ hK
/-- m[k], under a guard that holds -/
theorem wpList_lookup_svg {κ : Type} {klit : κ → Lit} {ok : κ → Prop} (hg : Region.wanted o (yielded ops a.tmps) = true) (m x : Operand) (t : TypeId) (hop : o.op = Op.lookup t m x false)
    (k e : TypeId) (K : Keyed P k) (ht : P.underlying t = some (.map k e)) (hz : (zeroValue e).run P w = .ok (.slice none 0 0) w) (b n : Nat) (D : DU) (f : κ → Option SV) (hF : MapF klit ok dV D f)
    (hm : a.eval m = .map (some b)) (hown : w.ownsMap P k svElem b n D) (key : Value) (kk : κ) (hkk : ok kk) (hx : a.eval x = key) (hkey : Go.keyOf P k key = some (klit kk))
    (hK : wpList P ops Q rest (a.put o.dst (svV ((f kk).getD none))) w) : wpList P ops Q (o :: rest) a w := by
  refine wpList_step fun K' hK' => ?_
  rw [if_pos hg]
  obtain ⟨v, ps, hrun, hv⟩ := hown.lookup K ht hz (svElem_mk none) hkey
  obtain ⟨s, rfl, hs⟩ := svElem_inv hv
  injection hs with hs _
  have := hF.look dV_inj hkk hs
  subst this
  unfold Oper.wp
  simp [execOp, hop, hm, hx, hrun, Result.andThen]
  exact hK' _ _ hK
/-- v, ok := m[k] -/
theorem wpList_lookup_sv_ok {κ : Type} {klit : κ → Lit} {ok : κ → Prop} (hg : o.guard = none) (m x : Operand) (t : TypeId) (hop : o.op = Op.lookup t m x true)
    (k e : TypeId) (K : Keyed P k) (ht : P.underlying t = some (.map k e)) (hz : (zeroValue e).run P w = .ok (.slice none 0 0) w) (b n : Nat) (D : DU) (f : κ → Option SV) (hF : MapF klit ok dV D f)
    (hm : a.eval m = .map (some b)) (hown : w.ownsMap P k svElem b n D) (key : Value) (kk : κ) (hkk : ok kk) (hx : a.eval x = key) (hkey : Go.keyOf P k key = some (klit kk))
    (hK : wpList P ops Q rest (a.put o.dst (.tuple #[svV ((f kk).getD none), .bool (f kk).isSome])) w) : wpList P ops Q (o :: rest) a w :=
  wpList_lookup_own_ok w hg m x t hop k e K ht svElem hz .nil [] (svElem_mk none) b n D hm hown key _ hx hkey (fun v ps hv => by
    obtain ⟨s, rfl, hs⟩ := svElem_inv hv
    injection hs with hs _
    have := hF.look (z := none) dV_inj hkk hs
    subst this
    rw [hF.has hkk]
    exact hK)
end
end Go.Proofs.YtimchedebcoohaaGreat
