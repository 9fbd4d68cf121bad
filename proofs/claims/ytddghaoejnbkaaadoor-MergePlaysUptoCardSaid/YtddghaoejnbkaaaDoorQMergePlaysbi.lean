/- Contracts and lemmas for the proof of MergePlays; each theorem states its own conditions. -/
import Derived.Test.YtddghaoejnbkaaaDoorQMergePlaysbh
set_option linter.unusedVariables false
set_option linter.unusedSimpArgs false
/- Contracts and lemmas for the proofs of this seat; each theorem states its own conditions. -/
namespace Go.Proofs.YtddghaoejnbkaaaDoor
open Go.RowKit
/-! roref.NewMerge -/
theorem own_lit0 {w : World} {g B : Nat} {x : Value} {t : TypeId} (h : w.heap[g]? = some (.cells #[x] t (0, 0))) (hB : B ≤ g) : w.ownsRow B t 1 (.slice (some ⟨g, 0, none⟩) 1 1) 1 [x] :=
  ⟨rfl, .inr ⟨g, 1, _, rfl, hB, h, Nat.le_refl _, by simp [maxLen], rfl, rfl⟩⟩
theorem infoLL : (Tryd.prog.info? 52).map (fun i => (i.zero, i.size, i.bytes)) = some (some (.slice none 0 0), 1, 24) := by kernel_rfl
/-- what NewMerge holds after some rounds -/
structure NewG (w wr : World) (i : Nat) (vB : Value) (us : List Value) : Prop where
  ln : us.length = i
  e : Ext w wr
  box : wr.heap[w.heap.size]? = some (.cells #[vB] 56 (0, 0))
  outer : wr.ownsRow w.heap.size 52 1 vB us.length us
  rows : ∀ (j : Nat) (u : Value), us[j]? = some u → ∃ b, u = .slice (some ⟨b, 0, none⟩) 1 1 ∧ w.heap.size ≤ b ∧ wr.heap[b]? = some (.cells #[.slice none 0 0] 23 (0, 0))
  apart : ∀ (j k : Nat) (u v : Value), us[j]? = some u → us[k]? = some v → j ≠ k → u ≠ v
theorem NewG.done {w wr : World} {n : Nat} {vB : Value} {us : List Value} (h : NewG w wr n vB us) (h0 : 0 < n) (h4 : n ≤ 4) {P : Nat → Prop} (hP : ∀ q, P q → q < w.heap.size) : RMS wr (fun k => k = w.heap.size ∨ vB.ownBlock = some k ∨ ∃ u ∈ us, u.ownBlock = some k) P w.heap.size (List.replicate n [[]]) ∧ ∀ k, (k = w.heap.size ∨ vB.ownBlock = some k ∨ ∃ u ∈ us, u.ownBlock = some k) → w.heap.size ≤ k := by
  have low : ∀ k, (k = w.heap.size ∨ vB.ownBlock = some k ∨ ∃ u ∈ us, u.ownBlock = some k) → w.heap.size ≤ k := fun k hk => by
    rcases hk with e | e | ⟨u, hu, e⟩
    · omega
    · exact own_ge h.outer k e
    · obtain ⟨j, hj, rfl⟩ := List.mem_iff_getElem.1 hu
      obtain ⟨b, e1, hb, _⟩ := h.rows j us[j] (List.getElem?_eq_getElem hj)
      rw [e1] at e; injection e with e; subst e; exact hb
  refine ⟨⟨vB, us, by simp [h.ln], by simpa using h0, by simpa using h4, h.box, own_base h.outer (Nat.zero_le _), fun i u l hu hl => ?_, fun i j u v hu hv hij k hk hk2 => ?_, .inl rfl, fun k hk => .inr (.inl hk), fun k hk => ?_, fun q hq hs => by have := low q hs; have := hP q hq; omega, fun q hq => Nat.lt_of_lt_of_le (hP q hq) h.e.size'⟩, low⟩
  · obtain ⟨b, rfl, hb, hh⟩ := h.rows i u hu
    have hl2 : l = [[]] := by
      rw [List.getElem?_replicate] at hl
      split at hl
      · injection hl with hl; exact hl.symm
      · cases hl
    subst hl2
    refine ⟨[.slice none 0 0], own_lit0 hh (Nat.zero_le _), fun k t X ht hX => ?_, by simp, by simp, fun k hk => ?_⟩
    · cases k with
      | zero =>
        simp at ht hX
        subst ht; subst hX
        exact EntsP.nil _ _
      | succ k => simp at ht
    · exact .inr (.inr ⟨_, List.mem_of_getElem? hu, hk⟩)
  · obtain ⟨b, rfl, _, _⟩ := h.rows i u hu
    obtain ⟨b', rfl, _, _⟩ := h.rows j v hv
    have := h.apart i j _ _ hu hv hij
    simp [Value.ownBlock] at hk hk2
    subst hk; subst hk2
    exact this rfl
  · rcases hk with e | e | ⟨u, hu, e⟩
    · subst e; exact ⟨_, _, h.box, by decide⟩
    · obtain ⟨cur, hc⟩ := own_some h.outer e
      exact ⟨cur, _, hc, by decide⟩
    · obtain ⟨j, hj, rfl⟩ := List.mem_iff_getElem.1 hu
      obtain ⟨b, e1, _, hh⟩ := h.rows j us[j] (List.getElem?_eq_getElem hj)
      rw [e1] at e; injection e with e; subst e
      exact ⟨_, _, hh, by decide⟩
set_option maxRecDepth 100000 in
set_option maxHeartbeats 4000000 in
theorem rmnew_any (n : Nat) (h0 : 0 < n) (h4 : n ≤ 4) (w : World) (P : Nat → Prop) (hP : ∀ q, P q → q < w.heap.size) :
    Calls Tryd.prog 7 #[.int .i64 n] w fun e w' => ∃ bm S, e = .returned (.pointer (some ⟨bm, 0, none⟩)) ∧ RMS w' S P bm (List.replicate n [[]]) ∧ (∀ k, S k → w.heap.size ≤ k) ∧ Ext w w' := by
  go_enter Tryd.func7, Tryd.ntmps7
  go_wp2_with fail
  go_loopw [7] (fun iv wr => ∃ (i : Nat) (vB : Value) (us : List Value), i ≤ n ∧ iv = .int .i64 i ∧ NewG w wr i vB us) (fun iv _ => n - (intOf iv).toNat)
  case atStart => exact ⟨0, _, [], Nat.zero_le _, rfl, rfl, (Ext.refl w).alloc _, heap_alloc_new _ _, World.ownsRow_nil _ _ _ _, fun j u h => by simp at h, fun j k u v h => by simp at h⟩
  case round =>
    obtain ⟨wq, rfl⟩ : ∃ wq : World, wq = wr := ⟨_, rfl⟩
    obtain ⟨i, vB, us, hi, rfl, hG⟩ := hrel
    have hb := blk1 hG.box
    by_cases hil : i < n
    · have hO := hG.outer
      rw [hG.ln] at hO
      obtain ⟨a, c, rfl⟩ := own_form hO
      have HG := hid hG
      have HLN := hid hG.ln
      have EA := ((Ext.refl wq).alloc (.cells #[.slice none 0 0] 23)).alloc (.cells #[.slice (some ⟨wq.heap.size, 0, none⟩) 1 1] 52)
      have p1 : Seg ((wq.alloc (.cells #[.slice none 0 0] 23)).alloc (.cells #[.slice (some ⟨wq.heap.size, 0, none⟩) 1 1] 52)) (.slice (some ⟨wq.heap.size + 1, 0, none⟩) 1 1) 1 1 [.slice (some ⟨wq.heap.size, 0, none⟩) 1 1] := by
        have hx := heap_alloc_new (wq.alloc (.cells #[.slice none 0 0] 23)) (.cells #[.slice (some ⟨wq.heap.size, 0, none⟩) 1 1] 52)
        simp only [World.size_alloc] at hx
        exact seg_one hx
      have p2 := own_ext hO EA
      have p3 : w.heap.size ≤ ((wq.alloc (.cells #[.slice none 0 0] 23)).alloc (.cells #[.slice (some ⟨wq.heap.size, 0, none⟩) 1 1] 52)).heap.size := by have := hG.e.size'; simp; omega
      have bn := hid (((Ext.refl _).alloc (.cells #[.slice (some ⟨wq.heap.size, 0, none⟩) 1 1] 52)).heap (heap_alloc_new wq (.cells #[.slice none 0 0] 23)))
      have HEA := hid EA
      have HP2 := hid p2
      clear hG hO
      go_wp2_with (first | (at_builtin; refine (wpList_app rfl _ _ 51 rfl w.heap.size 52 (.slice none 0 0) 1 24 Tryd.underlying51 infoLL rfl (by decide) _ i us rfl p2 _ 1 _ rfl p1 (fun u hu => by simp only [List.mem_singleton] at hu; subst hu; rfl) (by omega) (by unfold maxLen; omega) p3 ?_); intro v' w9 ho' hg; obtain ⟨a9, k9, e9⟩ := own_form ho'; subst e9; have hb9 := grown_heap hg (HEA.out.heap HG.out.box) (own_ne HP2.out (HEA.out.heap HG.out.box) (by decide)); have d9 := blk1 hb9))
      go_roundw
      case rel =>
        have hlt : w.heap.size < wq.heap.size := (Array.getElem?_eq_some_iff.1 HG.out.box).1
        have hrow : ∀ (b : Nat) (cs : Array Value), ((wq.alloc (.cells #[.slice none 0 0] 23)).alloc (.cells #[.slice (some ⟨wq.heap.size, 0, none⟩) 1 1] 52)).heap[b]? = some (.cells cs 23 (0, 0)) → ∀ u, (w9.setCell ⟨w.heap.size, 0, none⟩ u).heap[b]? = some (.cells cs 23 (0, 0)) := fun b cs hh u => by
          have h1 := grown_heap hg hh (own_ne HP2.out hh (by decide))
          refine heap_set_far h1 ?_
          intro e
          subst e
          rw [hb9] at h1
          injection h1 with h1; injection h1 with _ h1
          exact absurd h1 (by decide)
        refine ⟨i + 1, _, us ++ [.slice (some ⟨wq.heap.size, 0, none⟩) 1 1], by omega, by go_num, by simp [HLN.out], ?_, blk1_set hb9 _, ?_, fun j u hu => ?_, fun j k u v hu hv hjk => ?_⟩
        · exact ((HG.out.e.trans HEA.out).grown hg (fun k hk => own_ge HP2.out k hk)).setCell (Nat.le_refl _) _
        · rw [List.length_append, HLN.out]
          refine grown_own (grown_set _ _ _ _) ho' ?_
          right
          exact own_ne ho' hb9 (by decide)
        · have hln := HLN.out
          by_cases hj : j < us.length
          · rw [List.getElem?_append_left hj] at hu
            obtain ⟨b, rfl, h1, h2⟩ := HG.out.rows j u hu
            exact ⟨b, rfl, h1, hrow b _ (HEA.out.heap h2) _⟩
          · rw [List.getElem?_append_right (by omega)] at hu
            have : j - us.length = 0 := by
              rcases Nat.eq_zero_or_pos (j - us.length) with q | q
              · exact q
              · rw [List.getElem?_eq_none (by simp; omega)] at hu; cases hu
            rw [this] at hu
            simp at hu
            subst hu
            exact ⟨_, rfl, by omega, hrow _ _ bn.out _⟩
        · have hold : ∀ (j : Nat) (u : Value), us[j]? = some u → u ≠ .slice (some ⟨wq.heap.size, 0, none⟩) 1 1 := fun j u hu e => by
            obtain ⟨b, rfl, _, hh⟩ := HG.out.rows j u hu
            injection e with e _ _
            injection e with e
            injection e with e _ _
            have := (Array.getElem?_eq_some_iff.1 hh).1
            omega
          have hlast : ∀ (j : Nat) (u : Value), ¬ j < us.length → (us ++ [.slice (some ⟨wq.heap.size, 0, none⟩) 1 1])[j]? = some u → j = us.length ∧ u = .slice (some ⟨wq.heap.size, 0, none⟩) 1 1 := fun j u hj hu => by
            rw [List.getElem?_append_right (by omega)] at hu
            have h0 : j - us.length = 0 := by
              rcases Nat.eq_zero_or_pos (j - us.length) with q | q
              · exact q
              · rw [List.getElem?_eq_none (by simp; omega)] at hu; cases hu
            rw [h0] at hu
            simp at hu
            exact ⟨by omega, hu.symm⟩
          by_cases hj : j < us.length
          · rw [List.getElem?_append_left hj] at hu
            by_cases hk : k < us.length
            · rw [List.getElem?_append_left hk] at hv
              exact HG.out.apart j k u v hu hv hjk
            · obtain ⟨_, rfl⟩ := hlast k v hk hv
              exact hold j u hu
          · obtain ⟨ej, rfl⟩ := hlast j u hj hu
            by_cases hk : k < us.length
            · rw [List.getElem?_append_left hk] at hv
              exact fun e => hold k v hv e.symm
            · obtain ⟨ek, _⟩ := hlast k v hk hv
              exact absurd (ej.trans ek.symm) hjk
      case measure => simp [intOf] <;> omega
    · obtain rfl : i = n := by omega
      have HD := hid (hG.done h0 h4 hP)
      have HEE := hid hG.e
      clear hG
      go_wp2
      go_ret
      exact ⟨_, _, rfl, HD.out.1, HD.out.2, HEE.out⟩
end Go.Proofs.YtddghaoejnbkaaaDoor
