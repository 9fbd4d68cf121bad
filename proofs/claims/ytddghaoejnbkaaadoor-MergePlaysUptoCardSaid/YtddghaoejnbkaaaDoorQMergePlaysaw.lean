/- Contracts and lemmas for the proof of MergePlays; each theorem states its own conditions. -/
import Derived.Test.YtddghaoejnbkaaaDoorQMergePlaysas
import Derived.Test.YtddghaoejnbkaaaDoorQMergePlaysau
import Derived.Test.YtddghaoejnbkaaaDoorQMergePlaysav
set_option linter.unusedVariables false
set_option linter.unusedSimpArgs false
/- Contracts and lemmas for the proofs of this seat; each theorem states its own conditions. -/
namespace Go.Proofs.YtddghaoejnbkaaaDoor
open Go.RowKit
variable {eB : Nat}
/-! merge: an entry added, a batch closed, in memory -/
theorem row_set {w : World} {b n i : Nat} {v : Nat → Value} {t : TypeId} (h : w.heap[b]? = some (.cells (rowV n v).toArray t (0, 0))) (u : Value) : (w.setCell ⟨b, i, none⟩ u).heap[b]? = some (.cells (rowV n (fun j => if j = i then u else v j)).toArray t (0, 0)) := by
  rw [← rowV_set]
  simp [World.setCell, Array.getElem?_modify, h]
theorem apart_ne {u v : Value} (h : Apart u v) : u.ownBlock = none ∨ u.ownBlock ≠ v.ownBlock := by
  cases e : u.ownBlock with
  | none => exact .inl rfl
  | some k => right; intro h'; exact h k e h'.symm
theorem own_grown_set {w w' : World} {row : Option Nat} {B e sz n b i : Nat} {v u : Value} {xs : List Value} (hg : w.grownBy w' row) (ho : w.ownsRow B e sz v n xs) (h1 : v.ownBlock = none ∨ v.ownBlock ≠ row) (h2 : v.ownBlock ≠ some b) : (w'.setCell ⟨b, i, none⟩ u).ownsRow B e sz v n xs :=
  own_set_other (grown_own hg ho h1) h2 u
theorem own_type_ne {w : World} {B B' e e' sz sz' n n' : Nat} {v v' : Value} {xs xs' : List Value} (h : w.ownsRow B e sz v n xs) (h' : w.ownsRow B' e' sz' v' n' xs') (hne : e ≠ e') : ∀ k, v.ownBlock = some k → v'.ownBlock ≠ some k := fun k hk hk' => by
  rcases own_own_ne h h' hne with a | a
  · rw [a] at hk; cases hk
  · exact a (hk.trans hk'.symm)
theorem add_store {W w' : World} {S : Nat → Prop} {bm bc bo : Nat} {vc vo : Nat → Value} {cl : List (List Bat)} {op : List Bat} (h : MergeG eB W S bm bc bo vc vo cl op) {i : Nat} (hi : i < cl.length) {es : List EV} {e' : EV} {y : Ent} {v : Value}
    (hes : EntsSt eB W es (op.getD i [])) (hown : W.ownsRow 0 41 4 (vo i) (op.getD i []).length (cEn es)) (hin : InS S (vo i)) (hrow : w'.ownsRow 0 41 4 v ((op.getD i []).length + 1) (cEn es ++ evC e')) (he : EntSt eB w' e' y) (hg : W.grownBy w' (vo i).ownBlock)
    (hb : ∀ k, v.ownBlock = some k → (vo i).ownBlock = some k ∨ W.heap.size ≤ k) :
    ∃ S', MergeG eB (w'.setCell ⟨bo, i, none⟩ v) S' bm bc bo vc (fun j => if j = i then v else vo j) cl (addM op i y) ∧ Kp S W (w'.setCell ⟨bo, i, none⟩ v) S' := by
  have nbm := own_ne hown h.box (by decide)
  have nbc := own_ne hown h.crow (by decide)
  have nbo := own_ne hown h.orow (by decide)
  have bm' := grown_heap hg h.box nbm
  have bc' := grown_heap hg h.crow nbc
  have bo' := grown_heap hg h.orow nbo
  have hmo : bm ≠ bo := fun e => by have a := h.box; have b := h.orow; rw [e, b] at a; injection a with a; injection a with _ a; exact absurd a (by decide)
  have hco : bc ≠ bo := fun e => by have a := h.crow; have b := h.orow; rw [e, b] at a; injection a with a; injection a with _ a; exact absurd a (by decide)
  have hvo := own_ne hrow bo' (by decide)
  have hln := h.ln
  have k1 : Kp S W (w'.setCell ⟨bo, i, none⟩ v) S := (Kp.of_grown hg hin).put h.so v
  have k2 : Kp S W (w'.setCell ⟨bo, i, none⟩ v) (fun k => (S k ∧ (vo i).ownBlock ≠ some k) ∨ v.ownBlock = some k) := k1.wide fun k hk => by
    rcases hk with a | a
    · exact .inl a.1
    · rcases hb k a with c | c
      · exact .inl (hin k c)
      · exact .inr c
  have batG : ∀ {u : Value} {b : Bat}, BatSt eB W S u b → Apart u (vo i) → BatSt eB (w'.setCell ⟨bo, i, none⟩ v) (fun k => (S k ∧ (vo i).ownBlock ≠ some k) ∨ v.ownBlock = some k) u b := by
    rintro u b ⟨fs, a1, a2, a3⟩ ap
    exact ⟨fs, a1.kp h.ty k1, own_grown_set hg a2 (apart_ne ap) (own_ne a2 h.orow (by decide)), fun k hk => .inl ⟨a3 k hk, ap k hk⟩⟩
  have ltB : ∀ {u : Value} {b : Bat}, BatSt eB W S u b → ∀ k, u.ownBlock = some k → k < W.heap.size := by
    rintro u b ⟨fs, a1, a2, a3⟩ k hk
    exact (a2.lt k hk).2
  have apV : ∀ {u : Value} {b : Bat}, BatSt eB W S u b → Apart u (vo i) → Apart u v := fun hb' ap k hk hk' => by
    rcases hb k hk' with c | c
    · exact ap k hk c
    · have := ltB hb' k hk; omega
  refine ⟨fun k => (S k ∧ (vo i).ownBlock ≠ some k) ∨ v.ownBlock = some k, ⟨h.n0, h.n4, by rw [add_len]; exact hln, ?_, .inl ⟨h.sm, nbm⟩, .inl ⟨h.sc, nbc⟩, .inl ⟨h.so, nbo⟩, heap_set_far bm' hmo, heap_set_far bc' hco, row_set bo' v, ?_, ?_, h.clz, h.cbo, ?_, Nat.le_trans h.bs k2.size⟩, k2⟩
  · intro k hk
    rcases hk with ⟨a, b⟩ | a
    · obtain ⟨cs, e, hc, hm⟩ := h.ty k a
      have hc' := grown_heap hg hc b
      by_cases e2 : k = bo
      · subst e2
        exact ⟨_, _, row_set bo' v, by decide⟩
      · exact ⟨cs, e, heap_set_far hc' e2, hm⟩
    · obtain ⟨g, cap, cur, hv, _, hc, _⟩ : ∃ g cap cur, v = .slice (some ⟨g, 0, none⟩) _ cap ∧ 0 ≤ g ∧ w'.heap[g]? = some (.cells cur 41 (0, 0)) ∧ True := by
        rcases hrow.2 with ⟨e, _⟩ | ⟨g, cap, cur, e1, e2, e3, _⟩
        · rw [e] at a; cases a
        · exact ⟨g, cap, cur, e1, e2, e3, trivial⟩
      rw [hv] at a
      injection a with a
      subst a
      have : g ≠ bo := fun e => hvo (by rw [hv, e]; rfl)
      exact ⟨cur, _, heap_set_far hc this, by decide⟩
  · intro j hj
    obtain ⟨us, a1, a2, a3, a4⟩ := h.cls j hj
    refine ⟨us, a1, own_grown_set hg a2 (own_own_ne a2 hown (by decide)) (h.cbo j hj), fun k hk => .inl ⟨a3 k hk, own_type_ne a2 hown (by decide) k hk⟩, fun m u b p q => ?_⟩
    obtain ⟨c1, c2⟩ := a4 m u b p q
    refine ⟨batG c1 (c2 i hi), fun i' hi' => ?_⟩
    try dsimp only
    split
    · exact apV c1 (c2 i hi)
    · exact c2 i' hi'
  · intro j hj
    rw [add_at (by omega)]
    try dsimp only
    by_cases e : j = i
    · subst e
      rw [if_pos rfl, if_pos rfl]
      have hrw := own_set_other (p := ⟨bo, j, none⟩) hrow hvo v
      refine ⟨es ++ [e'], (hes.kp h.ty k1).snoc ?_, by rw [cEn_app, List.length_append]; simpa [cEn] using hrw, fun k hk => .inr hk⟩
      exact ⟨own_set_other he.ops (own_ne he.ops bo' (by decide)) v, he.im, own_set_other he.cuts (own_ne he.cuts bo' (by decide)) v, own_set_other he.own (own_ne he.own bo' (by decide)) v⟩
    · rw [if_neg e, if_neg e]
      exact batG (h.opn j hj) (h.opz j i hj hi e)
  · intro j j' hj hj' hne
    try dsimp only
    by_cases e : j = i
    · subst e
      rw [if_pos rfl, if_neg (fun e => hne e.symm)]
      intro k hk hk'
      exact apV (h.opn j' hj') (h.opz j' j hj' hi (fun e => hne e.symm)) k hk' hk
    · rw [if_neg e]
      split
      · exact apV (h.opn j hj) (h.opz j i hj hi e)
      · exact h.opz j j' hj hj' hne
theorem cls_store {W w' W3 : World} {S : Nat → Prop} {bm bc bo : Nat} {vc vo : Nat → Value} {cl : List (List Bat)} {op : List Bat} (h : MergeG eB W S bm bc bo vc vo cl op) {i : Nat} (hi : i < cl.length) {us : List Value} {v : Value}
    (hus : us.length = (cl.getD i []).length) (hown : W.ownsRow 0 23 1 (vc i) (cl.getD i []).length us) (hin : InS S (vc i)) (hbs : ∀ (j : Nat) (u : Value) (b : Bat), us[j]? = some u → (cl.getD i [])[j]? = some b → BatSt eB W S u b ∧ ∀ i', i' < cl.length → Apart u (vo i'))
    (hrow : w'.ownsRow 0 23 1 v ((cl.getD i []).length + 1) (us ++ [vo i])) (hg : W.grownBy w' (vc i).ownBlock)
    (hb : ∀ k, v.ownBlock = some k → (vc i).ownBlock = some k ∨ W.heap.size ≤ k) (E : Ext (w'.setCell ⟨bc, i, none⟩ v) W3) :
    ∃ S', MergeG eB (W3.setCell ⟨bo, i, none⟩ (.slice none 0 0)) S' bm bc bo (fun j => if j = i then v else vc j) (fun j => if j = i then .slice none 0 0 else vo j) (clsM cl i (op.getD i [])) (op.set i []) ∧ Kp S W (W3.setCell ⟨bo, i, none⟩ (.slice none 0 0)) S' := by
  have nbm := own_ne hown h.box (by decide)
  have nbc := own_ne hown h.crow (by decide)
  have nbo := h.cbo i hi
  have hmo : bm ≠ bo := fun e => by have a := h.box; have b := h.orow; rw [e, b] at a; injection a with a; injection a with _ a; exact absurd a (by decide)
  have hmc : bm ≠ bc := fun e => by have a := h.box; have b := h.crow; rw [e, b] at a; injection a with a; injection a with _ a; exact absurd a (by decide)
  have hco : bc ≠ bo := fun e => by have a := h.crow; have b := h.orow; rw [e, b] at a; injection a with a; injection a with _ a; exact absurd a (by decide)
  have bm' := heap_set_far (E.heap (heap_set_far (p := ⟨bc, i, none⟩) (u := v) (grown_heap hg h.box nbm) hmc)) (p := ⟨bo, i, none⟩) (u := .slice none 0 0) hmo
  have bc0 := grown_heap hg h.crow nbc
  have bc' := heap_set_far (E.heap (row_set bc0 (i := i) v)) (p := ⟨bo, i, none⟩) (u := .slice none 0 0) hco
  have bo0 := grown_heap hg h.orow nbo
  have bo1 := heap_set_far bo0 (p := ⟨bc, i, none⟩) (u := v) (fun e => hco e.symm)
  have bo' := row_set (E.heap bo1) (i := i) (.slice none 0 0)
  have hvc := own_ne hrow bc0 (by decide)
  have hvo : v.ownBlock ≠ some bo := fun e => by
    rcases hb bo e with c | c
    · exact nbo c
    · have := (Array.getElem?_eq_some_iff.1 h.orow).1; omega
  have hln := h.ln
  have hin2 : ∀ {B e sz n : Nat} {u : Value} {xs : List Value}, W.ownsRow B e sz u n xs → (u.ownBlock = none ∨ u.ownBlock ≠ (vc i).ownBlock) → u.ownBlock ≠ some bc → u.ownBlock ≠ some bo → (W3.setCell ⟨bo, i, none⟩ (.slice none 0 0)).ownsRow B e sz u n xs := fun ho a b c =>
    own_set_other (own_ext (own_set_other (p := ⟨bc, i, none⟩) (grown_own hg ho a) b v) E) c _
  have k1 : Kp S W (W3.setCell ⟨bo, i, none⟩ (.slice none 0 0)) S := (((Kp.of_grown hg hin).put h.sc v).ext E).put h.so _
  have k2 : Kp S W (W3.setCell ⟨bo, i, none⟩ (.slice none 0 0)) (fun k => (S k ∧ (vc i).ownBlock ≠ some k) ∨ v.ownBlock = some k) := k1.wide fun k hk => by
    rcases hk with a | a
    · exact .inl a.1
    · rcases hb k a with c | c
      · exact .inl (hin k c)
      · exact .inr c
  have batG : ∀ {u : Value} {b : Bat}, BatSt eB W S u b → BatSt eB (W3.setCell ⟨bo, i, none⟩ (.slice none 0 0)) (fun k => (S k ∧ (vc i).ownBlock ≠ some k) ∨ v.ownBlock = some k) u b := by
    rintro u b ⟨fs, a1, a2, a3⟩
    have hne := own_own_ne a2 hown (by decide)
    exact ⟨fs, a1.kp h.ty k1, hin2 a2 hne (own_ne a2 h.crow (by decide)) (own_ne a2 h.orow (by decide)), fun k hk => .inl ⟨a3 k hk, own_type_ne a2 hown (by decide) k hk⟩⟩
  refine ⟨fun k => (S k ∧ (vc i).ownBlock ≠ some k) ∨ v.ownBlock = some k, ⟨by rw [cls_len]; exact h.n0, by rw [cls_len]; exact h.n4, by rw [cls_len, List.length_set]; exact hln, ?_, .inl ⟨h.sm, nbm⟩, .inl ⟨h.sc, nbc⟩, .inl ⟨h.so, nbo⟩, by rw [cls_len]; exact bm', by rw [cls_len]; exact bc', by rw [cls_len]; exact bo', ?_, ?_, ?_, ?_, ?_, Nat.le_trans h.bs k2.size⟩, k2⟩
  · intro k hk
    rcases hk with ⟨a, b⟩ | a
    · obtain ⟨cs, e, hc, hm⟩ := h.ty k a
      have hc' := grown_heap hg hc b
      by_cases e3 : k = bc
      · subst e3; exact ⟨_, _, bc', by decide⟩
      · by_cases e2 : k = bo
        · subst e2; exact ⟨_, _, bo', by decide⟩
        · exact ⟨cs, e, heap_set_far (E.heap (heap_set_far hc' e3)) e2, hm⟩
    · obtain ⟨g, cap, cur, hv, _, hc, _⟩ : ∃ g cap cur, v = .slice (some ⟨g, 0, none⟩) _ cap ∧ 0 ≤ g ∧ w'.heap[g]? = some (.cells cur 23 (0, 0)) ∧ True := by
        rcases hrow.2 with ⟨e, _⟩ | ⟨g, cap, cur, e1, e2, e3, _⟩
        · rw [e] at a; cases a
        · exact ⟨g, cap, cur, e1, e2, e3, trivial⟩
      rw [hv] at a
      injection a with a
      subst a
      have g1 : g ≠ bo := fun e => hvo (by rw [hv, e]; rfl)
      have g2 : g ≠ bc := fun e => hvc (by rw [hv, e]; rfl)
      exact ⟨cur, _, heap_set_far (E.heap (heap_set_far hc g2)) g1, by decide⟩
  · intro j hj
    rw [cls_len] at hj
    rw [cls_at hi, cls_len]
    try dsimp only
    by_cases e : j = i
    · subst e
      rw [if_pos rfl, if_pos rfl]
      refine ⟨us ++ [vo j], by simp [hus], ?_, fun k hk => .inr hk, fun m u b p q => ?_⟩
      · rw [List.length_append]
        exact own_set_other (own_ext (own_set_other (p := ⟨bc, j, none⟩) hrow hvc v) E) hvo _
      · rcases Nat.lt_or_ge m us.length with hm | hm
        · rw [List.getElem?_append_left hm] at p
          rw [List.getElem?_append_left (by omega)] at q
          obtain ⟨c1, c2⟩ := hbs m u b p q
          refine ⟨batG c1, fun i' hi' => ?_⟩
          try dsimp only
          split
          · exact apart_nil' u
          · exact c2 i' hi'
        · rw [List.getElem?_append_right hm] at p
          rw [List.getElem?_append_right (by omega)] at q
          have hm0 : m - us.length = 0 := by
            have := (List.getElem?_eq_some_iff.1 p).1; simp at this; omega
          rw [hm0] at p; rw [← hus, hm0] at q
          simp at p q
          subst p; subst q
          have := batG (h.opn j hi)
          refine ⟨by simpa using this, fun i' hi' => ?_⟩
          try dsimp only
          split
          · exact apart_nil' _
          · rename_i hne
            exact h.opz j i' hi hi' (fun e => hne e.symm)
    · rw [if_neg e, if_neg e]
      obtain ⟨us', a1, a2, a3, a4⟩ := h.cls j hj
      have ap := h.clz j i hj hi e
      refine ⟨us', a1, hin2 a2 (apart_ne ap) (own_ne a2 h.crow (by decide)) (h.cbo j hj), fun k hk => .inl ⟨a3 k hk, ap k hk⟩, fun m u b p q => ?_⟩
      obtain ⟨c1, c2⟩ := a4 m u b p q
      refine ⟨batG c1, fun i' hi' => ?_⟩
      try dsimp only
      split
      · exact apart_nil' u
      · exact c2 i' hi'
  · intro j hj
    rw [cls_len] at hj
    try dsimp only
    by_cases e : j = i
    · subst e
      rw [if_pos rfl]
      have : (op.set j []).getD j [] = ([] : Bat) := by simp [List.getD_eq_getElem?_getD, List.getElem?_set_self (show j < op.length by omega)]
      rw [this]
      exact BatSt.nil _ _
    · rw [if_neg e]
      have : (op.set i []).getD j [] = op.getD j [] := by
        simp only [List.getD_eq_getElem?_getD]
        rw [List.getElem?_set_ne (fun h => e h.symm)]
      rw [this]
      exact batG (h.opn j hj)
  · intro j j' hj hj' hne
    rw [cls_len] at hj hj'
    have ltC : ∀ {m : Nat}, m < cl.length → ∀ k, (vc m).ownBlock = some k → k < W.heap.size := fun hm k hk => by
      obtain ⟨us', a1, a2, a3, a4⟩ := h.cls _ hm
      exact (a2.lt k hk).2
    try dsimp only
    by_cases e : j = i
    · subst e
      rw [if_pos rfl, if_neg (fun e => hne e.symm)]
      intro k hk hk'
      rcases hb k hk with c | c
      · exact h.clz j j' hj hj' hne k c hk'
      · have := ltC hj' k hk'; omega
    · rw [if_neg e]
      split
      · rename_i e'
        subst e'
        intro k hk hk'
        rcases hb k hk' with c | c
        · exact h.clz j j' hj hj' hne k hk c
        · have := ltC hj k hk; omega
      · exact h.clz j j' hj hj' hne
  · intro j hj
    rw [cls_len] at hj
    try dsimp only
    split
    · exact hvo
    · exact h.cbo j hj
  · intro j j' hj hj' hne
    rw [cls_len] at hj hj'
    try dsimp only
    split
    · exact apart_nil _
    · split
      · exact apart_nil' _
      · exact h.opz j j' hj hj' hne
end Go.Proofs.YtddghaoejnbkaaaDoor
