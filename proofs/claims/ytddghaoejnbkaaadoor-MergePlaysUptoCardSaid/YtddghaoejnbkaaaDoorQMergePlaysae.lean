/- Contracts and lemmas for the proof of MergePlays; each theorem states its own conditions. -/
import Derived.Test.YtddghaoejnbkaaaDoorQMergePlaysad
import Derived.Test.YtddghaoejnbkaaaDoorQMergePlaysaa
set_option linter.unusedVariables false
set_option linter.unusedSimpArgs false
/- Contracts and lemmas for the proofs of this seat; each theorem states its own conditions. -/
namespace Go.Proofs.YtddghaoejnbkaaaDoor
/-! roref.Merge, plain: of each input its batches, of which the last one is open -/
def batR (cl : List (List Bat)) (op : List Bat) (i : Nat) : List Bat := cl.getD i [] ++ [op.getD i []]
def batM (cl : List (List Bat)) (op : List Bat) : List (List Bat) := (List.range cl.length).map (batR cl op)
theorem batM_len (cl : List (List Bat)) (op : List Bat) : (batM cl op).length = cl.length := by simp [batM]
theorem batM_at {cl : List (List Bat)} (op : List Bat) {i : Nat} (h : i < cl.length) : (batM cl op).getD i [] = batR cl op i := by simp [batM, h]
theorem batR_len (cl : List (List Bat)) (op : List Bat) (i : Nat) : (batR cl op i).length = (cl.getD i []).length + 1 := by simp [batR]
/-- Rounds: from 60 on, the least number of batches that are closed -/
def rrTo (bs : List (List Bat)) : Nat → Nat
  | 0 => 60
  | k + 1 => min (rrTo bs k) ((bs.getD k []).length - 1)
theorem rrTo_le (bs : List (List Bat)) : ∀ {k i : Nat}, i < k → rrTo bs k ≤ (bs.getD i []).length - 1
  | k + 1, i, h => by
    rw [rrTo]
    rcases Nat.lt_or_ge i k with e | e
    · have := rrTo_le bs e; omega
    · obtain rfl : i = k := by omega
      omega
theorem rrTo_ge (bs : List (List Bat)) {n : Nat} (h0 : n ≤ 60) : ∀ {k : Nat}, (∀ i, i < k → n ≤ (bs.getD i []).length - 1) → n ≤ rrTo bs k
  | 0, _ => h0
  | k + 1, h => by
    have := rrTo_ge bs h0 (k := k) fun i hi => h i (by omega)
    have := h k (by omega)
    rw [rrTo]; omega
theorem rr_eq {cl : List (List Bat)} (op : List Bat) (h0 : 0 < cl.length) (h : ∀ i, i < cl.length → (cl.getD i []).length ≤ 60) : rrTo (batM cl op) cl.length = rdM cl := by
  have hl : ∀ i, i < cl.length → ((batM cl op).getD i []).length - 1 = (cl.getD i []).length := fun i hi => by rw [batM_at op hi, batR_len]; omega
  refine Nat.le_antisymm (rdM_ge h0 fun i hi => ?_) (rrTo_ge _ ?_ fun i hi => ?_)
  · have := rrTo_le (batM cl op) hi
    rw [hl i hi] at this
    exact this
  · obtain ⟨i, hi, e⟩ := rdM_is h0
    rw [e]; exact h i hi
  · rw [hl i hi]; exact rdM_le hi
theorem row_eq {cl : List (List Bat)} (op : List Bat) {r : Nat} (hr : r < rdM cl) : ∀ {k : Nat}, k ≤ cl.length → rowTo (batM cl op) r k = rowTo cl r k
  | 0, _ => rfl
  | k + 1, hk => by
    have ih := row_eq op hr (k := k) (by omega)
    have hlt : r < (cl.getD k []).length := Nat.lt_of_lt_of_le hr (rdM_le (show k < cl.length by omega))
    rw [rowTo, rowTo, ih, batM_at op (show k < cl.length by omega)]
    congr 1
    unfold batR
    generalize cl.getD k [] = c at hlt ⊢
    rw [List.getD_eq_getElem?_getD, List.getElem?_append_left hlt, List.getD_eq_getElem?_getD]
theorem log_eq {cl : List (List Bat)} (op : List Bat) : ∀ {r : Nat}, r ≤ rdM cl → logTo (batM cl op) r = logTo cl r
  | 0, _ => rfl
  | r + 1, hr => by
    rw [logTo, logTo, log_eq op (r := r) (by omega), batM_len, row_eq op (by omega) (Nat.le_refl _)]
theorem bat_ext {a b : List (List Bat)} (hl : a.length = b.length) (h : ∀ i, i < a.length → a.getD i [] = b.getD i []) : a = b := by
  refine List.ext_getElem hl fun i h1 h2 => ?_
  have := h i h1
  rw [List.getD_eq_getElem?_getD, List.getD_eq_getElem?_getD, List.getElem?_eq_getElem h1, List.getElem?_eq_getElem h2] at this
  exact this
theorem set_getD (l : List (List Bat)) (i j : Nat) (x : List Bat) (hi : i < l.length) : (l.set i x).getD j [] = if j = i then x else l.getD j [] := by
  simp only [List.getD_eq_getElem?_getD]
  by_cases h : j = i
  · subst h; rw [if_pos rfl]; simp [hi]
  · rw [if_neg h, List.getElem?_set_ne (fun q => h q.symm)]
theorem op_getD (l : List Bat) (i j : Nat) (x : Bat) (hi : i < l.length) : (l.set i x).getD j [] = if j = i then x else l.getD j [] := by
  simp only [List.getD_eq_getElem?_getD]
  by_cases h : j = i
  · subst h; rw [if_pos rfl]; simp [hi]
  · rw [if_neg h, List.getElem?_set_ne (fun q => h q.symm)]
/-- an entry that comes in -/
theorem bat_add {cl : List (List Bat)} {op : List Bat} {i : Nat} (hi : i < cl.length) (ho : op.length = cl.length) (x : Ent) : batM cl (addM op i x) = (batM cl op).set i (cl.getD i [] ++ [op.getD i [] ++ [x]]) := by
  refine bat_ext (by rw [batM_len, List.length_set, batM_len]) fun j hj => ?_
  rw [batM_len] at hj
  rw [batM_at _ hj, set_getD _ _ _ _ (by rw [batM_len]; exact hi), batM_at _ hj]
  unfold batR addM
  rw [op_getD _ _ _ _ (by omega)]
  by_cases h : j = i
  · subst h; rw [if_pos rfl, if_pos rfl]
  · rw [if_neg h, if_neg h]
/-- a batch closed -/
theorem bat_cls {cl : List (List Bat)} {op : List Bat} {i : Nat} (hi : i < cl.length) (ho : op.length = cl.length) : batM (clsM cl i (op.getD i [])) (op.set i []) = (batM cl op).set i (batR cl op i ++ [[]]) := by
  refine bat_ext (by rw [batM_len, List.length_set, batM_len, cls_len]) fun j hj => ?_
  rw [batM_len, cls_len] at hj
  rw [batM_at _ (by rw [cls_len]; exact hj), set_getD _ _ _ _ (by rw [batM_len]; exact hi), batM_at _ hj]
  unfold batR
  rw [op_getD _ _ _ _ (by omega), cls_at hi]
  by_cases h : j = i
  · subst h; rw [if_pos rfl, if_pos rfl, if_pos rfl]
  · rw [if_neg h, if_neg h, if_neg h]
end Go.Proofs.YtddghaoejnbkaaaDoor

/- Contracts and lemmas for the proofs of this seat; each theorem states its own conditions. -/
namespace Go.Proofs.YtddghaoejnbkaaaDoor
open Go.RowKit
/-! frames of things that turn: only what S names may turn; what it names later is of S, or new -/
def Kp (S : Nat → Prop) (w w' : World) (S' : Nat → Prop) : Prop :=
  (w'.os = w.os ∧ w'.tape = w.tape ∧ w'.output = w.output ∧ w.heap.size ≤ w'.heap.size) ∧
  (∀ i, i < w.heap.size → ¬ S i → w'.heap[i]? = w.heap[i]?) ∧ ∀ i, S' i → S i ∨ w.heap.size ≤ i
theorem Kp.of_ext {S : Nat → Prop} {w w' : World} (E : Ext w w') : Kp S w w' S := ⟨⟨E.os, E.tape, E.output, E.size'⟩, fun i hi _ => Below.block E i hi, fun i h => .inl h⟩
theorem Kp.refl (S : Nat → Prop) (w : World) : Kp S w w S := Kp.of_ext (Ext.refl w)
theorem Kp.size {S S' : Nat → Prop} {w w' : World} (h : Kp S w w' S') : w.heap.size ≤ w'.heap.size := h.1.2.2.2
theorem Kp.out {S S' : Nat → Prop} {w w' : World} (h : Kp S w w' S') {k : Nat} (hk : k < w.heap.size) (hS : ¬ S k) : ¬ S' k := fun q => by
  rcases h.2.2 k q with a | a
  · exact hS a
  · omega
theorem Kp.trans {S S' S'' : Nat → Prop} {a b c : World} (h : Kp S a b S') (k : Kp S' b c S'') : Kp S a c S'' := by
  have ho := fun i => h.out (k := i)
  obtain ⟨⟨h1, h2, h3, h4⟩, h5, h6⟩ := h
  obtain ⟨⟨k1, k2, k3, k4⟩, k5, k6⟩ := k
  refine ⟨⟨k1.trans h1, k2.trans h2, k3.trans h3, Nat.le_trans h4 k4⟩, fun i hi hS => ?_, fun i hi => ?_⟩
  · rw [k5 i (by omega) (ho i hi hS), h5 i hi hS]
  · rcases k6 i hi with q | q
    · exact h6 i q
    · right; omega
theorem Kp.ext {S S' : Nat → Prop} {a b c : World} (h : Kp S a b S') (E : Ext b c) : Kp S a c S' := h.trans (Kp.of_ext E)
theorem Kp.after {S S' : Nat → Prop} {a b c : World} (E : Ext a b) (h : Kp S b c S') : Kp S a c S' := (Kp.of_ext E).trans h
theorem Kp.heap {S S' : Nat → Prop} {w w' : World} (h : Kp S w w' S') {k : Nat} {o : Obj} (hk : w.heap[k]? = some o) (hS : ¬ S k) : w'.heap[k]? = some o := (h.2.1 k (Array.getElem?_eq_some_iff.1 hk).1 hS).trans hk
/-- v lies in none of S -/
def Off (S : Nat → Prop) (v : Value) : Prop := ∀ k, v.ownBlock = some k → ¬ S k
theorem Kp.own {S S' : Nat → Prop} {w w' : World} (h : Kp S w w' S') {B e sz n : Nat} {v : Value} {xs : List Value} (ho : w.ownsRow B e sz v n xs) (hS : Off S v) : w'.ownsRow B e sz v n xs := by
  refine ⟨ho.1, ?_⟩
  rcases ho.2 with hn | ⟨b, cap, cur, rfl, hb, hg, rest⟩
  · exact .inl hn
  · exact .inr ⟨b, cap, cur, rfl, hb, h.heap hg (hS b rfl), rest⟩
theorem Kp.off {S S' : Nat → Prop} {w w' : World} (h : Kp S w w' S') {B e sz n : Nat} {v : Value} {xs : List Value} (ho : w.ownsRow B e sz v n xs) (hS : Off S v) : Off S' v := fun k hk => h.out (ho.lt k hk).2 (hS k hk)
/-- below all that turns nothing turns -/
theorem Kp.low {S S' : Nat → Prop} {w0 w w' : World} (h : Kp S w w' S') (E : Ext w0 w) (hS : ∀ i, S i → w0.heap.size ≤ i) : Ext w0 w' ∧ ∀ i, S' i → w0.heap.size ≤ i := by
  obtain ⟨⟨h1, h2, h3, h4⟩, h5, h6⟩ := h
  have hs := E.size'
  refine ⟨⟨h1.trans E.os, h2.trans E.tape, h3.trans E.output, by omega, fun i hi => ?_⟩, fun i hi => ?_⟩
  · rw [h5 i (by omega) (fun q => by have := hS i q; omega)]
    exact Below.block E i hi
  · rcases h6 i hi with q | q
    · exact hS i q
    · omega
theorem Kp.wide {S S' S'' : Nat → Prop} {w w' : World} (h : Kp S w w' S') (k : ∀ i, S'' i → S' i ∨ w.heap.size ≤ i) : Kp S w w' S'' := ⟨h.1, h.2.1, fun i hi => by
  rcases k i hi with q | q
  · exact h.2.2 i q
  · exact .inr q⟩
theorem Kp.of_grown {S : Nat → Prop} {w w' : World} {row : Option Nat} (hg : w.grownBy w' row) (hr : ∀ k, row = some k → S k) : Kp S w w' S :=
  ⟨⟨hg.os, hg.tape, hg.output, hg.size⟩, fun i hi hS => hg.block i hi (fun e => hS (hr i e.symm)), fun i h => .inl h⟩
theorem grown_set (w : World) (g i : Nat) (u : Value) : w.grownBy (w.setCell ⟨g, i, none⟩ u) (some g) := ⟨rfl, rfl, rfl, by simp [World.setCell], fun j hj hne => by
    have : g ≠ j := fun e => hne (by rw [e])
    simp [World.setCell, Array.getElem?_modify, this]⟩
theorem Kp.put {S S' : Nat → Prop} {w0 w : World} (h : Kp S w0 w S') {b i : Nat} (hS : S' b) (u : Value) : Kp S w0 (w.setCell ⟨b, i, none⟩ u) S' :=
  h.trans (Kp.of_grown (grown_set w b i u) (fun k e => by injection e with e; subst e; exact hS))
/-- what S names has elements of these types -/
def TyS (w : World) (S : Nat → Prop) (T : List Nat) : Prop := ∀ k, S k → ∃ cs e, w.heap[k]? = some (.cells cs e (0, 0)) ∧ e ∈ T
theorem TyS.lt {w : World} {S : Nat → Prop} {T : List Nat} (h : TyS w S T) {k : Nat} (hk : S k) : k < w.heap.size := by
  obtain ⟨_, _, h, _⟩ := h k hk
  exact (Array.getElem?_eq_some_iff.1 h).1
theorem TyS.off {w : World} {S : Nat → Prop} {T : List Nat} (h : TyS w S T) {B e sz n : Nat} {v : Value} {xs : List Value} (ho : w.ownsRow B e sz v n xs) (he : e ∉ T) : Off S v := fun k hk hS => by
  obtain ⟨cs, e', hg, hm⟩ := h k hS
  exact own_ne ho hg (fun q => he (q ▸ hm)) hk
theorem TyS.ext {w w' : World} {S : Nat → Prop} {T : List Nat} (h : TyS w S T) (E : Ext w w') : TyS w' S T := fun k hk => by
  obtain ⟨cs, e, hg, hm⟩ := h k hk
  exact ⟨cs, e, E.heap hg, hm⟩
theorem own_some {w : World} {B e sz n : Nat} {v : Value} {xs : List Value} (h : w.ownsRow B e sz v n xs) {k : Nat} (hk : v.ownBlock = some k) : ∃ cur, w.heap[k]? = some (.cells cur e (0, 0)) := by
  rcases h.2 with ⟨e', _⟩ | ⟨g, c, cur, e', _, h1, _⟩
  · rw [e'] at hk; cases hk
  · rw [e'] at hk; injection hk with hk; subst hk; exact ⟨cur, h1⟩
end Go.Proofs.YtddghaoejnbkaaaDoor
