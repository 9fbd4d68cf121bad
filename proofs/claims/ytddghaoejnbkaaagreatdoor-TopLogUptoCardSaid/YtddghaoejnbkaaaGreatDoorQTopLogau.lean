/- Contracts and lemmas for the proof of TopLog; each theorem states its own conditions. -/
import Derived.Test.YtddghaoejnbkaaaGreatDoorQTopLogat
import Derived.Test.YtddghaoejnbkaaaGreatDoorQTopLogaa
import Derived.Test.YtddghaoejnbkaaaGreatDoorQTopLogaj
set_option linter.unusedVariables false
set_option linter.unusedSimpArgs false
/- Contracts and lemmas for the proofs of this seat; each theorem states its own conditions. -/
namespace Go.Proofs.YtddghaoejnbkaaaGreatDoor
open Go.RowKit
/-! text.Sum -/
/-- the sum over the first k bytes -/
def sbTo (l : List UInt8) : Nat → Nat
  | 0 => 0
  | k + 1 => (sbTo l k + (k + 1) * (l.getD k 0).toNat) % 65521
def sbL (l : List UInt8) : Nat := sbTo l l.length
theorem sbTo_lt (l : List UInt8) : ∀ k, sbTo l k < 65521
  | 0 => by simp [sbTo]
  | k + 1 => by rw [sbTo]; exact Nat.mod_lt _ (by decide)
theorem sb_step (l : List UInt8) (k : Nat) (h : k < 4611686018427387904 / 256) : ((sbTo l k : Int) + ((k : Int) + 1) * ((l.getD k 0).toNat : Int)).tmod 65521 = (sbTo l (k + 1) : Nat) := by
  rw [sbTo, Int.tmod_eq_emod_of_nonneg (by have := Int.mul_nonneg (show (0 : Int) ≤ (k : Int) + 1 by omega) (show (0 : Int) ≤ ((l.getD k 0).toNat : Int) by omega); omega)]
  rw [Int.natCast_emod, Int.natCast_add, Int.natCast_mul]
  rfl
theorem wr64 {n : Int} (h : -9223372036854775808 ≤ n ∧ n ≤ 9223372036854775807) : wrap64 n = n := by unfold wrap64; omega
set_option maxRecDepth 10000 in
theorem tsum_any (s : ByteArray) (w : World) (hs : s.size ≤ 4000000000) :
    Calls Tryz.prog 95 #[.string s] w fun e w' => e = .returned (.int .i64 (sbL s.data.toList)) ∧ w' = w := by
  go_enter Tryz.func95, Tryz.ntmps95
  go_wp2
  go_loop [3, 7] (fun n iv => ∃ k : Nat, k ≤ s.size ∧ iv = .int .i64 k ∧ n = .int .i64 (sbTo s.data.toList k)) (fun _ i => s.size - (intOf i).toNat)
  case atStart => exact ⟨0, Nat.zero_le _, rfl, rfl⟩
  case round =>
    obtain ⟨k, hk, rfl, rfl⟩ := hrel
    by_cases hlt : k < s.size
    · have hst := sb_step s.data.toList k (by omega)
      have hb := sbTo_lt s.data.toList k
      have hg : s.data.toList.getD k 0 = s[k] := by rw [List.getD_eq_getElem?_getD, idx_list s hlt]; rfl
      rw [hg] at hst
      have hc := s[k].toNat_lt
      go_wp2
      refine ⟨⟨k + 1, by omega, by go_num, rIn ?_⟩, by simp [intOf]; omega⟩
      have h1 : ((k : Int) + 1) * (s[k].toNat : Int) ≤ ((k : Int) + 1) * 255 := Int.mul_le_mul_of_nonneg_left (by omega) (by omega)
      have h0 : 0 ≤ ((k : Int) + 1) * (s[k].toNat : Int) := Int.mul_nonneg (by omega) (by omega)
      rw [wr64 (n := ((k : Int) + 1) * (s[k].toNat : Int)) (by omega), wr64 (by omega)]
      exact hst
    · obtain rfl : k = s.size := by omega
      go_wp2
      go_ret
      exact ⟨congrArg Ending.returned (rIn (by rw [sbL, toL_len])), rfl⟩
end Go.Proofs.YtddghaoejnbkaaaGreatDoor

/- Contracts and lemmas for the proofs of this seat; each theorem states its own conditions. -/
namespace Go.Proofs.YtddghaoejnbkaaaGreatDoor
open Go.RowKit
/-! frames of things that turn: only what S names may turn; what it names later is of S, or new -/
def Kp (S : Nat → Prop) (w w' : World) (S' : Nat → Prop) : Prop :=
  (w'.os = w.os ∧ w'.tape = w.tape ∧ w'.output = w.output ∧ w.heap.size ≤ w'.heap.size) ∧
  (∀ i, i < w.heap.size → ¬ S i → w'.heap[i]? = w.heap[i]?) ∧ ∀ i, S' i → S i ∨ w.heap.size ≤ i
theorem Kp.of_ext {S : Nat → Prop} {w w' : World} (E : Ext w w') : Kp S w w' S := ⟨⟨E.os, E.tape, E.output, E.size'⟩, fun i hi _ => Below.block E i hi, fun i h => .inl h⟩
theorem Kp.refl (S : Nat → Prop) (w : World) : Kp S w w S := Kp.of_ext (Ext.refl w)
theorem Kp.size {S S' : Nat → Prop} {w w' : World} (h : Kp S w w' S') : w.heap.size ≤ w'.heap.size := h.1.2.2.2
theorem Kp.out {S S' : Nat → Prop} {w w' : World} (h : Kp S w w' S') {k : Nat} (hk : k < w.heap.size) (hS : ¬ S k) : ¬ S' k := fun q => by
  rcases h.2.2 k q with a | a
  · exact hS a
  · omega
theorem Kp.trans {S S' S'' : Nat → Prop} {a b c : World} (h : Kp S a b S') (k : Kp S' b c S'') : Kp S a c S'' := by
  have ho := fun i => h.out (k := i)
  obtain ⟨⟨h1, h2, h3, h4⟩, h5, h6⟩ := h
  obtain ⟨⟨k1, k2, k3, k4⟩, k5, k6⟩ := k
  refine ⟨⟨k1.trans h1, k2.trans h2, k3.trans h3, Nat.le_trans h4 k4⟩, fun i hi hS => ?_, fun i hi => ?_⟩
  · rw [k5 i (by omega) (ho i hi hS), h5 i hi hS]
  · rcases k6 i hi with q | q
    · exact h6 i q
    · right; omega
theorem Kp.ext {S S' : Nat → Prop} {a b c : World} (h : Kp S a b S') (E : Ext b c) : Kp S a c S' := h.trans (Kp.of_ext E)
theorem Kp.after {S S' : Nat → Prop} {a b c : World} (E : Ext a b) (h : Kp S b c S') : Kp S a c S' := (Kp.of_ext E).trans h
theorem Kp.heap {S S' : Nat → Prop} {w w' : World} (h : Kp S w w' S') {k : Nat} {o : Obj} (hk : w.heap[k]? = some o) (hS : ¬ S k) : w'.heap[k]? = some o := (h.2.1 k (Array.getElem?_eq_some_iff.1 hk).1 hS).trans hk
/-- v lies in none of S -/
def Off (S : Nat → Prop) (v : Value) : Prop := ∀ k, v.ownBlock = some k → ¬ S k
theorem Kp.own {S S' : Nat → Prop} {w w' : World} (h : Kp S w w' S') {B e sz n : Nat} {v : Value} {xs : List Value} (ho : w.ownsRow B e sz v n xs) (hS : Off S v) : w'.ownsRow B e sz v n xs := by
  refine ⟨ho.1, ?_⟩
  rcases ho.2 with hn | ⟨b, cap, cur, rfl, hb, hg, rest⟩
  · exact .inl hn
  · exact .inr ⟨b, cap, cur, rfl, hb, h.heap hg (hS b rfl), rest⟩
theorem Kp.off {S S' : Nat → Prop} {w w' : World} (h : Kp S w w' S') {B e sz n : Nat} {v : Value} {xs : List Value} (ho : w.ownsRow B e sz v n xs) (hS : Off S v) : Off S' v := fun k hk => h.out (ho.lt k hk).2 (hS k hk)
/-- below all that turns nothing turns -/
theorem Kp.low {S S' : Nat → Prop} {w0 w w' : World} (h : Kp S w w' S') (E : Ext w0 w) (hS : ∀ i, S i → w0.heap.size ≤ i) : Ext w0 w' ∧ ∀ i, S' i → w0.heap.size ≤ i := by
  obtain ⟨⟨h1, h2, h3, h4⟩, h5, h6⟩ := h
  have hs := E.size'
  refine ⟨⟨h1.trans E.os, h2.trans E.tape, h3.trans E.output, by omega, fun i hi => ?_⟩, fun i hi => ?_⟩
  · rw [h5 i (by omega) (fun q => by have := hS i q; omega)]
    exact Below.block E i hi
  · rcases h6 i hi with q | q
    · exact hS i q
    · omega
theorem Kp.wide {S S' S'' : Nat → Prop} {w w' : World} (h : Kp S w w' S') (k : ∀ i, S'' i → S' i ∨ w.heap.size ≤ i) : Kp S w w' S'' := ⟨h.1, h.2.1, fun i hi => by
  rcases k i hi with q | q
  · exact h.2.2 i q
  · exact .inr q⟩
theorem Kp.of_grown {S : Nat → Prop} {w w' : World} {row : Option Nat} (hg : w.grownBy w' row) (hr : ∀ k, row = some k → S k) : Kp S w w' S :=
  ⟨⟨hg.os, hg.tape, hg.output, hg.size⟩, fun i hi hS => hg.block i hi (fun e => hS (hr i e.symm)), fun i h => .inl h⟩
theorem grown_set (w : World) (g i : Nat) (u : Value) : w.grownBy (w.setCell ⟨g, i, none⟩ u) (some g) := ⟨rfl, rfl, rfl, by simp [World.setCell], fun j hj hne => by
    have : g ≠ j := fun e => hne (by rw [e])
    simp [World.setCell, Array.getElem?_modify, this]⟩
theorem Kp.put {S S' : Nat → Prop} {w0 w : World} (h : Kp S w0 w S') {b i : Nat} (hS : S' b) (u : Value) : Kp S w0 (w.setCell ⟨b, i, none⟩ u) S' :=
  h.trans (Kp.of_grown (grown_set w b i u) (fun k e => by injection e with e; subst e; exact hS))
/-- what S names has elements of these types -/
def TyS (w : World) (S : Nat → Prop) (T : List Nat) : Prop := ∀ k, S k → ∃ cs e, w.heap[k]? = some (.cells cs e (0, 0)) ∧ e ∈ T
theorem TyS.lt {w : World} {S : Nat → Prop} {T : List Nat} (h : TyS w S T) {k : Nat} (hk : S k) : k < w.heap.size := by
  obtain ⟨_, _, h, _⟩ := h k hk
  exact (Array.getElem?_eq_some_iff.1 h).1
theorem TyS.off {w : World} {S : Nat → Prop} {T : List Nat} (h : TyS w S T) {B e sz n : Nat} {v : Value} {xs : List Value} (ho : w.ownsRow B e sz v n xs) (he : e ∉ T) : Off S v := fun k hk hS => by
  obtain ⟨cs, e', hg, hm⟩ := h k hS
  exact own_ne ho hg (fun q => he (q ▸ hm)) hk
theorem TyS.ext {w w' : World} {S : Nat → Prop} {T : List Nat} (h : TyS w S T) (E : Ext w w') : TyS w' S T := fun k hk => by
  obtain ⟨cs, e, hg, hm⟩ := h k hk
  exact ⟨cs, e, E.heap hg, hm⟩
theorem own_some {w : World} {B e sz n : Nat} {v : Value} {xs : List Value} (h : w.ownsRow B e sz v n xs) {k : Nat} (hk : v.ownBlock = some k) : ∃ cur, w.heap[k]? = some (.cells cur e (0, 0)) := by
  rcases h.2 with ⟨e', _⟩ | ⟨g, c, cur, e', _, h1, _⟩
  · rw [e'] at hk; cases hk
  · rw [e'] at hk; injection hk with hk; subst hk; exact ⟨cur, h1⟩
theorem tyS_not {w : World} {T : List Nat} {S : Nat → Prop} (h : TyS w S T) {k : Nat} {cs : Array Value} {t : TypeId} {fr : Nat × Nat} (hk : w.heap[k]? = some (.cells cs t fr)) (ht : t ∉ T) : ¬ S k := fun q => by
  obtain ⟨cs', t', hc, hm⟩ := h k q
  rw [hk] at hc; injection hc with hc; injection hc with _ hc; exact ht (hc ▸ hm)
end Go.Proofs.YtddghaoejnbkaaaGreatDoor

/- Contracts and lemmas for the proofs of this seat; each theorem states its own conditions. -/
namespace Go.Proofs.YtddghaoejnbkaaaGreatDoor
/-! merge of inputs, in plain lists -/
structure Ent where
  ops : Ops
  im : Bool
  cuts : List ByteArray
  own : List Int
abbrev Bat := List Ent
/-- the least number of closed batches of the inputs below k -/
def mnTo (cl : List (List Bat)) : Nat → Nat
  | 0 => (cl.getD 0 []).length
  | k + 1 => min (mnTo cl k) (cl.getD k []).length
def rdM (cl : List (List Bat)) : Nat := mnTo cl cl.length
theorem mnTo_le (cl : List (List Bat)) : ∀ {k i : Nat}, i < k → mnTo cl k ≤ (cl.getD i []).length
  | k + 1, i, h => by
    rw [mnTo]
    rcases Nat.lt_or_ge i k with e | e
    · have := mnTo_le cl e; omega
    · obtain rfl : i = k := by omega
      omega
theorem mnTo_ge (cl : List (List Bat)) {n : Nat} (h0 : n ≤ (cl.getD 0 []).length) : ∀ {k : Nat}, (∀ i, i < k → n ≤ (cl.getD i []).length) → n ≤ mnTo cl k
  | 0, _ => h0
  | k + 1, h => by
    have := mnTo_ge cl h0 (k := k) fun i hi => h i (by omega)
    have := h k (by omega)
    rw [mnTo]; omega
theorem rdM_le {cl : List (List Bat)} {i : Nat} (h : i < cl.length) : rdM cl ≤ (cl.getD i []).length := mnTo_le cl h
theorem rdM_ge {cl : List (List Bat)} {n : Nat} (h0 : 0 < cl.length) (h : ∀ i, i < cl.length → n ≤ (cl.getD i []).length) : n ≤ rdM cl := mnTo_ge cl (h 0 h0) h
/-- one round of the inputs below i -/
def rowTo (cl : List (List Bat)) (r : Nat) : Nat → Bat
  | 0 => []
  | i + 1 => rowTo cl r i ++ (cl.getD i []).getD r []
/-- the rounds below r -/
def logTo (cl : List (List Bat)) : Nat → Bat
  | 0 => []
  | r + 1 => logTo cl r ++ rowTo cl r cl.length
def logM (cl : List (List Bat)) : Bat := logTo cl (rdM cl)
/-- a batch closed -/
def clsM (cl : List (List Bat)) (i : Nat) (b : Bat) : List (List Bat) := cl.set i (cl.getD i [] ++ [b])
theorem cls_len (cl : List (List Bat)) (i : Nat) (b : Bat) : (clsM cl i b).length = cl.length := by simp [clsM]
theorem cls_at {cl : List (List Bat)} {i : Nat} (hi : i < cl.length) (b : Bat) (j : Nat) : (clsM cl i b).getD j [] = if j = i then cl.getD i [] ++ [b] else cl.getD j [] := by
  unfold clsM
  by_cases e : j = i
  · subst e; rw [if_pos rfl]; simp [hi]
  · rw [if_neg e]
    simp only [List.getD_eq_getElem?_getD]
    rw [List.getElem?_set_ne (fun h => e h.symm)]
theorem cls_ge {cl : List (List Bat)} {i : Nat} (hi : i < cl.length) (b : Bat) (j : Nat) : (cl.getD j []).length ≤ ((clsM cl i b).getD j []).length := by
  rw [cls_at hi]
  split
  · rename_i e; subst e; simp
  · exact Nat.le_refl _
theorem cls_rd {cl : List (List Bat)} {i : Nat} (hi : i < cl.length) (b : Bat) : rdM cl ≤ rdM (clsM cl i b) :=
  rdM_ge (by rw [cls_len]; omega) fun j hj => by
    rw [cls_len] at hj
    have := cls_ge hi b j
    have := rdM_le hj
    omega
theorem cls_row {cl : List (List Bat)} {i : Nat} (hi : i < cl.length) (b : Bat) {r : Nat} (hr : r < rdM cl) : ∀ {k : Nat}, k ≤ cl.length → rowTo (clsM cl i b) r k = rowTo cl r k
  | 0, _ => rfl
  | k + 1, h => by
    rw [rowTo, rowTo, cls_row hi b hr (by omega), cls_at hi]
    congr 1
    split
    · rename_i e; subst e
      have := rdM_le hi
      simp only [List.getD_eq_getElem?_getD]
      rw [List.getElem?_append_left (by rw [List.getD_eq_getElem?_getD] at this; omega)]
    · rfl
theorem cls_log {cl : List (List Bat)} {i : Nat} (hi : i < cl.length) (b : Bat) : ∀ {r : Nat}, r ≤ rdM cl → logTo (clsM cl i b) r = logTo cl r
  | 0, _ => rfl
  | r + 1, h => by
    rw [logTo, logTo, cls_log hi b (by omega), cls_len, cls_row hi b (by omega) (Nat.le_refl _)]
theorem logTo_more (cl : List (List Bat)) (r : Nat) : ∀ d, ∃ l, logTo cl (r + d) = logTo cl r ++ l
  | 0 => ⟨[], by simp⟩
  | d + 1 => by
    obtain ⟨l, h⟩ := logTo_more cl r d
    exact ⟨l ++ rowTo cl (r + d) cl.length, by rw [← Nat.add_assoc, logTo, h, List.append_assoc]⟩
theorem cls_more {cl : List (List Bat)} {i : Nat} (hi : i < cl.length) (b : Bat) : ∃ l, logM (clsM cl i b) = logM cl ++ l ∧ (rdM (clsM cl i b) = rdM cl → l = []) := by
  obtain ⟨d, hd⟩ : ∃ d, rdM (clsM cl i b) = rdM cl + d := ⟨rdM (clsM cl i b) - rdM cl, by have := cls_rd hi b; omega⟩
  obtain ⟨l, hl⟩ := logTo_more (clsM cl i b) (rdM cl) d
  have h2 := cls_log hi b (Nat.le_refl (rdM cl))
  refine ⟨l, by rw [logM, hd, hl, h2]; rfl, fun e => ?_⟩
  obtain rfl : d = 0 := by omega
  rw [Nat.add_zero] at hl
  have := congrArg List.length hl
  rw [List.length_append] at this
  exact List.length_eq_zero_iff.1 (by omega)
/-- how many entries came in -/
def manyTo (cl : List (List Bat)) (op : List Bat) : Nat → Nat
  | 0 => 0
  | i + 1 => manyTo cl op i + (op.getD i []).length + ((cl.getD i []).map List.length).sum
def manyM (cl : List (List Bat)) (op : List Bat) : Nat := manyTo cl op cl.length
/-- an entry added -/
def addM (op : List Bat) (i : Nat) (x : Ent) : List Bat := op.set i (op.getD i [] ++ [x])
theorem add_len (op : List Bat) (i : Nat) (x : Ent) : (addM op i x).length = op.length := by simp [addM]
theorem add_at {op : List Bat} {i : Nat} (hi : i < op.length) (x : Ent) (j : Nat) : (addM op i x).getD j [] = if j = i then op.getD i [] ++ [x] else op.getD j [] := by
  unfold addM
  by_cases e : j = i
  · subst e; rw [if_pos rfl]; simp [hi]
  · rw [if_neg e]
    simp only [List.getD_eq_getElem?_getD]
    rw [List.getElem?_set_ne (fun h => e h.symm)]
theorem manyTo_add (cl : List (List Bat)) {op : List Bat} {i : Nat} (hi : i < op.length) (x : Ent) : ∀ k, manyTo cl (addM op i x) k = manyTo cl op k + if i < k then 1 else 0
  | 0 => by simp [manyTo]
  | k + 1 => by
    rw [manyTo, manyTo, manyTo_add cl hi x k, add_at hi]
    by_cases e : k = i
    · subst e; rw [if_pos rfl, if_neg (by omega), if_pos (by omega)]; simp; omega
    · rw [if_neg e]
      by_cases e2 : i < k
      · rw [if_pos e2, if_pos (by omega)]; omega
      · rw [if_neg e2, if_neg (by omega)]; omega
theorem many_add {cl : List (List Bat)} {op : List Bat} {i : Nat} (hl : op.length = cl.length) (hi : i < op.length) (x : Ent) : manyM cl (addM op i x) = manyM cl op + 1 := by
  unfold manyM
  rw [manyTo_add cl hi x, if_pos (by omega)]
theorem manyTo_cls {cl : List (List Bat)} {op : List Bat} {i : Nat} (hl : op.length = cl.length) (hi : i < cl.length) : ∀ k, manyTo (clsM cl i (op.getD i [])) (op.set i []) k = manyTo cl op k
  | 0 => rfl
  | k + 1 => by
    rw [manyTo, manyTo, manyTo_cls hl hi k, cls_at hi]
    by_cases e : k = i
    · subst e; rw [if_pos rfl]
      have : (op.set k []).getD k [] = ([] : Bat) := by simp [List.getD_eq_getElem?_getD, List.getElem?_set_self (show k < op.length by omega)]
      rw [this]; simp; omega
    · rw [if_neg e]
      have : (op.set i []).getD k [] = op.getD k [] := by
        simp only [List.getD_eq_getElem?_getD]
        rw [List.getElem?_set_ne (fun h => e h.symm)]
      rw [this]
theorem many_cls {cl : List (List Bat)} {op : List Bat} {i : Nat} (hl : op.length = cl.length) (hi : i < cl.length) : manyM (clsM cl i (op.getD i [])) (op.set i []) = manyM cl op := by
  unfold manyM
  rw [cls_len, manyTo_cls hl hi]
end Go.Proofs.YtddghaoejnbkaaaGreatDoor
