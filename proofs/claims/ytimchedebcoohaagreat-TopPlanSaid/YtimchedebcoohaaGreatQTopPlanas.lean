/- Contracts and lemmas for the proof of TopPlan; each theorem states its own conditions. -/
import Derived.Test.YtimchedebcoohaaGreatQTopPlanaa
import Derived.Laws.IdiomCopy
import Derived.Test.YtimchedebcoohaaGreatQTopPlanaj
import Derived.Test.YtimchedebcoohaaGreatQTopPlanaf
import Derived.Test.YtimchedebcoohaaGreatQTopPlanab
import Derived.Shelf.Sort.Plain
import Derived.Shelf.Slices.In.SortNone
import Derived.Shelf.Slices.CompactS
import Derived.Test.YtimchedebcoohaaGreatQTopPlanar
import Derived.Test.YtimchedebcoohaaGreatQTopPlanan
import Derived.Test.YtimchedebcoohaaGreatQTopPlanap
set_option linter.unusedVariables false
set_option linter.unusedSimpArgs false
/- Contracts and lemmas for the proofs of this seat; each theorem states its own conditions. -/
namespace Go.Proofs.YtimchedebcoohaaGreat
open Go.RowKit
/-! Many cells written in one block -/
def putL (cur : Array Value) (o : Nat) : List Value → Array Value
  | [] => cur
  | v :: r => putL (cur.setIfInBounds o v) (o + 1) r
theorem putL_size : ∀ (vs : List Value) (cur : Array Value) (o : Nat), (putL cur o vs).size = cur.size
  | [], _, _ => rfl
  | _ :: r, cur, o => by rw [putL, putL_size r]; simp
theorem putL_eq : ∀ (vs : List Value) (cur : Array Value) (o : Nat), o + vs.length ≤ cur.size → (putL cur o vs).toList = cur.toList.take o ++ vs ++ cur.toList.drop (o + vs.length)
  | [], cur, o, _ => by simp [putL]
  | v :: r, cur, o, h => by
    simp only [List.length_cons] at h
    rw [putL, putL_eq r _ _ (by simp; omega), Array.toList_setIfInBounds, List.set_eq_take_append_cons_drop, if_pos (by simp; omega)]
    have e1 : (cur.toList.take o).length = o := by simp; omega
    have e2 : o + 1 - o = 1 := by omega
    have e3 : o + 1 + r.length - o = r.length + 1 := by omega
    rw [List.take_append, List.drop_append, e1, e2, e3, List.take_of_length_le (by omega), @List.drop_eq_nil_of_le _ (cur.toList.take o) _ (by omega)]
    simp [Nat.add_assoc, Nat.add_comm 1]
theorem setCells_heap (b : Nat) (t : TypeId) (fr : Nat × Nat) : ∀ (vs : List Value) (o : Nat) (w : World) (cur : Array Value), w.heap[b]? = some (.cells cur t fr) → (w.setCells b o vs).heap[b]? = some (.cells (putL cur o vs) t fr)
  | [], _, _, _, h => h
  | v :: r, o, w, cur, h => setCells_heap b t fr r (o + 1) _ _ (by simp [World.setCell, Array.getElem?_modify, h])
theorem ext_setCells {B b : Nat} {a : World} (hb : B ≤ b) : ∀ (vs : List Value) (o : Nat) (w : World), Below B a w → Below B a (w.setCells b o vs)
  | [], _, _, h => h
  | v :: r, o, w, h => ext_setCells hb r (o + 1) _ (Below.setCell h hb v)
theorem setCells_other {b k : Nat} (hk : k ≠ b) : ∀ (vs : List Value) (o : Nat) (w : World), (w.setCells b o vs).heap[k]? = w.heap[k]?
  | [], _, _ => rfl
  | v :: r, o, w => (setCells_other hk r (o + 1) _).trans (Below.heap_setCell _ _ _ _ (fun e => hk e))
end Go.Proofs.YtimchedebcoohaaGreat

/- Contracts and lemmas for the proofs of this seat; each theorem states its own conditions. -/
namespace Go.Proofs.YtimchedebcoohaaGreat
open Go.RowKit Go.Shelf Go.Lib Go.Sort
/-! deed.sorted: texts in order, each once -/
theorem bl_lt (x y : List UInt8) : (Op.bytesLess x y = true) ↔ x < y := by rw [bytesLess_eq]; simp
theorem lt_tri (x y : List UInt8) : x < y ∨ x = y ∨ y < x := by
  rcases bl_tri x y with h | h | h
  · exact .inl ((bl_lt _ _).1 h)
  · exact .inr (.inl h)
  · exact .inr (.inr ((bl_lt _ _).1 h))
theorem lt_tr {x y z : List UInt8} (h : x < y) (k : y < z) : x < z := (bl_lt _ _).1 (bl_trans _ _ _ ((bl_lt _ _).2 h) ((bl_lt _ _).2 k))
theorem lt_ir (x : List UInt8) : ¬ x < x := fun h => by have := (bl_lt _ _).2 h; rw [bl_irrefl] at this; cases this
theorem le_not {x y : List UInt8} : x ≤ y ↔ ¬ y < x := Iff.rfl
theorem le_lt {x y z : List UInt8} (h : x ≤ y) (k : y < z) : x < z := by
  rcases lt_tri x y with e | e | e
  · exact lt_tr e k
  · rw [e]; exact k
  · exact absurd e (le_not.1 h)
theorem le_tr {x y z : List UInt8} (h : x ≤ y) (k : y ≤ z) : x ≤ z := by
  rcases lt_tri y z with e | e | e
  · exact le_not.2 fun h' => lt_ir _ (lt_tr (le_lt h e) h')
  · rw [← e]; exact h
  · exact absurd e (le_not.1 k)
theorem sort_le (zs : List (List UInt8)) : (zs.mergeSort fun x y => decide (x ≤ y)).Pairwise fun x y => x ≤ y := by
  have := List.pairwise_mergeSort (le := fun x y : List UInt8 => decide (x ≤ y)) (fun a b c h k => by simp only [decide_eq_true_eq] at *; exact le_tr h k) (fun a b => by
    rcases lt_tri a b with e | e | e
    · simp only [Bool.or_eq_true, decide_eq_true_eq]; exact .inl (le_not.2 fun h => lt_ir _ (lt_tr e h))
    · simp only [Bool.or_eq_true, decide_eq_true_eq]; left; rw [e]; exact le_not.2 (lt_ir _)
    · simp only [Bool.or_eq_true, decide_eq_true_eq]; exact .inr (le_not.2 fun h => lt_ir _ (lt_tr e h))) zs
  exact this.imp fun h => by simpa using h
theorem comp_to {d : Array (List UInt8)} (h : ∀ i j, i < j → j < d.size → d[i]! ≤ d[j]!) : ∀ m, m ≤ d.size → (compactUpTo d m).Pairwise (fun x y => x < y) ∧ (∀ x ∈ compactUpTo d m, ∃ j, j < m ∧ x = d[j]!) ∧ ∀ j, j < m → d[j]! ∈ compactUpTo d m
  | 0, _ => by simp [compactUpTo]
  | m + 1, hm => by
    obtain ⟨h1, h2, h3⟩ := comp_to h m (by omega)
    rw [compactUpTo_succ]
    by_cases hk : keeps d m = true
    · rw [if_pos hk]
      refine ⟨List.pairwise_append.2 ⟨h1, by simp, fun a ha b hb => ?_⟩, fun x hx => ?_, fun j hj => ?_⟩
      · simp at hb; subst hb
        obtain ⟨j, hj, rfl⟩ := h2 a ha
        have hne : d[m]! ≠ d[m - 1]! := by
          simp [keeps] at hk
          rcases hk with e | e
          · omega
          · exact e
        have h4 := h (m - 1) m (by omega) (by omega)
        have h5 : d[m - 1]! < d[m]! := by
          rcases lt_tri (d[m - 1]!) (d[m]!) with e | e | e
          · exact e
          · exact absurd e.symm hne
          · exact absurd e (le_not.1 h4)
        rcases Nat.lt_or_ge j (m - 1) with e | e
        · exact le_lt (h j (m - 1) e (by omega)) h5
        · have : j = m - 1 := by omega
          rw [this]; exact h5
      · rcases List.mem_append.1 hx with hx | hx
        · obtain ⟨j, hj, e⟩ := h2 x hx; exact ⟨j, by omega, e⟩
        · simp at hx; exact ⟨m, by omega, hx⟩
      · rcases Nat.lt_or_ge j m with e | e
        · exact List.mem_append_left _ (h3 j e)
        · have : j = m := by omega
          rw [this]; simp
    · rw [if_neg hk, List.append_nil]
      have hm0 : m ≠ 0 ∧ d[m]! = d[m - 1]! := by
        simp [keeps] at hk; exact hk
      refine ⟨h1, fun x hx => ?_, fun j hj => ?_⟩
      · obtain ⟨j, hj, e⟩ := h2 x hx; exact ⟨j, by omega, e⟩
      · rcases Nat.lt_or_ge j m with e | e
        · exact h3 j e
        · have : j = m := by omega
          rw [this, hm0.2]
          exact h3 (m - 1) (by omega)
theorem comp_sorted {zs : List (List UInt8)} (h : zs.Pairwise fun x y => x ≤ y) : (compact zs).Pairwise (fun x y => x < y) ∧ ∀ x, x ∈ compact zs ↔ x ∈ zs := by
  have ha : ∀ i j, i < j → j < zs.toArray.size → zs.toArray[i]! ≤ zs.toArray[j]! := fun i j hij hj => by
    have hj' : j < zs.length := by simpa using hj
    have hi' : i < zs.length := by omega
    have := List.pairwise_iff_getElem.1 h i j hi' hj' hij
    simpa [hi', hj'] using this
  obtain ⟨h1, h2, h3⟩ := comp_to ha zs.length (by simp)
  refine ⟨h1, fun x => ⟨fun hx => ?_, fun hx => ?_⟩⟩
  · obtain ⟨j, hj, e⟩ := h2 x hx
    rw [e]; simp [hj]
  · obtain ⟨j, hj, rfl⟩ := List.mem_iff_getElem.1 hx
    have := h3 j hj
    unfold compact
    simpa [hj] using this
def ofL (b : List UInt8) : ByteArray := ⟨b.toArray⟩
theorem ofL_data (k : ByteArray) : ofL k.data.toList = k := by simp [ofL]
/-- texts in order, each once -/
def sortU (L : List ByteArray) : List ByteArray := (compact ((L.map fun k => k.data.toList).mergeSort fun x y => decide (x ≤ y))).map ofL
theorem sortU_mem (L : List ByteArray) (k : ByteArray) : k ∈ sortU L ↔ k ∈ L := by
  unfold sortU
  have h := (comp_sorted (sort_le (L.map fun k => k.data.toList))).2
  simp only [List.mem_map, h, List.mem_mergeSort]
  constructor
  · rintro ⟨b, ⟨q, hq, rfl⟩, rfl⟩; rw [ofL_data]; exact hq
  · intro hk; exact ⟨k.data.toList, ⟨k, hk, rfl⟩, ofL_data k⟩
theorem sortU_srt (L : List ByteArray) : (sortU L).Pairwise fun a b => blt a b = true := by
  unfold sortU
  rw [List.pairwise_map]
  refine (comp_sorted (sort_le _)).1.imp fun {a b} h => ?_
  unfold blt
  rw [bl_lt, toList_data, toList_data]
  exact h
theorem sortU_len (L : List ByteArray) : (sortU L).length ≤ L.length := by
  unfold sortU
  have := compact_length_le ((L.map fun k => k.data.toList).mergeSort fun x y => decide (x ≤ y))
  rw [List.length_map]
  refine Nat.le_trans this ?_
  rw [List.length_mergeSort]; simp
theorem own_puts {w : World} {B e n c g : Nat} {xs ys : List Value} (h : w.ownsRow B e 1 (.slice (some ⟨g, 0, none⟩) n c) n xs) (hl : ys.length = n) (q : Nat) (os : Array Obj) :
    (grow ((w.drewN q).setCells g 0 ys) os).ownsRow B e 1 (.slice (some ⟨g, 0, none⟩) n c) n ys ∧ w.grownBy (grow ((w.drewN q).setCells g 0 ys) os) (some g) := by
  obtain ⟨h0, h1⟩ := h
  rcases h1 with ⟨h1, _⟩ | ⟨g', cap, cur, h1, h2, h3, h4, h5, h6, h7⟩
  · cases h1
  · injection h1 with e1 _ e3
    injection e1 with e1; injection e1 with e1
    subst e1; subst e3
    have hh := setCells_heap g e (0, 0) ys 0 (w.drewN q) cur h3
    have hlt := lt_of_block hh
    have hb := ext_setCells (B := 0) (b := g) (a := w) (Nat.zero_le _) ys 0 (w.drewN q) ⟨rfl, rfl, rfl, Nat.le_refl _, fun _ _ => rfl⟩
    refine ⟨⟨by simpa using hl, .inr ⟨g, c, putL cur 0 ys, rfl, h2, ?_, h4, h5, by rw [putL_size]; exact h6, ?_⟩⟩, hb.os, hb.tape, hb.output, by rw [size_grow]; exact Nat.le_trans hb.size (Nat.le_add_right _ _), fun k hk hne => ?_⟩
    · rw [heap_grow_old _ _ hlt]; exact hh
    · rw [putL_eq _ _ _ (by omega)]
      simp [hl]
    · rw [heap_grow_old _ _ (Nat.lt_of_lt_of_le hk hb.size), setCells_other (fun e => hne (by rw [e])) ys 0]
      rfl
theorem own_shorter {w : World} {B e n m c g : Nat} {xs : List Value} (h : w.ownsRow B e 1 (.slice (some ⟨g, 0, none⟩) n c) n xs) (hm : m ≤ n) : w.ownsRow B e 1 (.slice (some ⟨g, 0, none⟩) m c) m (xs.take m) := by
  obtain ⟨h0, h1⟩ := h
  rcases h1 with ⟨h1, _⟩ | ⟨g', cap, cur, h1, h2, h3, h4, h5, h6, h7⟩
  · cases h1
  · injection h1 with e1 _ e3
    injection e1 with e1; injection e1 with e1
    subst e1; subst e3
    refine ⟨by rw [List.length_take]; omega, .inr ⟨g, c, cur, rfl, h2, h3, by omega, h5, h6, ?_⟩⟩
    rw [← h7, List.take_take]
    congr 1; omega
theorem holds_own {w : World} {B e c g : Nat} {zs : List (List UInt8)} {n : Nat} (h : w.ownsRow B e 1 (.slice (some ⟨g, 0, none⟩) n c) n (zs.map encStr)) : Holds encStr w g 0 zs.toArray := by
  intro j hj
  have hj' : j < zs.length := by simpa using hj
  have hn := h.1
  simp at hn
  obtain ⟨_, _, he, _, _, _, hc⟩ := seg_cells (own_seg h) (by omega)
  injection he with he; injection he with he1 he2
  subst he1; subst he2
  refine ⟨?_, ?_⟩
  · rw [hc j (encStr zs[j]) (by simp [hj'])]
    simp [hj']
  · obtain ⟨cur, hcu⟩ := own_heap h
    simp [World.frozen?, hcu]
theorem cS_enc (L : List ByteArray) : cS L = (L.map fun k => k.data.toList).map encStr := by
  simp [cS, encStr, Function.comp_def]
theorem cS_of (zs : List (List UInt8)) : cS (zs.map ofL) = zs.map encStr := by
  simp [cS, encStr, ofL, Function.comp_def]
set_option maxRecDepth 10000 in
set_option maxHeartbeats 1000000 in
theorem sorted_any (B : Nat) (v : Value) (L : List ByteArray) (w : World) (ho : w.ownsRow B 9 1 v L.length (cS L)) (hB : B ≤ w.heap.size) (hn : L.length ≤ 1000000) :
    Calls Tryz.prog 79 #[v] w fun e w' => ∃ v', e = .returned v' ∧ w'.ownsRow w.heap.size 9 1 v' (sortU L).length (cS (sortU L)) ∧ ∃ w1, w.grownBy w1 v.ownBlock ∧ Ext w1 w' := by
  by_cases h0 : L.length = 0
  · have hL : L = [] := List.eq_nil_of_length_eq_zero h0
    subst hL
    obtain ⟨a, c, rfl⟩ := own_form ho
    have hs := own_seg ho
    have S0 := hid (Any.slices_Sort_string_none lays190 a c w)
    have C0 := hid (Any.slices_Compact_string_empty lays194 a c w)
    have K0 := hid (clone_Str (.slice a 0 c) 0 [] w hs (by simp) (by omega))
    have hu : sortU [] = [] := by simp [sortU, compact, compactUpTo]
    rw [hu]
    clear hu
    go_enter Tryz.func79, Tryz.ntmps79
    go_wp2_with fail
    refine (S0.out).mono ?_
    rintro e w1 ⟨rfl, rfl⟩
    clear S0
    go_wp2_with fail
    refine (C0.out).mono ?_
    rintro e w1 ⟨rfl, rfl⟩
    go_wp2_with fail
    refine (K0.out).mono ?_
    rintro e w1 ⟨a', c', rfl, ho', E1⟩
    go_wp2
    go_ret
    exact ⟨_, rfl, ho', _, World.grownBy.refl _ _, E1⟩
  · obtain ⟨a, c, rfl⟩ := own_form ho
    obtain ⟨g, rfl, hg1, hg2, hg3, hg4⟩ := own_pos ho (by omega)
    clear h0
    rw [cS_enc] at ho
    have hl : (L.map fun k => k.data.toList).length = L.length := by simp
    have S1 := Any.slices_Sort_string lays190 g 0 c (L.map fun k => k.data.toList) w (holds_own ho) hg2 (by omega)
    have hls : ((L.map fun k => k.data.toList).mergeSort fun x y => decide (x ≤ y)).length = L.length := by rw [List.length_mergeSort, hl]
    have hsu : sortU L = (compact ((L.map fun k => k.data.toList).mergeSort fun x y => decide (x ≤ y))).map ofL := rfl
    have hle := compact_length_le ((L.map fun k => k.data.toList).mergeSort fun x y => decide (x ≤ y))
    have hH := holds_own ho
    rw [hl] at S1
    have PS := fun q => putRow_eq_setCells encStr w g 0 (L.map fun k => k.data.toList).toArray ((L.map fun k => k.data.toList).mergeSort fun x y => decide (x ≤ y)) q hH (by rw [hls]; simp)
    generalize ((L.map fun k => k.data.toList).mergeSort fun x y => decide (x ≤ y)) = M at S1 hls hsu hle PS
    generalize L.map (fun k => k.data.toList) = Z at ho hl hH PS
    have S1 := hid S1
    have PS := hid PS
    have HSU := hid hsu
    have hcl : (sortU L).length = (compact M).length := by rw [hsu]; simp
    clear hsu hH
    go_enter Tryz.func79, Tryz.ntmps79
    go_wp2_with fail
    refine (S1.out).mono ?_
    clear S1
    rintro e w1 ⟨rfl, q, os, rfl⟩
    rw [PS.out q]
    clear PS
    obtain ⟨ho1, hg'⟩ := own_puts ho (ys := M.map encStr) (by simpa using hls) q os
    generalize grow ((w.drewN q).setCells g 0 (M.map encStr)) os = w1 at ho1 hg' ⊢
    have C1 := Any.slices_Compact_string lays194 g 0 c M w1 (holds_own ho1) (by omega) (by omega)
    have hH1 := holds_own ho1
    have PS1 := fun q => putRow_eq_setCells encStr w1 g 0 M.toArray (compact M ++ List.replicate (M.length - (compact M).length) []) q hH1 (by simp; omega)
    rw [hls] at C1 PS1
    have hle' : (compact M).length ≤ L.length := by omega
    have C1 := hid C1
    have PS1 := hid PS1
    have HLE := hid hle'
    clear hH1 hls hl hle hle'
    generalize compact M = D at C1 PS1 HLE hcl HSU
    go_wp2_with fail
    refine (C1.out).mono ?_
    clear C1
    rintro e w2 ⟨rfl, q2, rfl⟩
    rw [PS1.out q2]
    clear PS1
    have hle := HLE.out
    obtain ⟨ho2, hg2'⟩ := own_puts ho1 (ys := (D ++ List.replicate (L.length - D.length) []).map encStr) (by simp; omega) q2 #[]
    rw [grow_empty] at ho2 hg2'
    have ho3 := own_shorter ho2 (m := D.length) hle
    have et : ((D ++ List.replicate (L.length - D.length) []).map encStr).take D.length = D.map encStr := by rw [List.map_append, List.take_left' (by simp)]
    rw [et] at ho3
    clear et
    generalize ((w1.drewN q2).setCells g 0 ((D ++ List.replicate (L.length - D.length) []).map encStr)) = w2 at ho2 ho3 hg2' ⊢
    have K0 := hid (clone_Str (.slice (some ⟨g, 0, none⟩) D.length c) D.length (D.map encStr) w2 (own_seg ho3) (by intro u hu; simp [encStr] at hu; obtain ⟨_, _, rfl⟩ := hu; rfl) (by omega))
    have hG := hg'.trans hg2'
    clear hle
    go_wp2_with fail
    refine (K0.out).mono ?_
    rintro e w3 ⟨a', c', rfl, ho', E1⟩
    go_wp2
    go_ret
    refine ⟨_, rfl, ?_, w2, hG, E1⟩
    rw [hcl, HSU.out, cS_of]
    exact own_base ho' hG.size
end Go.Proofs.YtimchedebcoohaaGreat

/- Contracts and lemmas for the proofs of this seat; each theorem states its own conditions. -/
namespace Go.Proofs.YtimchedebcoohaaGreat
open Go.RowKit Go.Maps
/-! the lock table, in memory -/
/-- the keys of a deed, in order, each once -/
def tkL (d : Ops) : List ByteArray := sortU (sortU (rds d) ++ sortU (wrs d))
theorem tkL_mem (d : Ops) (k : ByteArray) : k ∈ tkL d ↔ tchB d k = true := by
  rw [tkL, sortU_mem, List.mem_append, sortU_mem, sortU_mem, tchB_iff]
structure LockSt (w : World) (B bt bk bd : Nat) (A : List Ops) (g : Nat → Bool) (F : ByteArray → Option SV) (G : Int → Option SV) : Prop where
  hBt : B ≤ bt
  hBk : B ≤ bk
  hBd : B ≤ bd
  ne : bk ≠ bd
  box : w.heap[bt]? = some (.cells #[.map (some bk), .map (some bd), .int .i64 A.length] 177 (0, 0))
  km : ∃ n D, w.ownsMap Tryz.prog 9 svElem bk n D ∧ n ≤ 32 * (A.length + (A.length - liveN g A.length)) ∧ MapF kS okS dV D F
  dm : ∃ n D, w.ownsMap Tryz.prog 3 svElem bd n D ∧ n ≤ A.length ∧ MapF kI okI dV D G ∧ size D = liveN g A.length
  keys : ∀ k, w.ownsRow B 181 2 (svV ((F k).getD none)) (clmTo A g k A.length).length (cK (clmTo A g k A.length))
  apart : ∀ k k' s s', k ≠ k' → F k = some s → F k' = some s' → (svV s).ownBlock = none ∨ (svV s).ownBlock ≠ (svV s').ownBlock
  rows : ∀ n : Nat, n < A.length → g n = false → ∃ s, G (n : Int) = some s ∧ w.ownsRow B 9 1 (svV s) (tkL (A.getD n [])).length (cS (tkL (A.getD n [])))
  nones : ∀ z : Int, (∀ n : Nat, z = (n : Int) → n < A.length → g n = false → False) → G z = none
  later : ∀ n, A.length ≤ n → g n = false
  few : A.length ≤ 60
  dok : ∀ d ∈ A, DeedOk d
theorem LockSt.ext {w w' : World} {B bt bk bd : Nat} {A : List Ops} {g : Nat → Bool} {F : ByteArray → Option SV} {G : Int → Option SV} (h : LockSt w B bt bk bd A g F G) (E : Ext w w') : LockSt w' B bt bk bd A g F G where
  hBt := h.hBt
  hBk := h.hBk
  hBd := h.hBd
  ne := h.ne
  box := E.heap h.box
  km := by obtain ⟨n, D, a, b⟩ := h.km; exact ⟨n, D, ownsMap_ext a E, b⟩
  dm := by obtain ⟨n, D, a, b⟩ := h.dm; exact ⟨n, D, ownsMap_ext a E, b⟩
  keys := fun k => own_ext (h.keys k) E
  apart := h.apart
  rows := fun n a b => by obtain ⟨s, e, o⟩ := h.rows n a b; exact ⟨s, e, own_ext o E⟩
  nones := h.nones
  later := h.later
  few := h.few
  dok := h.dok
/-- what a table may turn: itself, its maps, its rows of claims -/
def TFr (B bt bk bd : Nat) (w w' : World) : Prop :=
  w'.os = w.os ∧ w'.tape = w.tape ∧ w'.output = w.output ∧ w.heap.size ≤ w'.heap.size ∧
  ∀ i, i < w.heap.size → w'.heap[i]? = w.heap[i]? ∨ (B ≤ i ∧ (i = bt ∨ i = bk ∨ i = bd ∨ ∃ cs, w.heap[i]? = some (.cells cs 181 (0, 0))))
theorem TFr.of_ext {B bt bk bd : Nat} {w w' : World} (E : Ext w w') : TFr B bt bk bd w w' := ⟨E.os, E.tape, E.output, E.size', fun i hi => .inl (Below.block E i hi)⟩
theorem TFr.refl {B bt bk bd : Nat} (w : World) : TFr B bt bk bd w w := TFr.of_ext (Ext.refl w)
theorem TFr.trans {B bt bk bd : Nat} {a b c : World} (h : TFr B bt bk bd a b) (k : TFr B bt bk bd b c) : TFr B bt bk bd a c := by
  obtain ⟨h1, h2, h3, h4, h5⟩ := h
  obtain ⟨k1, k2, k3, k4, k5⟩ := k
  refine ⟨k1.trans h1, k2.trans h2, k3.trans h3, Nat.le_trans h4 k4, fun i hi => ?_⟩
  rcases h5 i hi with e | e
  · rcases k5 i (by omega) with e' | ⟨e1, e'⟩
    · exact .inl (e'.trans e)
    · refine .inr ⟨e1, ?_⟩
      rcases e' with e' | e' | e' | ⟨cs, e'⟩
      · exact .inl e'
      · exact .inr (.inl e')
      · exact .inr (.inr (.inl e'))
      · exact .inr (.inr (.inr ⟨cs, by rw [← e]; exact e'⟩))
  · exact .inr e
/-- below the table nothing turns -/
theorem TFr.low {B bt bk bd : Nat} {w0 w w' : World} (h : TFr B bt bk bd w w') (E : Ext w0 w) (hB : w0.heap.size ≤ B) : Ext w0 w' := by
  obtain ⟨h1, h2, h3, h4, h5⟩ := h
  have hs := E.size'
  refine ⟨h1.trans E.os, h2.trans E.tape, h3.trans E.output, by omega, fun i hi => ?_⟩
  rcases h5 i (by omega) with e | ⟨e, _⟩
  · exact e.trans (Below.block E i hi)
  · omega
/-- rows of other elements stand -/
theorem TFr.own {B bt bk bd : Nat} {w w' : World} (h : TFr B bt bk bd w w') {A : List Ops} {g : Nat → Bool} {F : ByteArray → Option SV} {G : Int → Option SV} (hl : LockSt w B bt bk bd A g F G) {B' e sz n : Nat} {v : Value} {xs : List Value} (ho : w.ownsRow B' e sz v n xs) (h1 : e ≠ 181) (h2 : e ≠ 177) : w'.ownsRow B' e sz v n xs := by
  refine ⟨ho.1, ?_⟩
  rcases ho.2 with hn | ⟨b, cap, cur, rfl, hb, hg, rest⟩
  · exact .inl hn
  · right
    refine ⟨b, cap, cur, rfl, hb, ?_, rest⟩
    rcases h.2.2.2.2 b (Array.getElem?_eq_some_iff.1 hg).1 with e' | ⟨_, e' | e' | e' | ⟨cs, e'⟩⟩
    · rw [e']; exact hg
    · subst e'; rw [hl.box] at hg; injection hg with hg; injection hg with _ hg; exact absurd hg.symm h2
    · subst e'
      obtain ⟨n, D, ⟨es, clock, hm, _⟩, _⟩ := hl.km
      rw [hm] at hg; cases hg
    · subst e'
      obtain ⟨n, D, ⟨es, clock, hm, _⟩, _⟩ := hl.dm
      rw [hm] at hg; cases hg
    · rw [e'] at hg; injection hg with hg; injection hg with _ hg; exact absurd hg.symm h1
theorem lawStr : Keyed Tryz.prog 9 := string_keyed Tryz.underlying9
theorem lawInt : Keyed Tryz.prog 3 := int_keyed Tryz.underlying3
theorem lock_new (w : World) : LockSt ((((w.alloc (.map #[] 0)).alloc (.map #[] 0))).alloc (.cells #[.map (some w.heap.size), .map (some (w.heap.size + 1)), .int .i64 0] 177)) w.heap.size (w.heap.size + 2) w.heap.size (w.heap.size + 1) [] (fun _ => false) (fun _ => none) (fun _ => none) where
  hBt := by omega
  hBk := by omega
  hBd := by omega
  ne := by omega
  box := by
    have := heap_alloc_new ((w.alloc (.map #[] 0)).alloc (.map #[] 0)) (.cells #[.map (some w.heap.size), .map (some (w.heap.size + 1)), .int .i64 0] 177)
    simpa using this
  km := ⟨0, .map [], ((World.ownsMap_made w _ _ _).alloc _).alloc _, by simp, MapF.empty⟩
  dm := ⟨0, .map [], by
    have := (World.ownsMap_made (w.alloc (.map #[] 0)) Tryz.prog 3 svElem).alloc (.cells #[.map (some w.heap.size), .map (some (w.heap.size + 1)), .int .i64 0] 177)
    simpa using this, by simp, MapF.empty, rfl⟩
  keys := fun k => World.ownsRow_nil _ _ _ _
  apart := fun k k' s s' _ h => by cases h
  rows := fun n h => by simp at h
  nones := fun _ _ => rfl
  later := fun _ _ => rfl
  few := by simp
  dok := by simp
end Go.Proofs.YtimchedebcoohaaGreat

/- Contracts and lemmas for the proofs of this seat; each theorem states its own conditions. -/
namespace Go.Proofs.YtimchedebcoohaaGreat
open Go.RowKit Go.Maps
/-! lock.New, holds, May, Ready, Left -/
theorem lnew_any (w : World) : Calls Tryz.prog 103 #[] w fun e w' => e = .returned (.pointer (some ⟨w.heap.size + 2, 0, none⟩)) ∧ LockSt w' w.heap.size (w.heap.size + 2) w.heap.size (w.heap.size + 1) [] (fun _ => false) (fun _ => none) (fun _ => none) ∧ Ext w w' := by
  have hmm := @run_makeMap Tryz.prog
  have L := lock_new w
  go_enter Tryz.func103, Tryz.ntmps103
  go_wp2
  go_ret
  exact ⟨rfl, L, ((((Ext.refl w).alloc _).alloc _).alloc _)⟩
theorem holds_hit {l : Clm} {s j : Nat} (hj : j < l.length) (hlo : ∀ i (h : i < j), (l[i]'(by omega)).1 ≠ s) (h : l[j].1 = s) : holdsL l s = (decide (j = 0) || (!l[j].2 && !((l.take j).any fun c => c.2))) := by
  have e : l = l.take j ++ l[j] :: l.drop (j + 1) := by rw [← List.drop_eq_getElem_cons hj, List.take_append_drop]
  unfold holdsL
  conv => lhs; rw [e]
  rw [holdsG_pre (fun c hc => by
    obtain ⟨i, hi, rfl⟩ := List.mem_iff_getElem.1 hc
    rw [List.length_take] at hi
    rw [List.getElem_take]
    exact hlo i (by omega))]
  rw [holdsG, if_pos h]
  have e2 : (l.take j).isEmpty = decide (j = 0) := by
    cases j with
    | zero => simp
    | succ j => 
      have : l ≠ [] := by rintro rfl; simp at hj
      simp [this]
  rw [e2]; simp
theorem holds_miss {l : Clm} {s : Nat} : ∀ {f m : Bool}, (∀ c ∈ l, c.1 ≠ s) → holdsG f m s l = false := by
  induction l with
  | nil => intro f m _; rfl
  | cons c l ih => intro f m h; rw [holdsG, if_neg (h c (by simp))]; exact ih fun d hd => h d (by simp [hd])
theorem holds1_any (x : Nat × Bool) (w : World) : Calls Tryz.prog 143 #[.agg #[.int .i64 x.1, .bool x.2]] w fun e w' => e = .returned (.bool x.2) ∧ Ext w w' := by
  have xb := blk2 (heap_alloc_new w (.cells #[.int .i64 x.1, .bool x.2] 181))
  go_enter Tryz.func143, Tryz.ntmps143
  go_wp2
  go_ret
  exact ⟨rfl, (Ext.refl w).alloc _⟩
theorem seg_takeK {w : World} {b off c : Nat} {l : Clm} (hc : ∀ j u, (cK l)[j]? = some u → w.cell? ⟨b, off + j, none⟩ = some u) {j : Nat} (hj : j ≤ l.length) (h1 : l.length ≤ c) (h2 : c ≤ maxLen) : Seg w (.slice (some ⟨b, off, none⟩) j c) 2 (l.take j).length (cK (l.take j)) := by
  have hl : (l.take j).length = j := by rw [List.length_take]; omega
  refine ⟨by rw [cK_len], some ⟨b, off, none⟩, c, by rw [hl], by omega, h2, fun _ => ⟨b, off, rfl, fun i u hu => hc i u ?_⟩⟩
  have e : cK l = cK (l.take j) ++ cK (l.drop j) := by rw [← cK_app, List.take_append_drop]
  rw [e, List.getElem?_append_left (List.getElem?_eq_some_iff.1 hu).1]
  exact hu
set_option maxRecDepth 10000 in
set_option maxHeartbeats 2000000 in
theorem holds_any {w : World} {B bt bk bd : Nat} {A : List Ops} {g : Nat → Bool} {F : ByteArray → Option SV} {G : Int → Option SV} (h : LockSt w B bt bk bd A g F G) (s : Nat) (key : ByteArray) (hk : okS key) :
    Calls Tryz.prog 125 #[.pointer (some ⟨bt, 0, none⟩), .int .i64 s, .string key] w fun e w' => e = .returned (.bool (holdsL (clmTo A g key A.length) s)) ∧ Ext w w' := by
  have hown0 := h.keys key
  have hkey := WideMaps.keyOf_string_mk Tryz.underlying9 (P := Tryz.prog) (k := 9) (s := key) hk
  obtain ⟨n, D, hmap, hn, hF⟩ := h.km
  have hbox := h.box
  have hfew := h.few
  obtain ⟨ac, cc, hsv⟩ := own_form hown0
  rw [hsv] at hown0
  have hseg := own_seg hown0
  have hcl := fun c (hc : c ∈ clmTo A g key A.length) => (clm_mem.1 hc).1
  have hlen : (clmTo A g key A.length).length ≤ 1000000 := by
    have : ∀ n, (clmTo A g key n).length ≤ n := by
      intro n; induction n with
      | zero => simp [clmTo]
      | succ n ih => rw [clmTo, List.length_append]; unfold clm1; split <;> simp <;> omega
    have := this A.length; omega
  obtain ⟨l, hl⟩ : ∃ l, clmTo A g key A.length = l := ⟨_, rfl⟩
  rw [hl] at hseg hsv hcl hlen
  have HL := hid hl
  have HCL := hid hcl
  clear hl hown0 hcl
  have hzero := fun w => Tryz.zeroValue178 w
  have cb : w.cell? ⟨bt, 0, none⟩ = some (.map (some bk)) := by simp [World.cell?, hbox]
  obtain ⟨_, aa, c', hq, h1, h2, h3⟩ := hseg
  injection hq with hq1 _ hq3
  subst hq1; subst hq3
  unfold maxLen at h2
  have H3 := hid h3
  clear h3
  go_enter Tryz.func125, Tryz.ntmps125
  go_wp2_with (first | (at_lookup; refine wpList_lookup_sv _ rfl _ _ 174 rfl 9 178 lawStr Tryz.underlying174 (hzero _) bk n D F hF rfl hmap _ key hk rfl hkey ?_))
  go_loopw [7, 8, 16] (fun _ _ iv wr => ∃ j : Nat, j ≤ l.length ∧ iv = .int .i64 j ∧ (∀ i (h : i < l.length), i < j → l[i].1 ≠ s) ∧ Ext w wr) (fun _ _ iv _ => l.length - (intOf iv).toNat)
  case atStart => exact ⟨0, Nat.zero_le _, rfl, fun i _ h => by omega, Ext.refl _⟩
  case round =>
    obtain ⟨j, hj, rfl, hn, E⟩ := hrel
    have HN := hid hn
    clear hn
    by_cases hlt : j < l.length
    · obtain ⟨b, off, rfl, hcell⟩ := H3.out (by omega)
      have x0 := E.cell (hcell (j * 2) _ (cK_at l j hlt).1)
      have x1 := E.cell (hcell (j * 2 + 1) _ (cK_at l j hlt).2)
      rw [← Nat.add_assoc] at x1
      have HIT := hid (fun h => holds_hit (s := s) hlt (fun i hi => HN.out i (by omega) hi) h)
      have HS := hid (fun (h : l[j].1 ≠ s) => (fun i (hi : i < l.length) (h' : i < j + 1) => by
        rcases Nat.lt_or_ge i j with h2 | h2
        · exact HN.out i hi h2
        · have : i = j := by omega
          subst this; exact h : ∀ i (hi : i < l.length), i < j + 1 → l[i].1 ≠ s))
      have ST := hid (seg_takeK (fun i u hu => E.cell (hcell i u hu)) (Nat.le_of_lt hlt) h1 h2)
      have hcs := HCL.out _ (List.getElem_mem hlt)
      clear hcell
      generalize l[j] = c at x0 x1 HIT HS hcs
      obtain ⟨c1, c2⟩ := c
      dsimp only at x0 x1 HIT HS hcs
      have EA := (Ext.refl wr).alloc (.cells #[.int .i64 c1, .bool c2] 181)
      have xb := blk2 (heap_alloc_new wr (.cells #[.int .i64 c1, .bool c2] 181))
      by_cases hs : c1 = s
      · have qs : ((c1 : Int) == (s : Int)) = true := by simp [hs]
        have HR := hid (HIT.out hs)
        clear HIT HS hs
        by_cases hj0 : j = 0
        · have q0 : ((j : Int) == 0) = true := by simp [hj0]
          have hr : holdsL l s = true := by rw [HR.out]; simp [hj0]
          have HR2 := hid hr
          clear hr hj0
          go_wp2
          go_ret
          exact ⟨rB (by rw [HL.out, HR2.out]), E.trans EA⟩
        · have q0 : ((j : Int) == 0) = false := by simp [hj0]
          cases c2 with
          | true =>
            have hr : holdsL l s = false := by rw [HR.out]; simp [hj0]
            have HR2 := hid hr
            clear hr hj0
            go_wp2
            go_ret
            exact ⟨rB (by rw [HL.out, HR2.out]), E.trans EA⟩
          | false =>
            have hr : holdsL l s = !((l.take j).any fun c => c.2) := by rw [HR.out]; simp [hj0]
            have HR2 := hid hr
            clear hr hj0
            have E1 := E.trans EA
            have hmap1 := ownsMap_ext hmap E1
            have cb1 := E1.cell cb
            have CF := hid (containsF_K 143 #[] (enters_of Tryz.func143 (by kernel_rfl) rfl) (fun c => c.2) _ (l.take j) (wr.alloc (.cells #[.int .i64 c1, .bool false] 181)) (ST.out.ext EA) (fun x _ w' _ => holds1_any x w'))
            have hji : (j : Int) ≤ (l.length : Int) := by omega
            have hjc : (j : Int) ≤ (cc : Int) := by omega
            go_wp2_with (first | (at_lookup; refine wpList_lookup_svg _ (by rfl) _ _ 174 rfl 9 178 lawStr Tryz.underlying174 (hzero _) bk n D F hF rfl hmap1 _ key hk rfl hkey ?_))
            refine (CF.out).mono ?_
            rintro e wa ⟨rfl, Ea⟩
            go_wp2
            go_ret
            exact ⟨rB (by rw [HL.out, HR2.out]), E1.trans Ea⟩
      · have qs : ((c1 : Int) == (s : Int)) = false := by simp; omega
        have HS2 := hid (HS.out hs)
        clear HS HIT hs
        go_wp2
        go_roundw
        case rel => exact ⟨j + 1, by omega, by go_num, HS2.out, E.trans EA⟩
        case measure => simp [intOf]; omega
    · obtain rfl : j = l.length := by omega
      have hr : holdsL l s = false := holds_miss fun c hc => by
        obtain ⟨i, hi, rfl⟩ := List.mem_iff_getElem.1 hc
        exact HN.out i hi hi
      have HR2 := hid hr
      clear hr
      go_wp2
      go_ret
      exact ⟨rB (by rw [HL.out, HR2.out]), E⟩
end Go.Proofs.YtimchedebcoohaaGreat

/- Contracts and lemmas for the proofs of this seat; each theorem states its own conditions. -/
namespace Go.Proofs.YtimchedebcoohaaGreat
open Go.RowKit
/-! plain laws of Join, Scan, Total -/
theorem keyB_size {k : ByteArray} (h : keyB k = true) : k.size ≤ 6 := by
  simp [keyB] at h; exact h.1.2
theorem store_small {l : Prs} (h : StoreOk l) : ∀ p ∈ l, p.1.size ≤ 9223372036854775807 := fun p hp => by have := keyB_size (h.key p hp); omega
end Go.Proofs.YtimchedebcoohaaGreat
