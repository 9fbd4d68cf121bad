/- Contracts and lemmas for the proof of TopMoves; each theorem states its own conditions. -/
import Derived.Test.YtnepdfpooobmcaaGreatQTopMovesas
import Derived.Test.YtnepdfpooobmcaaGreatQTopMovesaj
import Derived.Test.YtnepdfpooobmcaaGreatQTopMovesaf
import Derived.Test.YtnepdfpooobmcaaGreatQTopMovesab
import Derived.Shelf.Sort.Plain
import Derived.Shelf.Slices.In.SortNone
import Derived.Shelf.Slices.CompactS
set_option linter.unusedVariables false
set_option linter.unusedSimpArgs false
/- Contracts and lemmas for the proofs of this seat; each theorem states its own conditions. -/
namespace Go.Proofs.YtnepdfpooobmcaaGreat
open Go.RowKit Go.Shelf Go.Lib Go.Sort
/-! deed.sorted: texts in order, each once -/
theorem bl_lt (x y : List UInt8) : (Op.bytesLess x y = true) ↔ x < y := by rw [bytesLess_eq]; simp
theorem lt_tri (x y : List UInt8) : x < y ∨ x = y ∨ y < x := by
  rcases bl_tri x y with h | h | h
  · exact .inl ((bl_lt _ _).1 h)
  · exact .inr (.inl h)
  · exact .inr (.inr ((bl_lt _ _).1 h))
theorem lt_tr {x y z : List UInt8} (h : x < y) (k : y < z) : x < z := (bl_lt _ _).1 (bl_trans _ _ _ ((bl_lt _ _).2 h) ((bl_lt _ _).2 k))
theorem lt_ir (x : List UInt8) : ¬ x < x := fun h => by have := (bl_lt _ _).2 h; rw [bl_irrefl] at this; cases this
theorem le_not {x y : List UInt8} : x ≤ y ↔ ¬ y < x := Iff.rfl
theorem le_lt {x y z : List UInt8} (h : x ≤ y) (k : y < z) : x < z := by
  rcases lt_tri x y with e | e | e
  · exact lt_tr e k
  · rw [e]; exact k
  · exact absurd e (le_not.1 h)
theorem le_tr {x y z : List UInt8} (h : x ≤ y) (k : y ≤ z) : x ≤ z := by
  rcases lt_tri y z with e | e | e
  · exact le_not.2 fun h' => lt_ir _ (lt_tr (le_lt h e) h')
  · rw [← e]; exact h
  · exact absurd e (le_not.1 k)
theorem sort_le (zs : List (List UInt8)) : (zs.mergeSort fun x y => decide (x ≤ y)).Pairwise fun x y => x ≤ y := by
  have := List.pairwise_mergeSort (le := fun x y : List UInt8 => decide (x ≤ y)) (fun a b c h k => by simp only [decide_eq_true_eq] at *; exact le_tr h k) (fun a b => by
    rcases lt_tri a b with e | e | e
    · simp only [Bool.or_eq_true, decide_eq_true_eq]; exact .inl (le_not.2 fun h => lt_ir _ (lt_tr e h))
    · simp only [Bool.or_eq_true, decide_eq_true_eq]; left; rw [e]; exact le_not.2 (lt_ir _)
    · simp only [Bool.or_eq_true, decide_eq_true_eq]; exact .inr (le_not.2 fun h => lt_ir _ (lt_tr e h))) zs
  exact this.imp fun h => by simpa using h
theorem comp_to {d : Array (List UInt8)} (h : ∀ i j, i < j → j < d.size → d[i]! ≤ d[j]!) : ∀ m, m ≤ d.size → (compactUpTo d m).Pairwise (fun x y => x < y) ∧ (∀ x ∈ compactUpTo d m, ∃ j, j < m ∧ x = d[j]!) ∧ ∀ j, j < m → d[j]! ∈ compactUpTo d m
  | 0, _ => by simp [compactUpTo]
  | m + 1, hm => by
    obtain ⟨h1, h2, h3⟩ := comp_to h m (by omega)
    rw [compactUpTo_succ]
    by_cases hk : keeps d m = true
    · rw [if_pos hk]
      refine ⟨List.pairwise_append.2 ⟨h1, by simp, fun a ha b hb => ?_⟩, fun x hx => ?_, fun j hj => ?_⟩
      · simp at hb; subst hb
        obtain ⟨j, hj, rfl⟩ := h2 a ha
        have hne : d[m]! ≠ d[m - 1]! := by
          simp [keeps] at hk
          rcases hk with e | e
          · omega
          · exact e
        have h4 := h (m - 1) m (by omega) (by omega)
        have h5 : d[m - 1]! < d[m]! := by
          rcases lt_tri (d[m - 1]!) (d[m]!) with e | e | e
          · exact e
          · exact absurd e.symm hne
          · exact absurd e (le_not.1 h4)
        rcases Nat.lt_or_ge j (m - 1) with e | e
        · exact le_lt (h j (m - 1) e (by omega)) h5
        · have : j = m - 1 := by omega
          rw [this]; exact h5
      · rcases List.mem_append.1 hx with hx | hx
        · obtain ⟨j, hj, e⟩ := h2 x hx; exact ⟨j, by omega, e⟩
        · simp at hx; exact ⟨m, by omega, hx⟩
      · rcases Nat.lt_or_ge j m with e | e
        · exact List.mem_append_left _ (h3 j e)
        · have : j = m := by omega
          rw [this]; simp
    · rw [if_neg hk, List.append_nil]
      have hm0 : m ≠ 0 ∧ d[m]! = d[m - 1]! := by
        simp [keeps] at hk; exact hk
      refine ⟨h1, fun x hx => ?_, fun j hj => ?_⟩
      · obtain ⟨j, hj, e⟩ := h2 x hx; exact ⟨j, by omega, e⟩
      · rcases Nat.lt_or_ge j m with e | e
        · exact h3 j e
        · have : j = m := by omega
          rw [this, hm0.2]
          exact h3 (m - 1) (by omega)
theorem comp_sorted {zs : List (List UInt8)} (h : zs.Pairwise fun x y => x ≤ y) : (compact zs).Pairwise (fun x y => x < y) ∧ ∀ x, x ∈ compact zs ↔ x ∈ zs := by
  have ha : ∀ i j, i < j → j < zs.toArray.size → zs.toArray[i]! ≤ zs.toArray[j]! := fun i j hij hj => by
    have hj' : j < zs.length := by simpa using hj
    have hi' : i < zs.length := by omega
    have := List.pairwise_iff_getElem.1 h i j hi' hj' hij
    simpa [hi', hj'] using this
  obtain ⟨h1, h2, h3⟩ := comp_to ha zs.length (by simp)
  refine ⟨h1, fun x => ⟨fun hx => ?_, fun hx => ?_⟩⟩
  · obtain ⟨j, hj, e⟩ := h2 x hx
    rw [e]; simp [hj]
  · obtain ⟨j, hj, rfl⟩ := List.mem_iff_getElem.1 hx
    have := h3 j hj
    unfold compact
    simpa [hj] using this
def ofL (b : List UInt8) : ByteArray := ⟨b.toArray⟩
theorem ofL_data (k : ByteArray) : ofL k.data.toList = k := by simp [ofL]
/-- texts in order, each once -/
def sortU (L : List ByteArray) : List ByteArray := (compact ((L.map fun k => k.data.toList).mergeSort fun x y => decide (x ≤ y))).map ofL
theorem sortU_mem (L : List ByteArray) (k : ByteArray) : k ∈ sortU L ↔ k ∈ L := by
  unfold sortU
  have h := (comp_sorted (sort_le (L.map fun k => k.data.toList))).2
  simp only [List.mem_map, h, List.mem_mergeSort]
  constructor
  · rintro ⟨b, ⟨q, hq, rfl⟩, rfl⟩; rw [ofL_data]; exact hq
  · intro hk; exact ⟨k.data.toList, ⟨k, hk, rfl⟩, ofL_data k⟩
theorem sortU_len (L : List ByteArray) : (sortU L).length ≤ L.length := by
  unfold sortU
  have := compact_length_le ((L.map fun k => k.data.toList).mergeSort fun x y => decide (x ≤ y))
  rw [List.length_map]
  refine Nat.le_trans this ?_
  rw [List.length_mergeSort]; simp
theorem own_puts {w : World} {B e n c g : Nat} {xs ys : List Value} (h : w.ownsRow B e 1 (.slice (some ⟨g, 0, none⟩) n c) n xs) (hl : ys.length = n) (q : Nat) (os : Array Obj) :
    (grow ((w.drewN q).setCells g 0 ys) os).ownsRow B e 1 (.slice (some ⟨g, 0, none⟩) n c) n ys ∧ w.grownBy (grow ((w.drewN q).setCells g 0 ys) os) (some g) := by
  obtain ⟨h0, h1⟩ := h
  rcases h1 with ⟨h1, _⟩ | ⟨g', cap, cur, h1, h2, h3, h4, h5, h6, h7⟩
  · cases h1
  · injection h1 with e1 _ e3
    injection e1 with e1; injection e1 with e1
    subst e1; subst e3
    have hh := setCells_heap g e (0, 0) ys 0 (w.drewN q) cur h3
    have hlt := lt_of_block hh
    have hb := ext_setCells (B := 0) (b := g) (a := w) (Nat.zero_le _) ys 0 (w.drewN q) ⟨rfl, rfl, rfl, Nat.le_refl _, fun _ _ => rfl⟩
    refine ⟨⟨by simpa using hl, .inr ⟨g, c, putL cur 0 ys, rfl, h2, ?_, h4, h5, by rw [putL_size]; exact h6, ?_⟩⟩, hb.os, hb.tape, hb.output, by rw [size_grow]; exact Nat.le_trans hb.size (Nat.le_add_right _ _), fun k hk hne => ?_⟩
    · rw [heap_grow_old _ _ hlt]; exact hh
    · rw [putL_eq _ _ _ (by omega)]
      simp [hl]
    · rw [heap_grow_old _ _ (Nat.lt_of_lt_of_le hk hb.size), setCells_other (fun e => hne (by rw [e])) ys 0]
      rfl
theorem own_shorter {w : World} {B e n m c g : Nat} {xs : List Value} (h : w.ownsRow B e 1 (.slice (some ⟨g, 0, none⟩) n c) n xs) (hm : m ≤ n) : w.ownsRow B e 1 (.slice (some ⟨g, 0, none⟩) m c) m (xs.take m) := by
  obtain ⟨h0, h1⟩ := h
  rcases h1 with ⟨h1, _⟩ | ⟨g', cap, cur, h1, h2, h3, h4, h5, h6, h7⟩
  · cases h1
  · injection h1 with e1 _ e3
    injection e1 with e1; injection e1 with e1
    subst e1; subst e3
    refine ⟨by rw [List.length_take]; omega, .inr ⟨g, c, cur, rfl, h2, h3, by omega, h5, h6, ?_⟩⟩
    rw [← h7, List.take_take]
    congr 1; omega
theorem holds_own {w : World} {B e c g : Nat} {zs : List (List UInt8)} {n : Nat} (h : w.ownsRow B e 1 (.slice (some ⟨g, 0, none⟩) n c) n (zs.map encStr)) : Holds encStr w g 0 zs.toArray := by
  intro j hj
  have hj' : j < zs.length := by simpa using hj
  have hn := h.1
  simp at hn
  obtain ⟨_, _, he, _, _, _, hc⟩ := seg_cells (own_seg h) (by omega)
  injection he with he; injection he with he1 he2
  subst he1; subst he2
  refine ⟨?_, ?_⟩
  · rw [hc j (encStr zs[j]) (by simp [hj'])]
    simp [hj']
  · obtain ⟨cur, hcu⟩ := own_heap h
    simp [World.frozen?, hcu]
theorem cS_enc (L : List ByteArray) : cS L = (L.map fun k => k.data.toList).map encStr := by
  simp [cS, encStr, Function.comp_def]
theorem cS_of (zs : List (List UInt8)) : cS (zs.map ofL) = zs.map encStr := by
  simp [cS, encStr, ofL, Function.comp_def]
set_option maxRecDepth 10000 in
set_option maxHeartbeats 1000000 in
theorem sorted_any (B : Nat) (v : Value) (L : List ByteArray) (w : World) (ho : w.ownsRow B 9 1 v L.length (cS L)) (hB : B ≤ w.heap.size) (hn : L.length ≤ 1000000) :
    Calls Tryz.prog 81 #[v] w fun e w' => ∃ v', e = .returned v' ∧ w'.ownsRow w.heap.size 9 1 v' (sortU L).length (cS (sortU L)) ∧ ∃ w1, w.grownBy w1 v.ownBlock ∧ Ext w1 w' := by
  by_cases h0 : L.length = 0
  · have hL : L = [] := List.eq_nil_of_length_eq_zero h0
    subst hL
    obtain ⟨a, c, rfl⟩ := own_form ho
    have hs := own_seg ho
    have S0 := hid (Any.slices_Sort_string_none lays190 a c w)
    have C0 := hid (Any.slices_Compact_string_empty lays194 a c w)
    have K0 := hid (clone_Str (.slice a 0 c) 0 [] w hs (by simp) (by omega))
    have hu : sortU [] = [] := by simp [sortU, compact, compactUpTo]
    rw [hu]
    clear hu
    go_enter Tryz.func81, Tryz.ntmps81
    go_wp2_with fail
    refine (S0.out).mono ?_
    rintro e w1 ⟨rfl, rfl⟩
    clear S0
    go_wp2_with fail
    refine (C0.out).mono ?_
    rintro e w1 ⟨rfl, rfl⟩
    go_wp2_with fail
    refine (K0.out).mono ?_
    rintro e w1 ⟨a', c', rfl, ho', E1⟩
    go_wp2
    go_ret
    exact ⟨_, rfl, ho', _, World.grownBy.refl _ _, E1⟩
  · obtain ⟨a, c, rfl⟩ := own_form ho
    obtain ⟨g, rfl, hg1, hg2, hg3, hg4⟩ := own_pos ho (by omega)
    clear h0
    rw [cS_enc] at ho
    have hl : (L.map fun k => k.data.toList).length = L.length := by simp
    have S1 := Any.slices_Sort_string lays190 g 0 c (L.map fun k => k.data.toList) w (holds_own ho) hg2 (by omega)
    have hls : ((L.map fun k => k.data.toList).mergeSort fun x y => decide (x ≤ y)).length = L.length := by rw [List.length_mergeSort, hl]
    have hsu : sortU L = (compact ((L.map fun k => k.data.toList).mergeSort fun x y => decide (x ≤ y))).map ofL := rfl
    have hle := compact_length_le ((L.map fun k => k.data.toList).mergeSort fun x y => decide (x ≤ y))
    have hH := holds_own ho
    rw [hl] at S1
    have PS := fun q => putRow_eq_setCells encStr w g 0 (L.map fun k => k.data.toList).toArray ((L.map fun k => k.data.toList).mergeSort fun x y => decide (x ≤ y)) q hH (by rw [hls]; simp)
    generalize ((L.map fun k => k.data.toList).mergeSort fun x y => decide (x ≤ y)) = M at S1 hls hsu hle PS
    generalize L.map (fun k => k.data.toList) = Z at ho hl hH PS
    have S1 := hid S1
    have PS := hid PS
    have HSU := hid hsu
    have hcl : (sortU L).length = (compact M).length := by rw [hsu]; simp
    clear hsu hH
    go_enter Tryz.func81, Tryz.ntmps81
    go_wp2_with fail
    refine (S1.out).mono ?_
    clear S1
    rintro e w1 ⟨rfl, q, os, rfl⟩
    rw [PS.out q]
    clear PS
    obtain ⟨ho1, hg'⟩ := own_puts ho (ys := M.map encStr) (by simpa using hls) q os
    generalize grow ((w.drewN q).setCells g 0 (M.map encStr)) os = w1 at ho1 hg' ⊢
    have C1 := Any.slices_Compact_string lays194 g 0 c M w1 (holds_own ho1) (by omega) (by omega)
    have hH1 := holds_own ho1
    have PS1 := fun q => putRow_eq_setCells encStr w1 g 0 M.toArray (compact M ++ List.replicate (M.length - (compact M).length) []) q hH1 (by simp; omega)
    rw [hls] at C1 PS1
    have hle' : (compact M).length ≤ L.length := by omega
    have C1 := hid C1
    have PS1 := hid PS1
    have HLE := hid hle'
    clear hH1 hls hl hle hle'
    generalize compact M = D at C1 PS1 HLE hcl HSU
    go_wp2_with fail
    refine (C1.out).mono ?_
    clear C1
    rintro e w2 ⟨rfl, q2, rfl⟩
    rw [PS1.out q2]
    clear PS1
    have hle := HLE.out
    obtain ⟨ho2, hg2'⟩ := own_puts ho1 (ys := (D ++ List.replicate (L.length - D.length) []).map encStr) (by simp; omega) q2 #[]
    rw [grow_empty] at ho2 hg2'
    have ho3 := own_shorter ho2 (m := D.length) hle
    have et : ((D ++ List.replicate (L.length - D.length) []).map encStr).take D.length = D.map encStr := by rw [List.map_append, List.take_left' (by simp)]
    rw [et] at ho3
    clear et
    generalize ((w1.drewN q2).setCells g 0 ((D ++ List.replicate (L.length - D.length) []).map encStr)) = w2 at ho2 ho3 hg2' ⊢
    have K0 := hid (clone_Str (.slice (some ⟨g, 0, none⟩) D.length c) D.length (D.map encStr) w2 (own_seg ho3) (by intro u hu; simp [encStr] at hu; obtain ⟨_, _, rfl⟩ := hu; rfl) (by omega))
    have hG := hg'.trans hg2'
    clear hle
    go_wp2_with fail
    refine (K0.out).mono ?_
    rintro e w3 ⟨a', c', rfl, ho', E1⟩
    go_wp2
    go_ret
    refine ⟨_, rfl, ?_, w2, hG, E1⟩
    rw [hcl, HSU.out, cS_of]
    exact own_base ho' hG.size
end Go.Proofs.YtnepdfpooobmcaaGreat
