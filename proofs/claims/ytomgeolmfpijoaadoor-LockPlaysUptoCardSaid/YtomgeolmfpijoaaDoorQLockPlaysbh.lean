/- Contracts and lemmas for the proof of LockPlays; each theorem states its own conditions. -/
import Derived.Shelf.Spec.SlicesInsert
import Derived.Shelf.Spec.SlicesInsertGrow
import Derived.Shelf.Slices.Turned
import Derived.Shelf.Slices.Empties2
import Derived.Ground.Names2Prog
import Derived.Test.YtomgeolmfpijoaaDoorProg
import Derived.Test.YtomgeolmfpijoaaDoorQLockPlaysaa
import Derived.Test.YtomgeolmfpijoaaDoorQLockPlaysab
import Derived.Test.YtomgeolmfpijoaaDoorQLockPlaysaw
import Derived.Test.YtomgeolmfpijoaaDoorQLockPlaysbf
import Derived.Test.YtomgeolmfpijoaaDoorQLockPlaysbg
import Derived.Test.YtomgeolmfpijoaaDoorQLockPlaysaq
set_option linter.unusedVariables false
set_option linter.unusedSimpArgs false
/- Contracts and lemmas for the proofs of this seat; each theorem states its own conditions. -/
namespace Go.Proofs.YtomgeolmfpijoaaDoor
open Go.Shelf
def lays2n22_ren : Go.Shelf.Ren := ⟨fun | 22 => 91 | 29 => 136 | 30 => 137 | 36 => 170 | 17 => 209 | n => n, fun | 24 => 26 | 9 => 9 | 3 => 3 | 4 => 4 | 0 => 0 | n => n, fun | n => n⟩
theorem lays2n22 : Go.Proofs.Lays2.n22 Tryd.prog lays2n22_ren := {
  mixed := by kernel_rfl
  f17 := Tryd.func209.trans (congrArg some (by kernel_rfl))
  f22 := Tryd.func91.trans (congrArg some (by kernel_rfl))
  f29 := Tryd.func136.trans (congrArg some (by kernel_rfl))
  f30 := Tryd.func137.trans (congrArg some (by kernel_rfl))
  f36 := Tryd.func170.trans (congrArg some (by kernel_rfl))
  t0 := Tryd.underlying0
  a0 := Tryd.isAgg0
  z0 := Tryd.sizeOf0
  v0 := Tryd.zeroValue0
  t3 := Tryd.underlying3
  a3 := Tryd.isAgg3
  z3 := Tryd.sizeOf3
  v3 := Tryd.zeroValue3
  t4 := Tryd.underlying4
  a4 := Tryd.isAgg4
  z4 := Tryd.sizeOf4
  v4 := Tryd.zeroValue4
  t9 := Tryd.underlying9
  a9 := Tryd.isAgg9
  z9 := Tryd.sizeOf9
  v9 := Tryd.zeroValue9
  t24 := Tryd.underlying26
  a24 := Tryd.isAgg26
  z24 := Tryd.sizeOf26
  v24 := Tryd.zeroValue26
  i9 := by kernel_rfl }
def lays2n21_ren : Go.Shelf.Ren := ⟨fun | 21 => 92 | 27 => 138 | 28 => 139 | 35 => 171 | 39 => 210 | n => n, fun | 22 => 22 | 3 => 3 | 4 => 4 | 0 => 0 | n => n, fun | n => n⟩
theorem lays2n21 : Go.Proofs.Lays2.n21 Tryd.prog lays2n21_ren := {
  mixed := by kernel_rfl
  f21 := Tryd.func92.trans (congrArg some (by kernel_rfl))
  f27 := Tryd.func138.trans (congrArg some (by kernel_rfl))
  f28 := Tryd.func139.trans (congrArg some (by kernel_rfl))
  f35 := Tryd.func171.trans (congrArg some (by kernel_rfl))
  f39 := Tryd.func210.trans (congrArg some (by kernel_rfl))
  t0 := Tryd.underlying0
  a0 := Tryd.isAgg0
  z0 := Tryd.sizeOf0
  v0 := Tryd.zeroValue0
  t3 := Tryd.underlying3
  a3 := Tryd.isAgg3
  z3 := Tryd.sizeOf3
  v3 := Tryd.zeroValue3
  t4 := Tryd.underlying4
  a4 := Tryd.isAgg4
  z4 := Tryd.sizeOf4
  v4 := Tryd.zeroValue4
  t22 := Tryd.underlying22
  a22 := Tryd.isAgg22
  z22 := Tryd.sizeOf22
  v22 := Tryd.zeroValue22
  i3 := by kernel_rfl }
def lays109_ren : Go.Shelf.Ren := ⟨fun | 109 => 99 | n => n, fun | 31 => 26 | 9 => 9 | 3 => 3 | 0 => 0 | 4 => 4 | n => n, fun | n => n⟩
theorem lays109 : Go.Proofs.Lays.n109 Tryd.prog lays109_ren := {
  mixed := by kernel_rfl
  f109 := Tryd.func99.trans (congrArg some (by kernel_rfl))
  t0 := Tryd.underlying0
  a0 := Tryd.isAgg0
  z0 := Tryd.sizeOf0
  v0 := Tryd.zeroValue0
  t3 := Tryd.underlying3
  a3 := Tryd.isAgg3
  z3 := Tryd.sizeOf3
  v3 := Tryd.zeroValue3
  t4 := Tryd.underlying4
  a4 := Tryd.isAgg4
  z4 := Tryd.sizeOf4
  v4 := Tryd.zeroValue4
  t9 := Tryd.underlying9
  a9 := Tryd.isAgg9
  z9 := Tryd.sizeOf9
  v9 := Tryd.zeroValue9
  t31 := Tryd.underlying26
  a31 := Tryd.isAgg26
  z31 := Tryd.sizeOf26
  v31 := Tryd.zeroValue26 }
def lays110_ren : Go.Shelf.Ren := ⟨fun | 110 => 40 | 109 => 99 | n => n, fun | 31 => 26 | 9 => 9 | 4 => 4 | 3 => 3 | 0 => 0 | n => n, fun | n => n⟩
theorem lays110 : Go.Proofs.Lays.n110 Tryd.prog lays110_ren := {
  mixed := by kernel_rfl
  f109 := Tryd.func99.trans (congrArg some (by kernel_rfl))
  f110 := Tryd.func40.trans (congrArg some (by kernel_rfl))
  t0 := Tryd.underlying0
  a0 := Tryd.isAgg0
  z0 := Tryd.sizeOf0
  v0 := Tryd.zeroValue0
  t3 := Tryd.underlying3
  a3 := Tryd.isAgg3
  z3 := Tryd.sizeOf3
  v3 := Tryd.zeroValue3
  t4 := Tryd.underlying4
  a4 := Tryd.isAgg4
  z4 := Tryd.sizeOf4
  v4 := Tryd.zeroValue4
  t9 := Tryd.underlying9
  a9 := Tryd.isAgg9
  z9 := Tryd.sizeOf9
  v9 := Tryd.zeroValue9
  t31 := Tryd.underlying26
  a31 := Tryd.isAgg26
  z31 := Tryd.sizeOf26
  v31 := Tryd.zeroValue26 }
end Go.Proofs.YtomgeolmfpijoaaDoor

/- Contracts and lemmas for the proofs of this seat; each theorem states its own conditions. -/
namespace Go.Proofs.YtomgeolmfpijoaaDoor
open Go.RowKit Go.Shelf
/-- is it on the list? -/
def conS (zs : List ByteArray) (x : ByteArray) : Bool := zs.any fun y => decide (y = x)
theorem conS_eq (zs : List ByteArray) (x : ByteArray) : Lib.containsS zs x = conS zs x := by
  rw [Bool.eq_iff_iff, Lib.containsS_iff, conS, List.any_eq_true]
  exact ⟨fun h => ⟨x, h, by simp⟩, fun ⟨y, h, e⟩ => by simp at e; exact e ▸ h⟩
theorem conS_yes {zs : List ByteArray} {x : ByteArray} (h : x ∈ zs) : conS zs x = true := by
  rw [← conS_eq, Lib.containsS_iff]; exact h
theorem conS_no {zs : List ByteArray} {x : ByteArray} (h : x ∉ zs) : conS zs x = false := by
  cases hc : conS zs x with
  | false => rfl
  | true => rw [← conS_eq, Lib.containsS_iff] at hc; exact absurd hc h
theorem conS_any (v : Value) (zs : List ByteArray) (x : ByteArray) (w : World) (hv : Seg w v 1 zs.length (cS zs)) :
    Calls Tryd.prog 40 #[v, .string x] w fun e w' => e = .returned (.bool (conS zs x)) ∧ w' = w := by
  obtain ⟨h0, a, cap, rfl, h1, h2, h3⟩ := hv
  have hn : zs.length ≤ cap := h1
  unfold maxLen at h2
  rcases Nat.eq_zero_or_pos zs.length with h | h
  · obtain rfl := List.eq_nil_of_length_eq_zero h
    rw [conS_no (by simp)]
    exact Any.slices_Contains_string_empty lays110 a cap x w
  · obtain ⟨b, off, rfl, hc⟩ := h3 h
    have := Any.slices_Contains_string lays110 b off zs.length cap zs x w (Nat.le_refl _) (by omega) (fun j hj => by
      have := hc j _ (cS_at0 zs j hj)
      rw [this]; simp [hj])
    rw [List.take_of_length_le (Nat.le_refl _), conS_eq] at this
    exact this
end Go.Proofs.YtomgeolmfpijoaaDoor

/- Contracts and lemmas for the proofs of this seat; each theorem states its own conditions. -/
namespace Go.Proofs.YtomgeolmfpijoaaDoor
open Go.RowKit Go.Shelf Go.Lib Go.Sort
/-! slices.Sort, slices.Compact at rows of texts of one's own; slices.Contains -/
/-- what slices.Sort makes of texts -/
def srtB (L : List ByteArray) : List (List UInt8) := (L.map fun k => k.data.toList).mergeSort fun x y => decide (x ≤ y)
theorem srtB_len (L : List ByteArray) : (srtB L).length = L.length := by simp [srtB, List.length_mergeSort]
theorem sortU_srtB (L : List ByteArray) : (compact (srtB L)).map ofL = sortU L := rfl
theorem sort_own (B : Nat) (v : Value) (L : List ByteArray) (w : World) (ho : w.ownsRow B 9 1 v L.length (cS L)) (hn : L.length ≤ 1000000) :
    Calls Tryd.prog 104 #[v] w fun e w' => e = .returned (.tuple #[]) ∧ w'.ownsRow B 9 1 v (srtB L).length ((srtB L).map encStr) ∧ w.grownBy w' v.ownBlock := by
  by_cases h0 : L.length = 0
  · have hL : L = [] := List.eq_nil_of_length_eq_zero h0
    subst hL
    obtain ⟨a, c, rfl⟩ := own_form ho
    refine (Any.slices_Sort_string_none lays190 a c w).mono ?_
    rintro e w1 ⟨rfl, rfl⟩
    have : srtB [] = [] := by simp [srtB]
    rw [this]
    exact ⟨rfl, ho, World.grownBy.refl _ _⟩
  · obtain ⟨a, c, rfl⟩ := own_form ho
    obtain ⟨g, rfl, hg1, hg2, hg3, hg4⟩ := own_pos ho (by omega)
    rw [cS_enc] at ho
    have hl : (L.map fun k => k.data.toList).length = L.length := by simp
    have S1 := Any.slices_Sort_string lays190 g 0 c (L.map fun k => k.data.toList) w (holds_own ho) hg2 (by omega)
    have hls : (srtB L).length = L.length := srtB_len L
    have hH := holds_own ho
    rw [hl] at S1
    have PS := fun q => putRow_eq_setCells encStr w g 0 (L.map fun k => k.data.toList).toArray (srtB L) q hH (by rw [hls]; simp)
    refine S1.mono ?_
    rintro e w1 ⟨rfl, q, os, rfl⟩
    have := PS q
    unfold srtB at this
    rw [this]
    obtain ⟨ho1, hg'⟩ := own_puts ho (ys := (srtB L).map encStr) (by simpa using hls) q os
    rw [hls]
    exact ⟨rfl, ho1, hg'⟩
theorem compact_own (B : Nat) (v : Value) (M : List (List UInt8)) (w : World) (ho : w.ownsRow B 9 1 v M.length (M.map encStr)) (hn : M.length ≤ 1000000) :
    Calls Tryd.prog 105 #[v] w fun e w' => ∃ v', e = .returned v' ∧ w'.ownsRow B 9 1 v' (compact M).length ((compact M).map encStr) ∧ w.grownBy w' v.ownBlock ∧ v'.ownBlock = v.ownBlock := by
  by_cases h0 : M.length = 0
  · have hL : M = [] := List.eq_nil_of_length_eq_zero h0
    subst hL
    obtain ⟨a, c, rfl⟩ := own_form ho
    refine (Any.slices_Compact_string_empty lays194 a c w).mono ?_
    rintro e w1 ⟨rfl, rfl⟩
    have : compact ([] : List (List UInt8)) = [] := by simp [compact, compactUpTo]
    rw [this]
    exact ⟨_, rfl, ho, World.grownBy.refl _ _, rfl⟩
  · obtain ⟨a, c, rfl⟩ := own_form ho
    obtain ⟨g, rfl, hg1, hg2, hg3, hg4⟩ := own_pos ho (by omega)
    have hle := compact_length_le M
    have C1 := Any.slices_Compact_string lays194 g 0 c M w (holds_own ho) (by omega) (by omega)
    have hH := holds_own ho
    have PS := fun q => putRow_eq_setCells encStr w g 0 M.toArray (compact M ++ List.replicate (M.length - (compact M).length) []) q hH (by simp; omega)
    refine C1.mono ?_
    rintro e w1 ⟨rfl, q, rfl⟩
    rw [PS q]
    obtain ⟨ho2, hg2'⟩ := own_puts ho (ys := (compact M ++ List.replicate (M.length - (compact M).length) []).map encStr) (by simp; omega) q #[]
    rw [grow_empty] at ho2 hg2'
    have ho3 := own_shorter ho2 (m := (compact M).length) hle
    have et : ((compact M ++ List.replicate (M.length - (compact M).length) []).map encStr).take (compact M).length = (compact M).map encStr := by rw [List.map_append, List.take_left' (by simp)]
    rw [et] at ho3
    exact ⟨_, rfl, ho3, hg2', rfl⟩
theorem contains_Str (v : Value) (L : List ByteArray) (w : World) (hv : Seg w v 1 L.length (cS L)) (k : ByteArray) :
    Calls Tryd.prog 40 #[v, .string k] w fun e w' => e = .returned (.bool (memB L k)) ∧ w' = w := conS_any v L k w hv
end Go.Proofs.YtomgeolmfpijoaaDoor

/- Contracts and lemmas for the proofs of this seat; each theorem states its own conditions. -/
namespace Go.Proofs.YtomgeolmfpijoaaDoor
open Go.RowKit Go.Maps Go.Sort
/-! the document's Names -/
def GathS (R : List ByteArray) (left : Lit → Bool) (l : List ByteArray) : Prop :=
  l.Nodup ∧ (∀ k ∈ l, okS k) ∧ ∀ k, okS k → (k ∈ l ↔ k ∈ R ∧ left (kS k) = false)
theorem setF_some {R : List ByteArray} {k : ByteArray} : setF R k = some true ↔ k ∈ R := by
  unfold setF
  by_cases h : memB R k = true
  · simp [h, memB_iff.1 h]
  · have : ¬ k ∈ R := fun h' => h (memB_iff.2 h')
    simp [h, this]
theorem setF_val {R : List ByteArray} {k : ByteArray} {c : Bool} (h : setF R k = some c) : c = true ∧ k ∈ R := by
  unfold setF at h
  split at h
  · rename_i h'; injection h with h; exact ⟨h.symm, memB_iff.1 h'⟩
  · cases h
theorem gathS_start {D : DU} {R : List ByteArray} (hF : MapF kS okS dB D (setF R)) : GathS R (has D) [] := by
  refine ⟨List.nodup_nil, by simp, fun k hk => ?_⟩
  rw [hF.has hk]
  unfold setF
  by_cases h : memB R k = true
  · simp [h]
  · have : ¬ k ∈ R := fun h' => h (memB_iff.2 h')
    simp [h, this]
theorem gathS_keep {R : List ByteArray} {left : Lit → Bool} {l : List ByteArray} (h : GathS R left l) {x : ByteArray} (hx : okS x) (hl : left (kS x) = true) (hf : x ∈ R) : GathS R (fun z => left z && !z.sameKey (kS x)) (l ++ [x]) := by
  obtain ⟨h1, h2, h3⟩ := h
  have hn : x ∉ l := fun hd => by have := ((h3 x hx).1 hd).2; rw [hl] at this; cases this
  refine ⟨?_, fun p hp => ?_, fun k hk => ?_⟩
  · rw [List.nodup_append]
    refine ⟨h1, by simp, fun a ha b hb => ?_⟩
    simp at hb; subst hb
    rintro rfl
    exact hn ha
  · rcases List.mem_append.1 hp with hp | hp
    · exact h2 p hp
    · simp at hp; subst hp; exact hx
  · by_cases e : k = x
    · subst e
      simp [sameKey_self, hf]
    · simp only [List.mem_append, h3 k hk, sameKey_kS e]
      simp [e]
theorem sort_sortU {l R : List ByteArray} (hn : l.Nodup) (hm : ∀ k, k ∈ l ↔ k ∈ R) : ((l.map fun k => k.data.toList).mergeSort fun x y => decide (x ≤ y)).map ofL = sortU R := by
  have hp := List.mergeSort_perm (l.map fun k => k.data.toList) (fun x y => decide (x ≤ y))
  have hle := sort_le (l.map fun k => k.data.toList)
  have hnd : ((l.map fun k => k.data.toList).mergeSort fun x y => decide (x ≤ y)).Nodup := by
    rw [hp.nodup_iff]
    unfold List.Nodup
    rw [List.pairwise_map]
    refine hn.imp fun {a b} h e => h ?_
    rw [← ofL_data a, ← ofL_data b, e]
  have hmem : ∀ x, x ∈ ((l.map fun k => k.data.toList).mergeSort fun x y => decide (x ≤ y)) ↔ x ∈ l.map fun k => k.data.toList := fun x => hp.mem_iff
  generalize ((l.map fun k => k.data.toList).mergeSort fun x y => decide (x ≤ y)) = M at hp hle hnd hmem
  refine srt_uniq ?_ (sortU_srt R) fun k => ?_
  · rw [List.pairwise_map]
    have := hle.and hnd
    refine this.imp fun {a b} h => ?_
    have hlt : a < b := by
      rcases lt_tri a b with q | q | q
      · exact q
      · exact absurd q h.2
      · exact absurd q (le_not.1 h.1)
    have := (bl_lt a b).2 hlt
    simpa [blt, ofL, toList_data] using this
  · rw [sortU_mem, ← hm, List.mem_map]
    constructor
    · rintro ⟨a, ha, rfl⟩
      obtain ⟨j, hj, rfl⟩ := List.mem_map.1 ((hmem a).1 ha)
      rw [ofL_data]; exact hj
    · intro hk
      exact ⟨k.data.toList, (hmem _).2 (List.mem_map.2 ⟨k, hk, rfl⟩), ofL_data k⟩
section
variable {P : Program} (w : World) {ops : Array Oper} {rest : List Oper} {o : Oper} {a : Act} {Q : Exit → Act → World → Prop}
/-- the step of a loop over a set of texts -/
theorem wpList_next_set (hg : o.guard = none) (it : Operand) (hop : o.op = Op.next it false) (k e : TypeId) (K : Keyed P k) (hk : P.underlying k = some .string) (he : P.underlying e = some .bool)
    (b r n : Nat) (D : DU) (R : List ByteArray) (hF : MapF kS okS dB D (setF R)) (left : Lit → Bool) (cnt : Nat) (hit : a.eval it = .pointer (some ⟨r, 0, none⟩)) (h : w.ranges P k (plainElem P e) b r n D left cnt)
    (hDone : (∀ kl, left kl = false) → wpList P ops Q rest (a.put o.dst (.tuple #[.bool false])) w)
    (hMore : ∀ (x : ByteArray) (w' : World) (cnt' : Nat), okS x → left (kS x) = true → x ∈ R → w'.ranges P k (plainElem P e) b r n D (fun z => left z && !z.sameKey (kS x)) cnt' → cnt' < cnt →
      w.grownBy w' (some r) → w'.heap.size = w.heap.size → (Instr.entry (.pointer (some ⟨r, 0, none⟩))).run P w' = .ok (.tuple #[.string x, .bool true]) w' → wpList P ops Q rest (a.put o.dst (.tuple #[.bool true, .string x, .bool true])) w') :
    wpList P ops Q (o :: rest) a w :=
  wpList_next_sb w hg it hop k e K hk he b r n D (setF R) hF left cnt hit h hDone fun x c w' cnt' h1 h2 h3 => by
    obtain ⟨rfl, h4⟩ := setF_val h3
    exact hMore x w' cnt' h1 h2 h4
end
def NRel (w : World) (b n : Nat) (D : DU) (R : List ByteArray) (v : Value) (wr : World) : Prop :=
  ∃ (left : Lit → Bool) (cnt : Nat) (l : List ByteArray), wr.ranges Tryd.prog 9 (plainElem Tryd.prog 4) b w.heap.size n D left cnt ∧ GathS R left l ∧ l.length + cnt ≤ n ∧
    wr.ownsRow (w.heap.size + 1) 9 1 v l.length (cS l) ∧ Ext w wr
theorem kv1S (x : ByteArray) : ∀ u ∈ [Value.string x], u.oneCell' = true := one_str x
end Go.Proofs.YtomgeolmfpijoaaDoor
