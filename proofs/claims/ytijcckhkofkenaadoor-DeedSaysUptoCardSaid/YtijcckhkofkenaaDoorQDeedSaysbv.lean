/- Contracts and lemmas for the proof of DeedSays; each theorem states its own conditions. -/
import Derived.Test.YtijcckhkofkenaaDoorQDeedSaysbt
import Derived.Test.YtijcckhkofkenaaDoorQDeedSaysaz
import Derived.Test.YtijcckhkofkenaaDoorQDeedSaysbu
set_option linter.unusedVariables false
set_option linter.unusedSimpArgs false
/- Contracts and lemmas for the proofs of this seat; each theorem states its own conditions. -/
namespace Go.Proofs.YtijcckhkofkenaaDoor
open Go.RowKit Go.Maps Go.Sort
/-! the document's Names -/
def GathS (R : List ByteArray) (left : Lit → Bool) (l : List ByteArray) : Prop :=
  l.Nodup ∧ (∀ k ∈ l, okS k) ∧ ∀ k, okS k → (k ∈ l ↔ k ∈ R ∧ left (kS k) = false)
theorem setF_some {R : List ByteArray} {k : ByteArray} : setF R k = some true ↔ k ∈ R := by
  unfold setF
  by_cases h : memB R k = true
  · simp [h, memB_iff.1 h]
  · have : ¬ k ∈ R := fun h' => h (memB_iff.2 h')
    simp [h, this]
theorem setF_val {R : List ByteArray} {k : ByteArray} {c : Bool} (h : setF R k = some c) : c = true ∧ k ∈ R := by
  unfold setF at h
  split at h
  · rename_i h'; injection h with h; exact ⟨h.symm, memB_iff.1 h'⟩
  · cases h
theorem gathS_start {D : DU} {R : List ByteArray} (hF : MapF kS okS dB D (setF R)) : GathS R (has D) [] := by
  refine ⟨List.nodup_nil, by simp, fun k hk => ?_⟩
  rw [hF.has hk]
  unfold setF
  by_cases h : memB R k = true
  · simp [h]
  · have : ¬ k ∈ R := fun h' => h (memB_iff.2 h')
    simp [h, this]
theorem gathS_keep {R : List ByteArray} {left : Lit → Bool} {l : List ByteArray} (h : GathS R left l) {x : ByteArray} (hx : okS x) (hl : left (kS x) = true) (hf : x ∈ R) : GathS R (fun z => left z && !z.sameKey (kS x)) (l ++ [x]) := by
  obtain ⟨h1, h2, h3⟩ := h
  have hn : x ∉ l := fun hd => by have := ((h3 x hx).1 hd).2; rw [hl] at this; cases this
  refine ⟨?_, fun p hp => ?_, fun k hk => ?_⟩
  · rw [List.nodup_append]
    refine ⟨h1, by simp, fun a ha b hb => ?_⟩
    simp at hb; subst hb
    rintro rfl
    exact hn ha
  · rcases List.mem_append.1 hp with hp | hp
    · exact h2 p hp
    · simp at hp; subst hp; exact hx
  · by_cases e : k = x
    · subst e
      simp [sameKey_self, hf]
    · simp only [List.mem_append, h3 k hk, sameKey_kS e]
      simp [e]
theorem sort_sortU {l R : List ByteArray} (hn : l.Nodup) (hm : ∀ k, k ∈ l ↔ k ∈ R) : ((l.map fun k => k.data.toList).mergeSort fun x y => decide (x ≤ y)).map ofL = sortU R := by
  have hp := List.mergeSort_perm (l.map fun k => k.data.toList) (fun x y => decide (x ≤ y))
  have hle := sort_le (l.map fun k => k.data.toList)
  have hnd : ((l.map fun k => k.data.toList).mergeSort fun x y => decide (x ≤ y)).Nodup := by
    rw [hp.nodup_iff]
    unfold List.Nodup
    rw [List.pairwise_map]
    refine hn.imp fun {a b} h e => h ?_
    rw [← ofL_data a, ← ofL_data b, e]
  have hmem : ∀ x, x ∈ ((l.map fun k => k.data.toList).mergeSort fun x y => decide (x ≤ y)) ↔ x ∈ l.map fun k => k.data.toList := fun x => hp.mem_iff
  generalize ((l.map fun k => k.data.toList).mergeSort fun x y => decide (x ≤ y)) = M at hp hle hnd hmem
  refine srt_uniq ?_ (sortU_srt R) fun k => ?_
  · rw [List.pairwise_map]
    have := hle.and hnd
    refine this.imp fun {a b} h => ?_
    have hlt : a < b := by
      rcases lt_tri a b with q | q | q
      · exact q
      · exact absurd q h.2
      · exact absurd q (le_not.1 h.1)
    have := (bl_lt a b).2 hlt
    simpa [blt, ofL, toList_data] using this
  · rw [sortU_mem, ← hm, List.mem_map]
    constructor
    · rintro ⟨a, ha, rfl⟩
      obtain ⟨j, hj, rfl⟩ := List.mem_map.1 ((hmem a).1 ha)
      rw [ofL_data]; exact hj
    · intro hk
      exact ⟨k.data.toList, (hmem _).2 (List.mem_map.2 ⟨k, hk, rfl⟩), ofL_data k⟩
section
variable {P : Program} (w : World) {ops : Array Oper} {rest : List Oper} {o : Oper} {a : Act} {Q : Exit → Act → World → Prop}
/-- the step of a loop over a set of texts -/
theorem wpList_next_set (hg : o.guard = none) (it : Operand) (hop : o.op = Op.next it false) (k e : TypeId) (K : Keyed P k) (hk : P.underlying k = some .string) (he : P.underlying e = some .bool)
    (b r n : Nat) (D : DU) (R : List ByteArray) (hF : MapF kS okS dB D (setF R)) (left : Lit → Bool) (cnt : Nat) (hit : a.eval it = .pointer (some ⟨r, 0, none⟩)) (h : w.ranges P k (plainElem P e) b r n D left cnt)
    (hDone : (∀ kl, left kl = false) → wpList P ops Q rest (a.put o.dst (.tuple #[.bool false])) w)
    (hMore : ∀ (x : ByteArray) (w' : World) (cnt' : Nat), okS x → left (kS x) = true → x ∈ R → w'.ranges P k (plainElem P e) b r n D (fun z => left z && !z.sameKey (kS x)) cnt' → cnt' < cnt →
      w.grownBy w' (some r) → w'.heap.size = w.heap.size → (Instr.entry (.pointer (some ⟨r, 0, none⟩))).run P w' = .ok (.tuple #[.string x, .bool true]) w' → wpList P ops Q rest (a.put o.dst (.tuple #[.bool true, .string x, .bool true])) w') :
    wpList P ops Q (o :: rest) a w :=
  wpList_next_sb w hg it hop k e K hk he b r n D (setF R) hF left cnt hit h hDone fun x c w' cnt' h1 h2 h3 => by
    obtain ⟨rfl, h4⟩ := setF_val h3
    exact hMore x w' cnt' h1 h2 h4
end
def NRel (w : World) (b n : Nat) (D : DU) (R : List ByteArray) (v : Value) (wr : World) : Prop :=
  ∃ (left : Lit → Bool) (cnt : Nat) (l : List ByteArray), wr.ranges Tryd.prog 9 (plainElem Tryd.prog 4) b w.heap.size n D left cnt ∧ GathS R left l ∧ l.length + cnt ≤ n ∧
    wr.ownsRow (w.heap.size + 1) 9 1 v l.length (cS l) ∧ Ext w wr
theorem sstrings_any (B : Nat) (v : Value) (L : List ByteArray) (w : World) (ho : w.ownsRow B 9 1 v L.length (cS L)) (hn : L.length ≤ 1000000) :
    Calls Tryd.prog 121 #[v] w fun e w' => e = .returned (.tuple #[]) ∧ w'.ownsRow B 9 1 v (srtB L).length ((srtB L).map encStr) ∧ w.grownBy w' v.ownBlock := by
  have S0 := hid (sort_own B v L w ho hn)
  clear ho
  go_enter Tryd.func121, Tryd.ntmps121
  go_wp2_with fail
  refine (S0.out).mono ?_
  rintro e w1 ⟨rfl, h1, h2⟩
  go_wp2
  exact ⟨rfl, .tuple #[], by simp [results, Tryd.results121, go_sem], rfl, h1, h2⟩
theorem kv1S (x : ByteArray) : ∀ u ∈ [Value.string x], u.oneCell' = true := one_str x
set_option maxRecDepth 10000 in
set_option maxHeartbeats 2000000 in
theorem names_any (b : Nat) (D : DU) (R : List ByteArray) (w : World) (hown : w.ownsMap Tryd.prog 9 (plainElem Tryd.prog 4) b R.length D) (hF : MapF kS okS dB D (setF R)) (hR : ∀ k ∈ R, okS k) (hn : R.length ≤ 1000000) :
    Calls Tryd.prog 51 #[.map (some b)] w fun e w' => ∃ v', e = .returned v' ∧ w'.ownsRow w.heap.size 9 1 v' (sortU R).length (cS (sortU R)) ∧ Ext w w' := by
  have hsz := own_size hown
  have hbl := hown.lt
  go_enter Tryd.func51, Tryd.ntmps51
  go_wp2_with (first
    | (at_range; refine wpList_range_own _ rfl _ 72 rfl 9 4 lawS Tryd.underlying72 _ b R.length _ rfl hown ?_; intro w0 hrg0 hg0 hs0)
    | go_in)
  go_frame
  have E1 := ext_of_grown hg0
  go_loopw [3, 4] (fun v _ wr => NRel w b R.length D R v wr) (fun _ _ wr => wr.rangeLeft b w.heap.size)
  case atStart =>
    exact ⟨_, _, [], by simpa using hrg0, gathS_start hF, by simpa using hsz, World.ownsRow_nil _ _ _ _, E1⟩
  case round =>
    obtain ⟨wo, rfl⟩ : ∃ wo : World, wo = wr := ⟨_, rfl⟩
    obtain ⟨left, cnt, l, hrg, hG, hlc, ho, E⟩ := hrel
    obtain ⟨ao, co, rfl⟩ := own_form ho
    go_wp2_with (first
      | (at_next; refine wpList_next_set _ rfl _ rfl 9 4 lawS Tryd.underlying9 Tryd.underlying4 b w.heap.size R.length D R hF _ _ rfl hrg ?_ ?_)
      | go_in)
    · intro hl0
      have hm : ∀ k, k ∈ l ↔ k ∈ R := fun k => ⟨fun h => ((hG.2.2 k (hG.2.1 k h)).1 h).1, fun h => (hG.2.2 k (hR k h)).2 ⟨h, hl0 _⟩⟩
      have hSU := hid (sort_sortU hG.1 hm)
      have S1 := hid (sstrings_any (w.heap.size + 1) _ l wo ho (by omega))
      have hge := own_ge ho
      clear hm hG
      go_wp2_with fail
      refine (S1.out).mono ?_
      rintro e w2 ⟨rfl, ho2, hg2⟩
      have E2 : Ext w w2 := E.grown hg2 (fun k hk => by have := hge k hk; omega)
      go_wp2
      go_ret
      refine ⟨_, rfl, ?_, E2⟩
      have h1 : sortU R = (srtB l).map ofL := hSU.out.symm
      have h2 : (sortU R).length = (srtB l).length := by rw [h1]; simp
      have h3 : l.length = (srtB l).length := (srtB_len l).symm
      rw [h2, h1, cS_of, h3]
      rw [h3] at ho2
      exact own_base ho2 (by omega)
    · intro x w1 cnt1 hwx hlx hxR hrg1 hlt hg1 hs1 hen
      have hge := own_ge ho
      have E1' : Ext w w1 := E.grown hg1 (fun k hk => by injection hk with hk; omega)
      have hne : (Value.slice ao l.length co).ownBlock ≠ some w.heap.size := fun e => by have := hge _ e; omega
      have hne3 : (Value.slice ao l.length co).ownBlock ≠ some b := fun e => by have := hge _ e; omega
      have ho1 := grown_own hg1 ho (.inr hne)
      have hG' := gathS_keep hG hwx hlx hxR
      have HG := hid hG'
      clear hG hG'
      have bn := heap_alloc_new w1 (.cells #[.string x] 9)
      have hsv : Seg (w1.alloc (.cells #[.string x] 9)) (.slice (some ⟨w1.heap.size, 0, none⟩) 1 1) 1 1 [.string x] :=
        seg_blk (xs := [.string x]) bn rfl (Nat.le_refl _) (by simp [maxLen])
      have hrg1a := hrg1.alloc (.cells #[.string x] 9)
      have E1a := E1'.alloc (.cells #[.string x] 9)
      have hB : w.heap.size + 1 ≤ (w1.alloc (.cells #[.string x] 9)).heap.size := by have := hrg1.lt; simp; omega
      clear bn hs1
      go_wp2_with (first | (at_builtin; refine (wpList_app rfl _ _ 26 rfl (w.heap.size + 1) 9 (.string ⟨#[]⟩) 1 16 Tryd.underlying26 infoStr rfl (by decide) _ l.length (cS l) rfl (ho1.alloc _) (.slice (some ⟨w1.heap.size, 0, none⟩) 1 1) 1 [.string x] rfl hsv (one_str _) (by omega) (by unfold maxLen; omega) hB ?_); intro v' w4 ho' hg; obtain ⟨a4, c4', rfl⟩ := own_form ho'))
      go_roundw
      case rel =>
        have hrg4 := hrg1a.kept hg (fun e => hne3 e.symm) (fun e => hne e.symm)
        have E4 : Ext w w4 := E1a.grown hg (fun k hk => by have := hge k hk; omega)
        refine ⟨_, cnt1, l ++ [x], hrg4, HG.out, by simp; omega, ?_, E4⟩
        rw [List.length_append, cS_app]
        exact ho'
      case measure =>
        have hrg4 := hrg1a.kept hg (fun e => hne3 e.symm) (fun e => hne e.symm)
        rw [hrg4.left_eq, hrg.left_eq]; exact hlt
end Go.Proofs.YtijcckhkofkenaaDoor
