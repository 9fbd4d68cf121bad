/- Contracts and lemmas for the proof of PartsPlay; each theorem states its own conditions. -/
import Derived.Test.YtimchedebcoohaaGreatDoorProg
import Derived.Test.YtimchedebcoohaaGreatDoorQPartsPlayab
import Derived.WalkSpells
import Derived.WalkLawsBesides
import Derived.Laws.StructEq
import Derived.Deep.QuietTactic
import Derived.BigQuiet
import Derived.Test.YtimchedebcoohaaGreatDoorQPartsPlayas
import Derived.Test.YtimchedebcoohaaGreatDoorQPartsPlayat
import Derived.Test.YtimchedebcoohaaGreatDoorQPartsPlayao
set_option linter.unusedVariables false
set_option linter.unusedSimpArgs false
/- Contracts and lemmas for the proofs of this seat; each theorem states its own conditions. -/
namespace Go.Proofs.YtimchedebcoohaaGreatDoor
open Go.RowKit
theorem neq_Pair (s t : ByteArray) (x y : Int) (w : World) : (binOp .neq 55 (.agg #[.string s, .int .i64 x]) (.agg #[.string t, .int .i64 y])).run Tryz.prog w = .ok (.bool (!(decide ((s, x) = (t, y))))) w := by
  have e2 : Tryz.prog.stoodInHeld 55 = false := by kernel_rfl
  have e3 : Tryz.prog.underlying 55 = some (.struct (Tryz.prog.fieldsOf 55)) := by kernel_rfl
  have e4 : (Tryz.prog.fieldsOf 55).toList = [⟨"Key", 9, 0, false, "", "", 0⟩, ⟨"Value", 3, 1, false, "", "", 16⟩] := by kernel_rfl
  rw [run_neq_struct, run_equalIn_struct _ _ _ _ _ e3 e2, e4]
  simp [Op.eqFields, go_sem]
  by_cases h : s = t
  · subst h; by_cases h' : x = y <;> simp [h']
  · have : ¬ s.toList = t.toList := fun e => h (toList_inj e)
    simp [this, h]
theorem pair_ne {p q : ByteArray × Int} (h : (!decide (p.1 = q.1)) = true ∨ (!decide (p.2 = q.2)) = true) : p ≠ q := by
  rintro rfl; simp at h
theorem pair_eq {p q : ByteArray × Int} (h : (!decide (p.1 = q.1)) = false ∧ (!decide (p.2 = q.2)) = false) : p = q := by
  simp at h; exact Prod.ext h.1 h.2
theorem neq_Op (a b : GOp) (w : World) : (binOp .neq 90 (.agg #[.int .i64 a.kind, .string a.key, .string a.from_, .int .i64 a.n]) (.agg #[.int .i64 b.kind, .string b.key, .string b.from_, .int .i64 b.n])).run Tryz.prog w = .ok (.bool (opNe a b)) w := by
  have e2 : Tryz.prog.stoodInHeld 90 = false := by kernel_rfl
  have e3 : Tryz.prog.underlying 90 = some (.struct (Tryz.prog.fieldsOf 90)) := by kernel_rfl
  have e4 : (Tryz.prog.fieldsOf 90).toList = [⟨"Kind", 3, 0, false, "", "", 0⟩, ⟨"Key", 9, 1, false, "", "", 8⟩, ⟨"From", 9, 2, false, "", "", 24⟩, ⟨"N", 3, 3, false, "", "", 40⟩] := by kernel_rfl
  rw [run_neq_struct, run_equalIn_struct _ _ _ _ _ e3 e2, e4]
  simp [Op.eqFields, go_sem]
  cases a with | mk k s f n => cases b with | mk k' s' f' n' =>
  by_cases h0 : k = k'
  · by_cases h1 : s = s'
    · by_cases h2 : f = f'
      · by_cases h3 : n = n' <;> simp [h0, h1, h2, h3, opNe]
      · have : ¬ f.toList = f'.toList := fun e => h2 (toList_inj e)
        simp [h0, h1, h2, this, opNe]
    · have : ¬ s.toList = s'.toList := fun e => h1 (toList_inj e)
      simp [h0, h1, this, opNe]
  · simp [h0, opNe]
set_option maxRecDepth 10000 in
theorem equal_Int (v u : Value) (l m : List Int) (w : World) (hv : Seg w v 1 l.length (cI l)) (hu : Seg w u 1 m.length (cI m)) :
    Calls Tryz.prog 23 #[v, u] w fun e w' => e = .returned (.bool (decide (l = m))) ∧ ∃ d, w' = w.drewN d := by
  obtain ⟨h0, a, cap, rfl, h1, h2, h3⟩ := hv
  obtain ⟨h0', a', cap', rfl, h1', h2', h3'⟩ := hu
  unfold maxLen at h2 h2'
  by_cases hnm : (l.length : Int) = m.length
  · have hnm' : l.length = m.length := by omega
    have HN := (show Hid (l.length = m.length) from hnm')
    clear hnm'
    have q : ((l.length : Int) != m.length) = false := by simp [hnm]
    clear hnm
    go_enter Tryz.func23, Tryz.ntmps23
    go_wp2
    go_loopw [4, 5, 13] (fun r _ i wr => ∃ k : Nat, k ≤ l.length ∧ i = .int .i64 k ∧ r = .bool false ∧ l.take k = m.take k ∧ ∃ d, wr = w.drewN d) (fun _ _ i _ => l.length - (intOf i).toNat)
    case atStart => exact ⟨0, Nat.zero_le _, rfl, rfl, rfl, 0, rfl⟩
    case round =>
      obtain ⟨k, hk, rfl, rfl, heq, d, rfl⟩ := hrel
      have HE := (show Hid (l.take k = m.take k) from heq)
      clear heq
      by_cases hlt : k < l.length
      · obtain ⟨b, off, rfl, hc⟩ := h3 (by omega)
        have hlt' : k < m.length := by have := HN.out; omega
        obtain ⟨b', off', rfl, hc'⟩ := h3' (by omega)
        have c0 := hc _ _ (cI_at0 l k hlt)
        have d0 := hc' _ _ (cI_at0 m k hlt')
        clear hc hc' h3 h3'
        go_wp2
        go_quiet (fail)
        go_wp2
        · go_ret
          have hne : l[k] ≠ m[k] := by simpa using (show (l[k] != m[k]) = true by assumption)
          exact ⟨rB (by simp; rintro rfl; exact hne rfl), _, World.drewN_drewN _ _ _⟩
        · have heq : l[k] = m[k] := by simpa using (show (l[k] != m[k]) = false by assumption)
          go_roundw
          case rel => exact ⟨k + 1, by omega, by go_num, rfl, take_eq_step hlt hlt' HE.out heq, _, rfl⟩
          case measure => simp [intOf]; omega
      · go_wp2
        go_ret
        obtain rfl : k = l.length := by omega
        have := HE.out
        rw [List.take_of_length_le (Nat.le_refl _), List.take_of_length_le (by rw [HN.out]; exact Nat.le_refl _)] at this
        exact ⟨rB (by simp [this]), _, rfl⟩
  · go_enter Tryz.func23, Tryz.ntmps23
    go_wp2
    go_ret
    exact ⟨rB (by simp; intro h; exact hnm (by rw [h])), 0, rfl⟩
set_option maxRecDepth 10000 in
theorem equal_Str (v u : Value) (l m : List ByteArray) (w : World) (hv : Seg w v 1 l.length (cS l)) (hu : Seg w u 1 m.length (cS m)) :
    Calls Tryz.prog 51 #[v, u] w fun e w' => e = .returned (.bool (decide (l = m))) ∧ ∃ d, w' = w.drewN d := by
  obtain ⟨h0, a, cap, rfl, h1, h2, h3⟩ := hv
  obtain ⟨h0', a', cap', rfl, h1', h2', h3'⟩ := hu
  unfold maxLen at h2 h2'
  by_cases hnm : (l.length : Int) = m.length
  · have hnm' : l.length = m.length := by omega
    have HN := (show Hid (l.length = m.length) from hnm')
    clear hnm'
    have q : ((l.length : Int) != m.length) = false := by simp [hnm]
    clear hnm
    go_enter Tryz.func51, Tryz.ntmps51
    go_wp2
    go_loopw [4, 5, 13] (fun r _ i wr => ∃ k : Nat, k ≤ l.length ∧ i = .int .i64 k ∧ r = .bool false ∧ l.take k = m.take k ∧ ∃ d, wr = w.drewN d) (fun _ _ i _ => l.length - (intOf i).toNat)
    case atStart => exact ⟨0, Nat.zero_le _, rfl, rfl, rfl, 0, rfl⟩
    case round =>
      obtain ⟨k, hk, rfl, rfl, heq, d, rfl⟩ := hrel
      have HE := (show Hid (l.take k = m.take k) from heq)
      clear heq
      by_cases hlt : k < l.length
      · obtain ⟨b, off, rfl, hc⟩ := h3 (by omega)
        have hlt' : k < m.length := by have := HN.out; omega
        obtain ⟨b', off', rfl, hc'⟩ := h3' (by omega)
        have c0 := hc _ _ (cS_at0 l k hlt)
        have d0 := hc' _ _ (cS_at0 m k hlt')
        clear hc hc' h3 h3'
        go_wp2
        go_quiet (fail)
        go_wp2
        · go_ret
          have hne : l[k] ≠ m[k] := str_ne (by assumption)
          exact ⟨rB (by simp; rintro rfl; exact hne rfl), _, World.drewN_drewN _ _ _⟩
        · have heq : l[k] = m[k] := str_eq (by assumption)
          go_roundw
          case rel => exact ⟨k + 1, by omega, by go_num, rfl, take_eq_step hlt hlt' HE.out heq, _, rfl⟩
          case measure => simp [intOf]; omega
      · go_wp2
        go_ret
        obtain rfl : k = l.length := by omega
        have := HE.out
        rw [List.take_of_length_le (Nat.le_refl _), List.take_of_length_le (by rw [HN.out]; exact Nat.le_refl _)] at this
        exact ⟨rB (by simp [this]), _, rfl⟩
  · go_enter Tryz.func51, Tryz.ntmps51
    go_wp2
    go_ret
    exact ⟨rB (by simp; intro h; exact hnm (by rw [h])), 0, rfl⟩
set_option maxRecDepth 10000 in
theorem equal_Pair (v u : Value) (l m : List (ByteArray × Int)) (w : World) (hv : Seg w v 2 l.length (cP l)) (hu : Seg w u 2 m.length (cP m)) :
    Calls Tryz.prog 24 #[v, u] w fun e w' => e = .returned (.bool (decide (l = m))) ∧ ∃ d, w' = w.drewN d := by
  obtain ⟨h0, a, cap, rfl, h1, h2, h3⟩ := hv
  obtain ⟨h0', a', cap', rfl, h1', h2', h3'⟩ := hu
  unfold maxLen at h2 h2'
  have e1 : Tryz.prog.eqGuardType Tryz.prog.depth 55 = false := by kernel_rfl
  have hneq := neq_Pair
  by_cases hnm : (l.length : Int) = m.length
  · have hnm' : l.length = m.length := by omega
    have HN := (show Hid (l.length = m.length) from hnm')
    clear hnm'
    have q : ((l.length : Int) != m.length) = false := by simp [hnm]
    clear hnm
    go_enter Tryz.func24, Tryz.ntmps24
    go_wp2
    go_loopw [4, 5, 13] (fun r _ i wr => ∃ k : Nat, k ≤ l.length ∧ i = .int .i64 k ∧ r = .bool false ∧ l.take k = m.take k ∧ ∃ d, wr = w.drewN d) (fun _ _ i _ => l.length - (intOf i).toNat)
    case atStart => exact ⟨0, Nat.zero_le _, rfl, rfl, rfl, 0, rfl⟩
    case round =>
      obtain ⟨k, hk, rfl, rfl, heq, d, rfl⟩ := hrel
      have HE := (show Hid (l.take k = m.take k) from heq)
      clear heq
      by_cases hlt : k < l.length
      · obtain ⟨b, off, rfl, hc⟩ := h3 (by omega)
        have hlt' : k < m.length := by have := HN.out; omega
        obtain ⟨b', off', rfl, hc'⟩ := h3' (by omega)
        have c0 := hc _ _ (cP_at0 l k hlt)
        have d0 := hc' _ _ (cP_at0 m k hlt')

        have c1 := hc _ _ (cP_at1 l k hlt)
        rw [show off + (k * 2 + 1) = off + k * 2 + 1 from by omega] at c1
        have d1 := hc' _ _ (cP_at1 m k hlt')
        rw [show off' + (k * 2 + 1) = off' + k * 2 + 1 from by omega] at d1
        clear hc hc' h3 h3'
        go_wp2
        go_quiet (fail)
        go_wp2
        · go_ret
          have hne : l[k] ≠ m[k] := pair_ne (by assumption)
          exact ⟨rB (by simp; rintro rfl; exact hne rfl), _, World.drewN_drewN _ _ _⟩
        · have heq : l[k] = m[k] := pair_eq (by assumption)
          go_roundw
          case rel => exact ⟨k + 1, by omega, by go_num, rfl, take_eq_step hlt hlt' HE.out heq, _, rfl⟩
          case measure => simp [intOf]; omega
      · go_wp2
        go_ret
        obtain rfl : k = l.length := by omega
        have := HE.out
        rw [List.take_of_length_le (Nat.le_refl _), List.take_of_length_le (by rw [HN.out]; exact Nat.le_refl _)] at this
        exact ⟨rB (by simp [this]), _, rfl⟩
  · go_enter Tryz.func24, Tryz.ntmps24
    go_wp2
    go_ret
    exact ⟨rB (by simp; intro h; exact hnm (by rw [h])), 0, rfl⟩
end Go.Proofs.YtimchedebcoohaaGreatDoor

/- Contracts and lemmas for the proofs of this seat; each theorem states its own conditions. -/
namespace Go.Proofs.YtimchedebcoohaaGreatDoor
open Go.RowKit
/-! rokeep.run, deedBegun, deed.Serial -/
theorem DeedG.from_sm {d : Ops} (h : DeedOk d) (hf : ∀ o ∈ d, o.from_.size ≤ 9223372036854775807) : opsSm d := opsSm_ok h hf
theorem eqP_same (l : Prs) : decide (l = l) = true := by simp
theorem run_len (l : Prs) (d : Ops) : (runS l d).length ≤ l.length + 2 * d.length := by
  unfold runS
  cases e : runP l d with
  | none => simp
  | some l' => exact len_run e
def abO : Ops := [⟨5, ⟨#[98]⟩, ⟨#[97]⟩, 2⟩]
theorem abO_ok : deedE abO = 0 ∧ storeErr [((⟨#[97]⟩ : ByteArray), (5 : Int))] = 0 ∧ runS [((⟨#[97]⟩ : ByteArray), (5 : Int))] abO = [((⟨#[97]⟩ : ByteArray), (3 : Int)), ((⟨#[98]⟩ : ByteArray), (2 : Int))] ∧ runB [((⟨#[97]⟩ : ByteArray), (5 : Int))] abO = true := by decide +kernel
/-- a variable of its own, set at once -/
theorem new_set (w : World) (t : TypeId) (z u : Value) : ∃ W, (w.alloc (.cells #[z] t)).setCell ⟨w.heap.size, 0, none⟩ u = W ∧ Ext w W ∧ W.heap[w.heap.size]? = some (.cells #[u] t (0, 0)) ∧ W.cell? ⟨w.heap.size, 0, none⟩ = some u ∧ (w.alloc (.cells #[z] t)).frozen? ⟨w.heap.size, 0, none⟩ = false ∧ (w.alloc (.cells #[z] t)).cell? ⟨w.heap.size, 0, none⟩ = some z ∧ w.heap.size < W.heap.size := by
  have h := one_setCell (u := u) (heap_alloc_new w (.cells #[z] t))
  exact ⟨_, rfl, ((Ext.refl w).alloc _).setCell (Nat.le_refl _) _, h, cell_of_one h, free_of_one (heap_alloc_new w _), cell_of_one (heap_alloc_new w _), lt_of_block h⟩
/-- deeds, in a row -/
def SegDs (w : World) (v : Value) (D : List Ops) : Prop :=
  ∃ vs : List Value, vs.length = D.length ∧ Seg w v 1 vs.length vs ∧ ∀ (i : Nat) (u : Value) (d : Ops), vs[i]? = some u → D[i]? = some d → Seg w u 4 d.length (cO d)
theorem SegDs.ext {w w' : World} {v : Value} {D : List Ops} (h : SegDs w v D) (k : Ext w w') : SegDs w' v D := by
  obtain ⟨vs, h1, h2, h3⟩ := h
  exact ⟨vs, h1, h2.ext k, fun i u d a b => (h3 i u d a b).ext k⟩
theorem OwnDs.seg {w : World} {B B' : Nat} {v : Value} {vs : List Value} {D : List Ops} (h : OwnDs w B vs D) (ho : w.ownsRow B' 43 1 v vs.length vs) : SegDs w v D :=
  ⟨vs, h.len, own_seg ho, fun i u d a b => own_seg (h.own i u d a b)⟩
theorem cB_app (a b : List Bool) : cB (a ++ b) = cB a ++ cB b := by simp [cB]
theorem serS_take {l : Prs} {D : List Ops} {k : Nat} (hk : k < D.length) : serS l (D.take (k + 1)) = runS (serS l (D.take k)) D[k] ∧ serB l (D.take (k + 1)) = serB l (D.take k) ++ [runB (serS l (D.take k)) D[k]] := by
  rw [List.take_succ_eq_append_getElem hk]
  obtain ⟨a, b⟩ := ser_app l (D.take k) [D[k]]
  rw [a, b]; exact ⟨rfl, rfl⟩
theorem ser_len (l : Prs) (D : List Ops) (h : ∀ d ∈ D, d.length ≤ 8) : ∀ k, (serS l (D.take k)).length ≤ l.length + 16 * k
  | 0 => by simp [serS]
  | k + 1 => by
    by_cases hk : k < D.length
    · rw [(serS_take hk).1]
      have h1 := run_len (serS l (D.take k)) D[k]
      have h2 := h D[k] (List.getElem_mem hk)
      have := ser_len l D h k
      omega
    · have e : D.take (k + 1) = D.take k := by rw [List.take_of_length_le (by omega), List.take_of_length_le (by omega)]
      rw [e]; have := ser_len l D h k; omega
theorem infoBl : (Tryz.prog.info? 4).map (fun i => (i.zero, i.size, i.bytes)) = some (some (.bool false), 1, 1) := by kernel_rfl
theorem one_bool (b : Bool) : ∀ u ∈ [Value.bool b], u.oneCell' = true := by
  intro u hu; simp at hu; subst hu; rfl
end Go.Proofs.YtimchedebcoohaaGreatDoor

/- Contracts and lemmas for the proofs of this seat; each theorem states its own conditions. -/
namespace Go.Proofs.YtimchedebcoohaaGreatDoor
open Go.RowKit
/-! deeds in a row, opened; parts of them -/
theorem SegDs.form {w : World} {v : Value} {D : List Ops} (h : SegDs w v D) : ∃ a c, v = .slice a D.length c ∧ D.length ≤ c ∧ c ≤ maxLen ∧
    (0 < D.length → ∃ b off, a = some ⟨b, off, none⟩ ∧ ∀ (j : Nat) (d : Ops), D[j]? = some d → ∃ au cu, w.cell? ⟨b, off + j, none⟩ = some (.slice au d.length cu) ∧ Seg w (.slice au d.length cu) 4 d.length (cO d)) := by
  obtain ⟨vs, h1, ⟨_, a, c, rfl, h2, h3, h4⟩, h5⟩ := h
  refine ⟨a, c, by rw [h1], by omega, h3, fun h0 => ?_⟩
  obtain ⟨b, off, rfl, h6⟩ := h4 (by omega)
  refine ⟨b, off, rfl, fun j d hd => ?_⟩
  have hj := (List.getElem?_eq_some_iff.1 hd).1
  have hs := h5 j (vs[j]'(by omega)) d (List.getElem?_eq_getElem _) hd
  obtain ⟨au, cu, e⟩ := seg_form hs
  have hc := h6 j (vs[j]'(by omega)) (List.getElem?_eq_getElem _)
  rw [e] at hs hc
  exact ⟨au, cu, hc, hs⟩
theorem SegDs.mk' {w : World} {b off c : Nat} {D : List Ops} (hc : D.length ≤ c) (hm : c ≤ maxLen) (h : ∀ (j : Nat) (d : Ops), D[j]? = some d → ∃ au cu, w.cell? ⟨b, off + j, none⟩ = some (.slice au d.length cu) ∧ Seg w (.slice au d.length cu) 4 d.length (cO d)) : SegDs w (.slice (some ⟨b, off, none⟩) D.length c) D := by
  have each : ∀ j, j < D.length → ∃ u : Value, w.cell? ⟨b, off + j, none⟩ = some u ∧ Seg w u 4 (D.getD j []).length (cO (D.getD j [])) := fun j hj => by
    obtain ⟨au, cu, h1, h2⟩ := h j D[j] (List.getElem?_eq_getElem hj)
    refine ⟨_, h1, ?_⟩
    simp [hj]; exact h2
  have : ∃ f : Nat → Value, ∀ j, j < D.length → w.cell? ⟨b, off + j, none⟩ = some (f j) ∧ Seg w (f j) 4 (D.getD j []).length (cO (D.getD j [])) := by
    refine ⟨fun j => if hj : j < D.length then Classical.choose (each j hj) else .bool false, fun j hj => ?_⟩
    simp only [hj, dif_pos]
    exact Classical.choose_spec (each j hj)
  obtain ⟨f, hf⟩ := this
  refine ⟨(List.range D.length).map f, by simp, ⟨by simp, some ⟨b, off, none⟩, c, by simp, by simpa using hc, hm, fun _ => ⟨b, off, rfl, fun j u hu => ?_⟩⟩, fun i u d hu hd => ?_⟩
  · obtain ⟨hj, e⟩ := List.getElem?_eq_some_iff.1 hu
    simp at hj e
    subst e
    exact (hf j hj).1
  · obtain ⟨hj, e⟩ := List.getElem?_eq_some_iff.1 hu
    obtain ⟨hj', e'⟩ := List.getElem?_eq_some_iff.1 hd
    simp at hj e
    subst e; subst e'
    have := (hf i hj).2
    simpa [hj'] using this
theorem SegDs.take {w : World} {b off c k : Nat} {D : List Ops} (h : SegDs w (.slice (some ⟨b, off, none⟩) D.length c) D) (hk : k ≤ D.length) : SegDs w (.slice (some ⟨b, off, none⟩) k c) (D.take k) := by
  obtain ⟨a', c', e, h1, h2, h3⟩ := h.form
  injection e with e1 e2 e3
  subst e1; subst e3
  have hl : (D.take k).length = k := by rw [List.length_take]; omega
  have := SegDs.mk' (w := w) (b := b) (off := off) (c := c) (D := D.take k) (by omega) h2 (fun j d hd => by
    have hj := (List.getElem?_eq_some_iff.1 hd).1
    rw [List.getElem?_take, if_pos (by omega)] at hd
    obtain ⟨b', off', e, h4⟩ := h3 (by omega)
    injection e with e; injection e with e1 e2
    subst e1; subst e2
    exact h4 j d hd)
  rwa [hl] at this
theorem SegDs.drop {w : World} {b off c k : Nat} {D : List Ops} (h : SegDs w (.slice (some ⟨b, off, none⟩) D.length c) D) (hk : k ≤ D.length) : SegDs w (.slice (some ⟨b, off + k, none⟩) (D.length - k) (c - k)) (D.drop k) := by
  obtain ⟨a', c', e, h1, h2, h3⟩ := h.form
  injection e with e1 e2 e3
  subst e1; subst e3
  have hl : (D.drop k).length = D.length - k := by rw [List.length_drop]
  have := SegDs.mk' (w := w) (b := b) (off := off + k) (c := c - k) (D := D.drop k) (by omega) (by omega) (fun j d hd => by
    have hj := (List.getElem?_eq_some_iff.1 hd).1
    rw [List.getElem?_drop] at hd
    obtain ⟨b', off', e, h4⟩ := h3 (by omega)
    injection e with e; injection e with e1 e2
    subst e1; subst e2
    rw [Nat.add_assoc]
    exact h4 (k + j) d hd)
  rwa [hl] at this
theorem SegDs.nil (w : World) (a : Option Addr) (c : Nat) (hc : c ≤ maxLen) : SegDs w (.slice a 0 c) [] := ⟨[], rfl, ⟨rfl, a, c, rfl, Nat.zero_le _, hc, fun h => absurd h (by simp)⟩, fun i u d h => by simp at h⟩
theorem one_slice (a a' : Option Addr) (n c n' c' : Nat) : ∀ u ∈ [Value.slice a n c, .slice a' n' c'], u.oneCell' = true := by
  intro u hu; simp at hu; rcases hu with rfl | rfl <;> rfl
theorem seg_2 {w : World} {b : Nat} {u v : Value} {t : TypeId} (h : w.heap[b]? = some (.cells #[u, v] t (0, 0))) : Seg w (.slice (some ⟨b, 0, none⟩) 2 2) 1 2 [u, v] :=
  seg_blk (xs := [u, v]) h rfl (Nat.le_refl _) (by simp [maxLen])
end Go.Proofs.YtimchedebcoohaaGreatDoor

/- Contracts and lemmas for the proofs of this seat; each theorem states its own conditions. -/
namespace Go.Proofs.YtimchedebcoohaaGreatDoor
open Go.RowKit Go.Deep Go.WideShapes Go.ChangeShapes
/-! what a row tells of deeds -/
set_option maxRecDepth 10000 in
theorem segDs_of_trod {H : Type} {enc : TypeId × Value → H} {W : World} {base : Nat} {held : Bool} {fuel : Nat} {a : Option Addr} {len cap : Nat} {x : DataW H × List MemPlace}
    (h : DataW.trod enc Tryz.prog W base (fun _ => true) held fuel 28 [.slice a len cap] = some x) :
    ∃ D : List Ops, SegDs W (.slice a len cap) D ∧ (∀ d ∈ D, opsW d) ∧ 2 * D.length + 1 ≤ Rows.uptoBulk x.1 := by
  have kd : Tryz.prog.cellsOf 43 = 1 := by kernel_rfl
  rcases open_slice1 Tryz.underlying28 kd h with ⟨hcs, rfl⟩ | ⟨ad, len', cap', m, n, V, Dd, Pl, hcs, _, hl, hm, hmm, rfl, hx⟩
  · injection hcs with hcs _
    injection hcs with e1 e2 e3
    subst e1; subst e2; subst e3
    exact ⟨[], SegDs.nil _ _ _ (by simp [maxLen]), by simp, by simp [Rows.uptoBulk]⟩
  · injection hcs with hcs _
    injection hcs with e1 e2 e3
    subst e1; subst e2; subst e3
    simp only [if_true] at hmm
    obtain ⟨f, hf⟩ := pick_fun (α := Ops) (n := len) (p := fun i d => (∃ au cu, W.cell? (ad.add i) = some (.slice au d.length cu) ∧ Seg W (.slice au d.length cu) 4 d.length (cO d)) ∧ opsW d ∧ 2 ≤ Rows.uptoBulk (Dd i)) (fun i hi => by
      obtain ⟨h1, h2⟩ := hx i (by omega)
      obtain ⟨a', l', c', d, he, h3, h4, h5⟩ := deed_of_trod h2
      injection he with he _
      obtain ⟨x2, c2, e2⟩ := seg_form h3
      injection e2 with g1 g2 g3
      subst g2
      exact ⟨d, ⟨a', c', by rw [h1, he], h3⟩, h4, by simp only at h5; omega⟩)
    refine ⟨(List.range len).map f, ?_, ?_, ?_⟩
    · by_cases h0 : len = 0
      · subst h0
        simpa using SegDs.nil W (some ad) cap hm
      · obtain ⟨⟨au, cu, hc0, _⟩, _⟩ := hf 0 (by omega)
        have hs := cell_spot hc0
        obtain ⟨b, off, sp⟩ := ad
        have : sp = none := by simpa [Addr.add] using hs
        subst this
        have := SegDs.mk' (w := W) (b := b) (off := off) (c := cap) (D := (List.range len).map f) (by simpa using hl) hm (fun j d hd => by
          have hj := (List.getElem?_eq_some_iff.1 hd).1
          simp at hj
          have e : d = f j := by
            rw [List.getElem?_map, List.getElem?_range hj] at hd
            simpa using hd.symm
          subst e
          obtain ⟨⟨au, cu, g1, g2⟩, _⟩ := hf j hj
          rw [addr_add] at g1
          exact ⟨au, cu, g1, g2⟩)
        simpa using this
    · intro d hd
      simp at hd
      obtain ⟨i, hi, rfl⟩ := hd
      exact (hf i hi).2.1
    · have hb := bulk_map (c := 2) (f := Dd) (l := List.range len) (fun i hi => (hf i (List.mem_range.1 hi)).2.2)
      simp only [List.length_range] at hb
      simp only [List.length_map, List.length_range, Rows.uptoBulk]
      omega
end Go.Proofs.YtimchedebcoohaaGreatDoor

/- Contracts and lemmas for the proofs of this seat; each theorem states its own conditions. -/
namespace Go.Proofs.YtimchedebcoohaaGreatDoor
open Go.RowKit
/-! rolaw.at, rolaw.pick -/
set_option maxRecDepth 10000 in
theorem rat_any (v : Value) (l : List Int) (i : Int) (w : World) (hv : Seg w v 1 l.length (cI l)) (h0 : 0 ≤ i) :
    Calls Tryz.prog 9 #[v, .int .i64 i] w fun e w' => e = .returned (.int .i64 (l.getD i.toNat 0)) ∧ w' = w := by
  obtain ⟨_, a, c, rfl, h1, h2, h3⟩ := hv
  unfold maxLen at h2
  by_cases hi : i < (l.length : Int)
  · obtain ⟨b, off, rfl, hc⟩ := h3 (by omega)
    obtain ⟨k, rfl⟩ : ∃ k : Nat, i = (k : Int) := ⟨i.toNat, by omega⟩
    have hk : k < l.length := by omega
    have c1 := hc k _ (cI_at0 l k hk)
    have HZ := hid (show l.getD ((k : Int)).toNat 0 = l[k] by simp [hk])
    generalize l[k] = z at c1 HZ
    clear hc h3 h0
    go_enter Tryz.func9, Tryz.ntmps9
    go_wp2
    go_ret
    exact ⟨rI HZ.out.symm, rfl⟩
  · have HZ := hid (show l.getD i.toNat 0 = 0 by simp [List.getD, List.getElem?_eq_none (show l.length ≤ i.toNat by omega)])
    clear h3 h0
    go_enter Tryz.func9, Tryz.ntmps9
    go_wp2
    go_ret
    exact ⟨rI HZ.out.symm, rfl⟩
def pickD (D : List Ops) (z : Int) : Ops := if D.length = 0 then [] else D.getD (wi z D.length).toNat []
theorem wi_wrap (z : Int) {n : Nat} (hn : 0 < n) (hm : (n : Int) ≤ 9223372036854775807) : wrap64 ((IntKind.u64.wrap z).tmod (n : Int)) = wi z n := by
  have hl := wi_lo (k := z) (n := n) (by omega)
  have hh := wi_hi (k := z) (n := n) (by omega)
  have e : (IntKind.u64.wrap z).tmod (n : Int) = wi z n := by
    rw [IntKind.wrap_u64, Int.tmod_eq_emod_of_nonneg (by omega)]; rfl
  rw [e]; unfold wrap64; omega
set_option maxRecDepth 10000 in
theorem pickD_any (vd : Value) (D : List Ops) (z : Int) (w1 w : World) (hvd : SegDs w1 vd D) (hE : Ext w1 w) :
    Calls Tryz.prog 10 #[vd, .int .i64 z] w fun e w' => ∃ a c, e = .returned (.agg #[.slice a (pickD D z).length c]) ∧ Seg w1 (.slice a (pickD D z).length c) 4 (pickD D z).length (cO (pickD D z)) ∧ Ext w w' := by
  obtain ⟨aD, cD, rfl, hc1, hc2, hcell⟩ := hvd.form
  unfold maxLen at hc2
  clear hvd
  by_cases h0 : D.length = 0
  · have HP := hid (show pickD D z = [] by unfold pickD; rw [if_pos h0])
    have q : ((D.length : Int) == 0) = true := by simp [h0]
    have b0 := cell_of_one (heap_1 w (.cells #[.slice none 0 0] 43) (.cells #[.slice none 0 0] 43))
    have E0 := ((Ext.refl w).alloc (.cells #[.slice none 0 0] 43)).alloc (.cells #[.slice none 0 0] 43)
    rw [HP.out]
    clear hcell h0
    go_enter Tryz.func10, Tryz.ntmps10
    go_wp2
    exact bodyPost_ret (v := .agg #[.slice none 0 0]) (by simp [results, Tryz.results10, go_sem, b0]) rfl ⟨none, 0, rfl, Seg.nil _ _, E0⟩
  · have hn : 0 < D.length := by omega
    obtain ⟨b, off, rfl, hc⟩ := hcell hn
    have hl := wi_lo (k := z) (n := D.length) (by omega)
    have hh := wi_hi (k := z) (n := D.length) (by omega)
    obtain ⟨k, hk⟩ : ∃ k : Nat, wi z D.length = (k : Int) := ⟨(wi z D.length).toNat, by omega⟩
    have hkl : k < D.length := by omega
    have HP := hid (show pickD D z = D[k] by unfold pickD; rw [if_neg h0, hk]; simp [hkl])
    have WW := wi_wrap z hn (by omega)
    rw [hk] at WW
    have q : ((D.length : Int) == 0) = false := by simpa using h0
    have q2 : IntKind.u64.wrap (D.length : Int) = (D.length : Int) := by rw [IntKind.wrap_u64]; omega
    have q3 : ¬ (D.length : Int) = 0 := by omega
    obtain ⟨au, cu, c1, s1⟩ := hc k D[k] (List.getElem?_eq_getElem hkl)
    rw [HP.out]
    generalize D[k] = d at c1 s1 ⊢
    have E0 := ((Ext.refl w).alloc (.cells #[.slice none 0 0] 43)).alloc (.cells #[.slice none 0 0] 43)
    have c2 := E0.cell (hE.cell c1)
    have b0 := cell_of_one (heap_1 w (.cells #[.slice none 0 0] 43) (.cells #[.slice none 0 0] 43))
    clear hc h0 HP hl hh hk
    go_enter Tryz.func10, Tryz.ntmps10
    go_wp2
    have E1 := ((Ext.refl w).alloc (.cells #[.slice au d.length cu] 43)).alloc (.cells #[.slice none 0 0] 43)
    have b1 := cell_of_one (heap_1 w (.cells #[.slice au d.length cu] 43) (.cells #[.slice none 0 0] 43))
    exact bodyPost_ret (v := .agg #[.slice au d.length cu]) (by simp [results, Tryz.results10, go_sem, b1]) rfl ⟨au, cu, rfl, s1, E1⟩
end Go.Proofs.YtimchedebcoohaaGreatDoor
