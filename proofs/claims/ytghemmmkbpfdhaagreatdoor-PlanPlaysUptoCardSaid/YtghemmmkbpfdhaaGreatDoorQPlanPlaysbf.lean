/- Contracts and lemmas for the proof of PlanPlays; each theorem states its own conditions. -/
import Derived.Test.YtghemmmkbpfdhaaGreatDoorProg
import Derived.Test.YtghemmmkbpfdhaaGreatDoorQPlanPlaysab
import Derived.WalkSpells
import Derived.WalkLawsBesides
import Derived.Laws.StructEq
import Derived.Deep.QuietTactic
import Derived.BigQuiet
import Derived.Test.YtghemmmkbpfdhaaGreatDoorQPlanPlaysbd
import Derived.Test.YtghemmmkbpfdhaaGreatDoorQPlanPlaysbe
import Derived.Test.YtghemmmkbpfdhaaGreatDoorQPlanPlaysav
set_option linter.unusedVariables false
set_option linter.unusedSimpArgs false
/- Contracts and lemmas for the proofs of this seat; each theorem states its own conditions. -/
namespace Go.Proofs.YtghemmmkbpfdhaaGreatDoor
open Go.RowKit
theorem neq_Pair (s t : ByteArray) (x y : Int) (w : World) : (binOp .neq 45 (.agg #[.string s, .int .i64 x]) (.agg #[.string t, .int .i64 y])).run Tryz.prog w = .ok (.bool (!(decide ((s, x) = (t, y))))) w := by
  have e2 : Tryz.prog.stoodInHeld 45 = false := by kernel_rfl
  have e3 : Tryz.prog.underlying 45 = some (.struct (Tryz.prog.fieldsOf 45)) := by kernel_rfl
  have e4 : (Tryz.prog.fieldsOf 45).toList = [⟨"Key", 9, 0, false, "", "", 0⟩, ⟨"Value", 3, 1, false, "", "", 16⟩] := by kernel_rfl
  rw [run_neq_struct, run_equalIn_struct _ _ _ _ _ e3 e2, e4]
  simp [Op.eqFields, go_sem]
  by_cases h : s = t
  · subst h; by_cases h' : x = y <;> simp [h']
  · have : ¬ s.toList = t.toList := fun e => h (toList_inj e)
    simp [this, h]
theorem pair_ne {p q : ByteArray × Int} (h : (!decide (p.1 = q.1)) = true ∨ (!decide (p.2 = q.2)) = true) : p ≠ q := by
  rintro rfl; simp at h
theorem pair_eq {p q : ByteArray × Int} (h : (!decide (p.1 = q.1)) = false ∧ (!decide (p.2 = q.2)) = false) : p = q := by
  simp at h; exact Prod.ext h.1 h.2
theorem neq_Op (a b : GOp) (w : World) : (binOp .neq 30 (.agg #[.int .i64 a.kind, .string a.key, .string a.from_, .int .i64 a.n]) (.agg #[.int .i64 b.kind, .string b.key, .string b.from_, .int .i64 b.n])).run Tryz.prog w = .ok (.bool (opNe a b)) w := by
  have e2 : Tryz.prog.stoodInHeld 30 = false := by kernel_rfl
  have e3 : Tryz.prog.underlying 30 = some (.struct (Tryz.prog.fieldsOf 30)) := by kernel_rfl
  have e4 : (Tryz.prog.fieldsOf 30).toList = [⟨"Kind", 3, 0, false, "", "", 0⟩, ⟨"Key", 9, 1, false, "", "", 8⟩, ⟨"From", 9, 2, false, "", "", 24⟩, ⟨"N", 3, 3, false, "", "", 40⟩] := by kernel_rfl
  rw [run_neq_struct, run_equalIn_struct _ _ _ _ _ e3 e2, e4]
  simp [Op.eqFields, go_sem]
  cases a with | mk k s f n => cases b with | mk k' s' f' n' =>
  by_cases h0 : k = k'
  · by_cases h1 : s = s'
    · by_cases h2 : f = f'
      · by_cases h3 : n = n' <;> simp [h0, h1, h2, h3, opNe]
      · have : ¬ f.toList = f'.toList := fun e => h2 (toList_inj e)
        simp [h0, h1, h2, this, opNe]
    · have : ¬ s.toList = s'.toList := fun e => h1 (toList_inj e)
      simp [h0, h1, this, opNe]
  · simp [h0, opNe]
set_option maxRecDepth 10000 in
theorem equal_Int (v u : Value) (l m : List Int) (w : World) (hv : Seg w v 1 l.length (cI l)) (hu : Seg w u 1 m.length (cI m)) :
    Calls Tryz.prog 7 #[v, u] w fun e w' => e = .returned (.bool (decide (l = m))) ∧ ∃ d, w' = w.drewN d := by
  obtain ⟨h0, a, cap, rfl, h1, h2, h3⟩ := hv
  obtain ⟨h0', a', cap', rfl, h1', h2', h3'⟩ := hu
  unfold maxLen at h2 h2'
  by_cases hnm : (l.length : Int) = m.length
  · have hnm' : l.length = m.length := by omega
    have HN := (show Hid (l.length = m.length) from hnm')
    clear hnm'
    have q : ((l.length : Int) != m.length) = false := by simp [hnm]
    clear hnm
    go_enter Tryz.func7, Tryz.ntmps7
    go_wp2
    go_loopw [4, 5, 13] (fun r _ i wr => ∃ k : Nat, k ≤ l.length ∧ i = .int .i64 k ∧ r = .bool false ∧ l.take k = m.take k ∧ ∃ d, wr = w.drewN d) (fun _ _ i _ => l.length - (intOf i).toNat)
    case atStart => exact ⟨0, Nat.zero_le _, rfl, rfl, rfl, 0, rfl⟩
    case round =>
      obtain ⟨k, hk, rfl, rfl, heq, d, rfl⟩ := hrel
      have HE := (show Hid (l.take k = m.take k) from heq)
      clear heq
      by_cases hlt : k < l.length
      · obtain ⟨b, off, rfl, hc⟩ := h3 (by omega)
        have hlt' : k < m.length := by have := HN.out; omega
        obtain ⟨b', off', rfl, hc'⟩ := h3' (by omega)
        have c0 := hc _ _ (cI_at0 l k hlt)
        have d0 := hc' _ _ (cI_at0 m k hlt')
        clear hc hc' h3 h3'
        go_wp2
        go_quiet (fail)
        go_wp2
        · go_ret
          have hne : l[k] ≠ m[k] := by simpa using (show (l[k] != m[k]) = true by assumption)
          exact ⟨rB (by simp; rintro rfl; exact hne rfl), _, World.drewN_drewN _ _ _⟩
        · have heq : l[k] = m[k] := by simpa using (show (l[k] != m[k]) = false by assumption)
          go_roundw
          case rel => exact ⟨k + 1, by omega, by go_num, rfl, take_eq_step hlt hlt' HE.out heq, _, rfl⟩
          case measure => simp [intOf]; omega
      · go_wp2
        go_ret
        obtain rfl : k = l.length := by omega
        have := HE.out
        rw [List.take_of_length_le (Nat.le_refl _), List.take_of_length_le (by rw [HN.out]; exact Nat.le_refl _)] at this
        exact ⟨rB (by simp [this]), _, rfl⟩
  · go_enter Tryz.func7, Tryz.ntmps7
    go_wp2
    go_ret
    exact ⟨rB (by simp; intro h; exact hnm (by rw [h])), 0, rfl⟩
set_option maxRecDepth 10000 in
theorem equal_Str (v u : Value) (l m : List ByteArray) (w : World) (hv : Seg w v 1 l.length (cS l)) (hu : Seg w u 1 m.length (cS m)) :
    Calls Tryz.prog 62 #[v, u] w fun e w' => e = .returned (.bool (decide (l = m))) ∧ ∃ d, w' = w.drewN d := by
  obtain ⟨h0, a, cap, rfl, h1, h2, h3⟩ := hv
  obtain ⟨h0', a', cap', rfl, h1', h2', h3'⟩ := hu
  unfold maxLen at h2 h2'
  by_cases hnm : (l.length : Int) = m.length
  · have hnm' : l.length = m.length := by omega
    have HN := (show Hid (l.length = m.length) from hnm')
    clear hnm'
    have q : ((l.length : Int) != m.length) = false := by simp [hnm]
    clear hnm
    go_enter Tryz.func62, Tryz.ntmps62
    go_wp2
    go_loopw [4, 5, 13] (fun r _ i wr => ∃ k : Nat, k ≤ l.length ∧ i = .int .i64 k ∧ r = .bool false ∧ l.take k = m.take k ∧ ∃ d, wr = w.drewN d) (fun _ _ i _ => l.length - (intOf i).toNat)
    case atStart => exact ⟨0, Nat.zero_le _, rfl, rfl, rfl, 0, rfl⟩
    case round =>
      obtain ⟨k, hk, rfl, rfl, heq, d, rfl⟩ := hrel
      have HE := (show Hid (l.take k = m.take k) from heq)
      clear heq
      by_cases hlt : k < l.length
      · obtain ⟨b, off, rfl, hc⟩ := h3 (by omega)
        have hlt' : k < m.length := by have := HN.out; omega
        obtain ⟨b', off', rfl, hc'⟩ := h3' (by omega)
        have c0 := hc _ _ (cS_at0 l k hlt)
        have d0 := hc' _ _ (cS_at0 m k hlt')
        clear hc hc' h3 h3'
        go_wp2
        go_quiet (fail)
        go_wp2
        · go_ret
          have hne : l[k] ≠ m[k] := str_ne (by assumption)
          exact ⟨rB (by simp; rintro rfl; exact hne rfl), _, World.drewN_drewN _ _ _⟩
        · have heq : l[k] = m[k] := str_eq (by assumption)
          go_roundw
          case rel => exact ⟨k + 1, by omega, by go_num, rfl, take_eq_step hlt hlt' HE.out heq, _, rfl⟩
          case measure => simp [intOf]; omega
      · go_wp2
        go_ret
        obtain rfl : k = l.length := by omega
        have := HE.out
        rw [List.take_of_length_le (Nat.le_refl _), List.take_of_length_le (by rw [HN.out]; exact Nat.le_refl _)] at this
        exact ⟨rB (by simp [this]), _, rfl⟩
  · go_enter Tryz.func62, Tryz.ntmps62
    go_wp2
    go_ret
    exact ⟨rB (by simp; intro h; exact hnm (by rw [h])), 0, rfl⟩
set_option maxRecDepth 10000 in
theorem equal_Bool (v u : Value) (l m : List Bool) (w : World) (hv : Seg w v 1 l.length (cB l)) (hu : Seg w u 1 m.length (cB m)) :
    Calls Tryz.prog 6 #[v, u] w fun e w' => e = .returned (.bool (decide (l = m))) ∧ ∃ d, w' = w.drewN d := by
  obtain ⟨h0, a, cap, rfl, h1, h2, h3⟩ := hv
  obtain ⟨h0', a', cap', rfl, h1', h2', h3'⟩ := hu
  unfold maxLen at h2 h2'
  by_cases hnm : (l.length : Int) = m.length
  · have hnm' : l.length = m.length := by omega
    have HN := (show Hid (l.length = m.length) from hnm')
    clear hnm'
    have q : ((l.length : Int) != m.length) = false := by simp [hnm]
    clear hnm
    go_enter Tryz.func6, Tryz.ntmps6
    go_wp2
    go_loopw [4, 5, 13] (fun r _ i wr => ∃ k : Nat, k ≤ l.length ∧ i = .int .i64 k ∧ r = .bool false ∧ l.take k = m.take k ∧ ∃ d, wr = w.drewN d) (fun _ _ i _ => l.length - (intOf i).toNat)
    case atStart => exact ⟨0, Nat.zero_le _, rfl, rfl, rfl, 0, rfl⟩
    case round =>
      obtain ⟨k, hk, rfl, rfl, heq, d, rfl⟩ := hrel
      have HE := (show Hid (l.take k = m.take k) from heq)
      clear heq
      by_cases hlt : k < l.length
      · obtain ⟨b, off, rfl, hc⟩ := h3 (by omega)
        have hlt' : k < m.length := by have := HN.out; omega
        obtain ⟨b', off', rfl, hc'⟩ := h3' (by omega)
        have c0 := hc _ _ (cB_at0 l k hlt)
        have d0 := hc' _ _ (cB_at0 m k hlt')
        clear hc hc' h3 h3'
        go_wp2
        go_quiet (fail)
        go_wp2
        · go_ret
          have hne : l[k] ≠ m[k] := by simpa using (show (l[k] != m[k]) = true by assumption)
          exact ⟨rB (by simp; rintro rfl; exact hne rfl), _, World.drewN_drewN _ _ _⟩
        · have heq : l[k] = m[k] := by simpa using (show (l[k] != m[k]) = false by assumption)
          go_roundw
          case rel => exact ⟨k + 1, by omega, by go_num, rfl, take_eq_step hlt hlt' HE.out heq, _, rfl⟩
          case measure => simp [intOf]; omega
      · go_wp2
        go_ret
        obtain rfl : k = l.length := by omega
        have := HE.out
        rw [List.take_of_length_le (Nat.le_refl _), List.take_of_length_le (by rw [HN.out]; exact Nat.le_refl _)] at this
        exact ⟨rB (by simp [this]), _, rfl⟩
  · go_enter Tryz.func6, Tryz.ntmps6
    go_wp2
    go_ret
    exact ⟨rB (by simp; intro h; exact hnm (by rw [h])), 0, rfl⟩
set_option maxRecDepth 10000 in
theorem equal_Pair (v u : Value) (l m : List (ByteArray × Int)) (w : World) (hv : Seg w v 2 l.length (cP l)) (hu : Seg w u 2 m.length (cP m)) :
    Calls Tryz.prog 12 #[v, u] w fun e w' => e = .returned (.bool (decide (l = m))) ∧ ∃ d, w' = w.drewN d := by
  obtain ⟨h0, a, cap, rfl, h1, h2, h3⟩ := hv
  obtain ⟨h0', a', cap', rfl, h1', h2', h3'⟩ := hu
  unfold maxLen at h2 h2'
  have e1 : Tryz.prog.eqGuardType Tryz.prog.depth 45 = false := by kernel_rfl
  have hneq := neq_Pair
  by_cases hnm : (l.length : Int) = m.length
  · have hnm' : l.length = m.length := by omega
    have HN := (show Hid (l.length = m.length) from hnm')
    clear hnm'
    have q : ((l.length : Int) != m.length) = false := by simp [hnm]
    clear hnm
    go_enter Tryz.func12, Tryz.ntmps12
    go_wp2
    go_loopw [4, 5, 13] (fun r _ i wr => ∃ k : Nat, k ≤ l.length ∧ i = .int .i64 k ∧ r = .bool false ∧ l.take k = m.take k ∧ ∃ d, wr = w.drewN d) (fun _ _ i _ => l.length - (intOf i).toNat)
    case atStart => exact ⟨0, Nat.zero_le _, rfl, rfl, rfl, 0, rfl⟩
    case round =>
      obtain ⟨k, hk, rfl, rfl, heq, d, rfl⟩ := hrel
      have HE := (show Hid (l.take k = m.take k) from heq)
      clear heq
      by_cases hlt : k < l.length
      · obtain ⟨b, off, rfl, hc⟩ := h3 (by omega)
        have hlt' : k < m.length := by have := HN.out; omega
        obtain ⟨b', off', rfl, hc'⟩ := h3' (by omega)
        have c0 := hc _ _ (cP_at0 l k hlt)
        have d0 := hc' _ _ (cP_at0 m k hlt')

        have c1 := hc _ _ (cP_at1 l k hlt)
        rw [show off + (k * 2 + 1) = off + k * 2 + 1 from by omega] at c1
        have d1 := hc' _ _ (cP_at1 m k hlt')
        rw [show off' + (k * 2 + 1) = off' + k * 2 + 1 from by omega] at d1
        clear hc hc' h3 h3'
        go_wp2
        go_quiet (fail)
        go_wp2
        · go_ret
          have hne : l[k] ≠ m[k] := pair_ne (by assumption)
          exact ⟨rB (by simp; rintro rfl; exact hne rfl), _, World.drewN_drewN _ _ _⟩
        · have heq : l[k] = m[k] := pair_eq (by assumption)
          go_roundw
          case rel => exact ⟨k + 1, by omega, by go_num, rfl, take_eq_step hlt hlt' HE.out heq, _, rfl⟩
          case measure => simp [intOf]; omega
      · go_wp2
        go_ret
        obtain rfl : k = l.length := by omega
        have := HE.out
        rw [List.take_of_length_le (Nat.le_refl _), List.take_of_length_le (by rw [HN.out]; exact Nat.le_refl _)] at this
        exact ⟨rB (by simp [this]), _, rfl⟩
  · go_enter Tryz.func12, Tryz.ntmps12
    go_wp2
    go_ret
    exact ⟨rB (by simp; intro h; exact hnm (by rw [h])), 0, rfl⟩
end Go.Proofs.YtghemmmkbpfdhaaGreatDoor

/- Contracts and lemmas for the proofs of this seat; each theorem states its own conditions. -/
namespace Go.Proofs.YtghemmmkbpfdhaaGreatDoor
open Go.RowKit
/-! rokeep.run, deedBegun, deed.Serial -/
theorem DeedG.from_sm {d : Ops} (h : DeedOk d) (hf : ∀ o ∈ d, o.from_.size ≤ 9223372036854775807) : opsSm d := opsSm_ok h hf
theorem eqP_same (l : Prs) : decide (l = l) = true := by simp
theorem run_len (l : Prs) (d : Ops) : (runS l d).length ≤ l.length + 2 * d.length := by
  unfold runS
  cases e : runP l d with
  | none => simp
  | some l' => exact len_run e
def abO : Ops := [⟨5, ⟨#[98]⟩, ⟨#[97]⟩, 2⟩]
theorem abO_ok : deedE abO = 0 ∧ storeErr [((⟨#[97]⟩ : ByteArray), (5 : Int))] = 0 ∧ runS [((⟨#[97]⟩ : ByteArray), (5 : Int))] abO = [((⟨#[97]⟩ : ByteArray), (3 : Int)), ((⟨#[98]⟩ : ByteArray), (2 : Int))] ∧ runB [((⟨#[97]⟩ : ByteArray), (5 : Int))] abO = true := by decide +kernel
/-- a variable of its own, set at once -/
theorem new_set (w : World) (t : TypeId) (z u : Value) : ∃ W, (w.alloc (.cells #[z] t)).setCell ⟨w.heap.size, 0, none⟩ u = W ∧ Ext w W ∧ W.heap[w.heap.size]? = some (.cells #[u] t (0, 0)) ∧ W.cell? ⟨w.heap.size, 0, none⟩ = some u ∧ (w.alloc (.cells #[z] t)).frozen? ⟨w.heap.size, 0, none⟩ = false ∧ (w.alloc (.cells #[z] t)).cell? ⟨w.heap.size, 0, none⟩ = some z ∧ w.heap.size < W.heap.size := by
  have h := one_setCell (u := u) (heap_alloc_new w (.cells #[z] t))
  exact ⟨_, rfl, ((Ext.refl w).alloc _).setCell (Nat.le_refl _) _, h, cell_of_one h, free_of_one (heap_alloc_new w _), cell_of_one (heap_alloc_new w _), lt_of_block h⟩
/-- deeds, in a row -/
def SegDs (w : World) (v : Value) (D : List Ops) : Prop :=
  ∃ vs : List Value, vs.length = D.length ∧ Seg w v 1 vs.length vs ∧ ∀ (i : Nat) (u : Value) (d : Ops), vs[i]? = some u → D[i]? = some d → Seg w u 4 d.length (cO d)
theorem SegDs.ext {w w' : World} {v : Value} {D : List Ops} (h : SegDs w v D) (k : Ext w w') : SegDs w' v D := by
  obtain ⟨vs, h1, h2, h3⟩ := h
  exact ⟨vs, h1, h2.ext k, fun i u d a b => (h3 i u d a b).ext k⟩
theorem OwnDs.seg {w : World} {B B' : Nat} {v : Value} {vs : List Value} {D : List Ops} (h : OwnDs w B vs D) (ho : w.ownsRow B' 33 1 v vs.length vs) : SegDs w v D :=
  ⟨vs, h.len, own_seg ho, fun i u d a b => own_seg (h.own i u d a b)⟩
theorem cB_app (a b : List Bool) : cB (a ++ b) = cB a ++ cB b := by simp [cB]
theorem serS_take {l : Prs} {D : List Ops} {k : Nat} (hk : k < D.length) : serS l (D.take (k + 1)) = runS (serS l (D.take k)) D[k] ∧ serB l (D.take (k + 1)) = serB l (D.take k) ++ [runB (serS l (D.take k)) D[k]] := by
  rw [List.take_succ_eq_append_getElem hk]
  obtain ⟨a, b⟩ := ser_app l (D.take k) [D[k]]
  rw [a, b]; exact ⟨rfl, rfl⟩
theorem ser_len (l : Prs) (D : List Ops) (h : ∀ d ∈ D, d.length ≤ 8) : ∀ k, (serS l (D.take k)).length ≤ l.length + 16 * k
  | 0 => by simp [serS]
  | k + 1 => by
    by_cases hk : k < D.length
    · rw [(serS_take hk).1]
      have h1 := run_len (serS l (D.take k)) D[k]
      have h2 := h D[k] (List.getElem_mem hk)
      have := ser_len l D h k
      omega
    · have e : D.take (k + 1) = D.take k := by rw [List.take_of_length_le (by omega), List.take_of_length_le (by omega)]
      rw [e]; have := ser_len l D h k; omega
theorem infoBl : (Tryz.prog.info? 4).map (fun i => (i.zero, i.size, i.bytes)) = some (some (.bool false), 1, 1) := by kernel_rfl
theorem one_bool (b : Bool) : ∀ u ∈ [Value.bool b], u.oneCell' = true := by
  intro u hu; simp at hu; subst hu; rfl
end Go.Proofs.YtghemmmkbpfdhaaGreatDoor
