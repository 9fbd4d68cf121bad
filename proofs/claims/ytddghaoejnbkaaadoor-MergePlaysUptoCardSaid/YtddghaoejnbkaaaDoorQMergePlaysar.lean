/- Contracts and lemmas for the proof of MergePlays; each theorem states its own conditions. -/
import Derived.Test.YtddghaoejnbkaaaDoorProg
import Derived.Test.YtddghaoejnbkaaaDoorQMergePlaysab
import Derived.WalkSpells
import Derived.WalkLawsBesides
import Derived.Laws.StructEq
import Derived.Deep.QuietTactic
import Derived.BigQuiet
import Derived.Test.YtddghaoejnbkaaaDoorQMergePlaysan
import Derived.Test.YtddghaoejnbkaaaDoorQMergePlaysaq
set_option linter.unusedVariables false
set_option linter.unusedSimpArgs false
/- Contracts and lemmas for the proofs of this seat; each theorem states its own conditions. -/
namespace Go.Proofs.YtddghaoejnbkaaaDoor
open Go.RowKit
theorem neq_Op (a b : GOp) (w : World) : (binOp .neq 71 (.agg #[.int .i64 a.kind, .string a.key, .string a.from_, .int .i64 a.n]) (.agg #[.int .i64 b.kind, .string b.key, .string b.from_, .int .i64 b.n])).run Tryd.prog w = .ok (.bool (opNe a b)) w := by
  have e2 : Tryd.prog.stoodInHeld 71 = false := by kernel_rfl
  have e3 : Tryd.prog.underlying 71 = some (.struct (Tryd.prog.fieldsOf 71)) := by kernel_rfl
  have e4 : (Tryd.prog.fieldsOf 71).toList = [⟨"Kind", 3, 0, false, "", "", 0⟩, ⟨"Key", 9, 1, false, "", "", 8⟩, ⟨"From", 9, 2, false, "", "", 24⟩, ⟨"N", 3, 3, false, "", "", 40⟩] := by kernel_rfl
  rw [run_neq_struct, run_equalIn_struct _ _ _ _ _ e3 e2, e4]
  simp [Op.eqFields, go_sem]
  cases a with | mk k s f n => cases b with | mk k' s' f' n' =>
  by_cases h0 : k = k'
  · by_cases h1 : s = s'
    · by_cases h2 : f = f'
      · by_cases h3 : n = n' <;> simp [h0, h1, h2, h3, opNe]
      · have : ¬ f.toList = f'.toList := fun e => h2 (toList_inj e)
        simp [h0, h1, h2, this, opNe]
    · have : ¬ s.toList = s'.toList := fun e => h1 (toList_inj e)
      simp [h0, h1, this, opNe]
  · simp [h0, opNe]
set_option maxRecDepth 10000 in
theorem equal_Int (v u : Value) (l m : List Int) (w : World) (hv : Seg w v 1 l.length (cI l)) (hu : Seg w u 1 m.length (cI m)) :
    Calls Tryd.prog 5 #[v, u] w fun e w' => e = .returned (.bool (decide (l = m))) ∧ ∃ d, w' = w.drewN d := by
  obtain ⟨h0, a, cap, rfl, h1, h2, h3⟩ := hv
  obtain ⟨h0', a', cap', rfl, h1', h2', h3'⟩ := hu
  unfold maxLen at h2 h2'
  by_cases hnm : (l.length : Int) = m.length
  · have hnm' : l.length = m.length := by omega
    have HN := (show Hid (l.length = m.length) from hnm')
    clear hnm'
    have q : ((l.length : Int) != m.length) = false := by simp [hnm]
    clear hnm
    go_enter Tryd.func5, Tryd.ntmps5
    go_wp2
    go_loopw [4, 5, 13] (fun r _ i wr => ∃ k : Nat, k ≤ l.length ∧ i = .int .i64 k ∧ r = .bool false ∧ l.take k = m.take k ∧ ∃ d, wr = w.drewN d) (fun _ _ i _ => l.length - (intOf i).toNat)
    case atStart => exact ⟨0, Nat.zero_le _, rfl, rfl, rfl, 0, rfl⟩
    case round =>
      obtain ⟨k, hk, rfl, rfl, heq, d, rfl⟩ := hrel
      have HE := (show Hid (l.take k = m.take k) from heq)
      clear heq
      by_cases hlt : k < l.length
      · obtain ⟨b, off, rfl, hc⟩ := h3 (by omega)
        have hlt' : k < m.length := by have := HN.out; omega
        obtain ⟨b', off', rfl, hc'⟩ := h3' (by omega)
        have c0 := hc _ _ (cI_at0 l k hlt)
        have d0 := hc' _ _ (cI_at0 m k hlt')
        clear hc hc' h3 h3'
        go_wp2
        go_quiet (fail)
        go_wp2
        · go_ret
          have hne : l[k] ≠ m[k] := by simpa using (show (l[k] != m[k]) = true by assumption)
          exact ⟨rB (by simp; rintro rfl; exact hne rfl), _, World.drewN_drewN _ _ _⟩
        · have heq : l[k] = m[k] := by simpa using (show (l[k] != m[k]) = false by assumption)
          go_roundw
          case rel => exact ⟨k + 1, by omega, by go_num, rfl, take_eq_step hlt hlt' HE.out heq, _, rfl⟩
          case measure => simp [intOf]; omega
      · go_wp2
        go_ret
        obtain rfl : k = l.length := by omega
        have := HE.out
        rw [List.take_of_length_le (Nat.le_refl _), List.take_of_length_le (by rw [HN.out]; exact Nat.le_refl _)] at this
        exact ⟨rB (by simp [this]), _, rfl⟩
  · go_enter Tryd.func5, Tryd.ntmps5
    go_wp2
    go_ret
    exact ⟨rB (by simp; intro h; exact hnm (by rw [h])), 0, rfl⟩
set_option maxRecDepth 10000 in
theorem equal_Str (v u : Value) (l m : List ByteArray) (w : World) (hv : Seg w v 1 l.length (cS l)) (hu : Seg w u 1 m.length (cS m)) :
    Calls Tryd.prog 41 #[v, u] w fun e w' => e = .returned (.bool (decide (l = m))) ∧ ∃ d, w' = w.drewN d := by
  obtain ⟨h0, a, cap, rfl, h1, h2, h3⟩ := hv
  obtain ⟨h0', a', cap', rfl, h1', h2', h3'⟩ := hu
  unfold maxLen at h2 h2'
  by_cases hnm : (l.length : Int) = m.length
  · have hnm' : l.length = m.length := by omega
    have HN := (show Hid (l.length = m.length) from hnm')
    clear hnm'
    have q : ((l.length : Int) != m.length) = false := by simp [hnm]
    clear hnm
    go_enter Tryd.func41, Tryd.ntmps41
    go_wp2
    go_loopw [4, 5, 13] (fun r _ i wr => ∃ k : Nat, k ≤ l.length ∧ i = .int .i64 k ∧ r = .bool false ∧ l.take k = m.take k ∧ ∃ d, wr = w.drewN d) (fun _ _ i _ => l.length - (intOf i).toNat)
    case atStart => exact ⟨0, Nat.zero_le _, rfl, rfl, rfl, 0, rfl⟩
    case round =>
      obtain ⟨k, hk, rfl, rfl, heq, d, rfl⟩ := hrel
      have HE := (show Hid (l.take k = m.take k) from heq)
      clear heq
      by_cases hlt : k < l.length
      · obtain ⟨b, off, rfl, hc⟩ := h3 (by omega)
        have hlt' : k < m.length := by have := HN.out; omega
        obtain ⟨b', off', rfl, hc'⟩ := h3' (by omega)
        have c0 := hc _ _ (cS_at0 l k hlt)
        have d0 := hc' _ _ (cS_at0 m k hlt')
        clear hc hc' h3 h3'
        go_wp2
        go_quiet (fail)
        go_wp2
        · go_ret
          have hne : l[k] ≠ m[k] := str_ne (by assumption)
          exact ⟨rB (by simp; rintro rfl; exact hne rfl), _, World.drewN_drewN _ _ _⟩
        · have heq : l[k] = m[k] := str_eq (by assumption)
          go_roundw
          case rel => exact ⟨k + 1, by omega, by go_num, rfl, take_eq_step hlt hlt' HE.out heq, _, rfl⟩
          case measure => simp [intOf]; omega
      · go_wp2
        go_ret
        obtain rfl : k = l.length := by omega
        have := HE.out
        rw [List.take_of_length_le (Nat.le_refl _), List.take_of_length_le (by rw [HN.out]; exact Nat.le_refl _)] at this
        exact ⟨rB (by simp [this]), _, rfl⟩
  · go_enter Tryd.func41, Tryd.ntmps41
    go_wp2
    go_ret
    exact ⟨rB (by simp; intro h; exact hnm (by rw [h])), 0, rfl⟩
set_option maxRecDepth 10000 in
theorem equal_Op (v u : Value) (l m : List GOp) (w : World) (hv : Seg w v 4 l.length (cO l)) (hu : Seg w u 4 m.length (cO m)) :
    Calls Tryd.prog 40 #[v, u] w fun e w' => e = .returned (.bool (decide (l = m))) ∧ ∃ d, w' = w.drewN d := by
  obtain ⟨h0, a, cap, rfl, h1, h2, h3⟩ := hv
  obtain ⟨h0', a', cap', rfl, h1', h2', h3'⟩ := hu
  unfold maxLen at h2 h2'
  have e1 : Tryd.prog.eqGuardType Tryd.prog.depth 71 = false := by kernel_rfl
  have hneq := neq_Op
  by_cases hnm : (l.length : Int) = m.length
  · have hnm' : l.length = m.length := by omega
    have HN := (show Hid (l.length = m.length) from hnm')
    clear hnm'
    have q : ((l.length : Int) != m.length) = false := by simp [hnm]
    clear hnm
    go_enter Tryd.func40, Tryd.ntmps40
    go_wp2
    go_loopw [4, 5, 13] (fun r _ i wr => ∃ k : Nat, k ≤ l.length ∧ i = .int .i64 k ∧ r = .bool false ∧ l.take k = m.take k ∧ ∃ d, wr = w.drewN d) (fun _ _ i _ => l.length - (intOf i).toNat)
    case atStart => exact ⟨0, Nat.zero_le _, rfl, rfl, rfl, 0, rfl⟩
    case round =>
      obtain ⟨k, hk, rfl, rfl, heq, d, rfl⟩ := hrel
      have HE := (show Hid (l.take k = m.take k) from heq)
      clear heq
      by_cases hlt : k < l.length
      · obtain ⟨b, off, rfl, hc⟩ := h3 (by omega)
        have hlt' : k < m.length := by have := HN.out; omega
        obtain ⟨b', off', rfl, hc'⟩ := h3' (by omega)
        have c0 := hc _ _ (cO_at0 l k hlt)
        have d0 := hc' _ _ (cO_at0 m k hlt')

        have c1 := hc _ _ (cO_at1 l k hlt)
        rw [show off + (k * 4 + 1) = off + k * 4 + 1 from by omega] at c1
        have d1 := hc' _ _ (cO_at1 m k hlt')
        rw [show off' + (k * 4 + 1) = off' + k * 4 + 1 from by omega] at d1

        have c2 := hc _ _ (cO_at2 l k hlt)
        rw [show off + (k * 4 + 2) = off + k * 4 + 1 + 1 from by omega] at c2
        have d2 := hc' _ _ (cO_at2 m k hlt')
        rw [show off' + (k * 4 + 2) = off' + k * 4 + 1 + 1 from by omega] at d2

        have c3 := hc _ _ (cO_at3 l k hlt)
        rw [show off + (k * 4 + 3) = off + k * 4 + 1 + 1 + 1 from by omega] at c3
        have d3 := hc' _ _ (cO_at3 m k hlt')
        rw [show off' + (k * 4 + 3) = off' + k * 4 + 1 + 1 + 1 from by omega] at d3
        clear hc hc' h3 h3'
        go_wp2
        go_quiet (fail)
        go_wp2
        · go_ret
          have hne : l[k] ≠ m[k] := opNe_true (by assumption)
          exact ⟨rB (by simp; rintro rfl; exact hne rfl), _, World.drewN_drewN _ _ _⟩
        · have heq : l[k] = m[k] := opNe_false (by assumption)
          go_roundw
          case rel => exact ⟨k + 1, by omega, by go_num, rfl, take_eq_step hlt hlt' HE.out heq, _, rfl⟩
          case measure => simp [intOf]; omega
      · go_wp2
        go_ret
        obtain rfl : k = l.length := by omega
        have := HE.out
        rw [List.take_of_length_le (Nat.le_refl _), List.take_of_length_le (by rw [HN.out]; exact Nat.le_refl _)] at this
        exact ⟨rB (by simp [this]), _, rfl⟩
  · go_enter Tryd.func40, Tryd.ntmps40
    go_wp2
    go_ret
    exact ⟨rB (by simp; intro h; exact hnm (by rw [h])), 0, rfl⟩
end Go.Proofs.YtddghaoejnbkaaaDoor

/- Contracts and lemmas for the proofs of this seat; each theorem states its own conditions. -/
namespace Go.Proofs.YtddghaoejnbkaaaDoor
open Go.RowKit
/-! rokeep.run, deedBegun, deed.Serial -/
/-- deeds, in a row -/
def SegDs (w : World) (v : Value) (D : List Ops) : Prop :=
  ∃ vs : List Value, vs.length = D.length ∧ Seg w v 1 vs.length vs ∧ ∀ (i : Nat) (u : Value) (d : Ops), vs[i]? = some u → D[i]? = some d → Seg w u 4 d.length (cO d)
theorem SegDs.ext {w w' : World} {v : Value} {D : List Ops} (h : SegDs w v D) (k : Ext w w') : SegDs w' v D := by
  obtain ⟨vs, h1, h2, h3⟩ := h
  exact ⟨vs, h1, h2.ext k, fun i u d a b => (h3 i u d a b).ext k⟩
theorem OwnDs.seg {w : World} {B B' : Nat} {v : Value} {vs : List Value} {D : List Ops} (h : OwnDs w B vs D) (ho : w.ownsRow B' 36 1 v vs.length vs) : SegDs w v D :=
  ⟨vs, h.len, own_seg ho, fun i u d a b => own_seg (h.own i u d a b)⟩
end Go.Proofs.YtddghaoejnbkaaaDoor
