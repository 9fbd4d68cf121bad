/- Contracts and lemmas for the proof of CopiesSame; each theorem states its own conditions. -/
import Derived.Test.YtimchedebcoohaaGreatProg
import Derived.Test.YtimchedebcoohaaGreatQCopiesSameab
import Derived.WalkSpells
import Derived.WalkLawsBesides
import Derived.Laws.StructEq
import Derived.Deep.QuietTactic
import Derived.BigQuiet
import Derived.Test.YtimchedebcoohaaGreatQCopiesSameao
import Derived.Test.YtimchedebcoohaaGreatQCopiesSameav
import Derived.Test.YtimchedebcoohaaGreatQCopiesSameat
import Derived.Test.YtimchedebcoohaaGreatQCopiesSameap
import Derived.Test.YtimchedebcoohaaGreatQCopiesSameau
set_option linter.unusedVariables false
set_option linter.unusedSimpArgs false
/- Contracts and lemmas for the proofs of this seat; each theorem states its own conditions. -/
namespace Go.Proofs.YtimchedebcoohaaGreat
open Go.RowKit
theorem neq_Pair (s t : ByteArray) (x y : Int) (w : World) : (binOp .neq 33 (.agg #[.string s, .int .i64 x]) (.agg #[.string t, .int .i64 y])).run Tryz.prog w = .ok (.bool (!(decide ((s, x) = (t, y))))) w := by
  have e2 : Tryz.prog.stoodInHeld 33 = false := by kernel_rfl
  have e3 : Tryz.prog.underlying 33 = some (.struct (Tryz.prog.fieldsOf 33)) := by kernel_rfl
  have e4 : (Tryz.prog.fieldsOf 33).toList = [⟨"Key", 9, 0, false, "", "", 0⟩, ⟨"Value", 3, 1, false, "", "", 16⟩] := by kernel_rfl
  rw [run_neq_struct, run_equalIn_struct _ _ _ _ _ e3 e2, e4]
  simp [Op.eqFields, go_sem]
  by_cases h : s = t
  · subst h; by_cases h' : x = y <;> simp [h']
  · have : ¬ s.toList = t.toList := fun e => h (toList_inj e)
    simp [this, h]
theorem pair_ne {p q : ByteArray × Int} (h : (!decide (p.1 = q.1)) = true ∨ (!decide (p.2 = q.2)) = true) : p ≠ q := by
  rintro rfl; simp at h
theorem pair_eq {p q : ByteArray × Int} (h : (!decide (p.1 = q.1)) = false ∧ (!decide (p.2 = q.2)) = false) : p = q := by
  simp at h; exact Prod.ext h.1 h.2
theorem neq_Op (a b : GOp) (w : World) : (binOp .neq 37 (.agg #[.int .i64 a.kind, .string a.key, .string a.from_, .int .i64 a.n]) (.agg #[.int .i64 b.kind, .string b.key, .string b.from_, .int .i64 b.n])).run Tryz.prog w = .ok (.bool (opNe a b)) w := by
  have e2 : Tryz.prog.stoodInHeld 37 = false := by kernel_rfl
  have e3 : Tryz.prog.underlying 37 = some (.struct (Tryz.prog.fieldsOf 37)) := by kernel_rfl
  have e4 : (Tryz.prog.fieldsOf 37).toList = [⟨"Kind", 3, 0, false, "", "", 0⟩, ⟨"Key", 9, 1, false, "", "", 8⟩, ⟨"From", 9, 2, false, "", "", 24⟩, ⟨"N", 3, 3, false, "", "", 40⟩] := by kernel_rfl
  rw [run_neq_struct, run_equalIn_struct _ _ _ _ _ e3 e2, e4]
  simp [Op.eqFields, go_sem]
  cases a with | mk k s f n => cases b with | mk k' s' f' n' =>
  by_cases h0 : k = k'
  · by_cases h1 : s = s'
    · by_cases h2 : f = f'
      · by_cases h3 : n = n' <;> simp [h0, h1, h2, h3, opNe]
      · have : ¬ f.toList = f'.toList := fun e => h2 (toList_inj e)
        simp [h0, h1, h2, this, opNe]
    · have : ¬ s.toList = s'.toList := fun e => h1 (toList_inj e)
      simp [h0, h1, this, opNe]
  · simp [h0, opNe]
set_option maxRecDepth 10000 in
theorem equal_Int (v u : Value) (l m : List Int) (w : World) (hv : Seg w v 1 l.length (cI l)) (hu : Seg w u 1 m.length (cI m)) :
    Calls Tryz.prog 39 #[v, u] w fun e w' => e = .returned (.bool (decide (l = m))) ∧ ∃ d, w' = w.drewN d := by
  obtain ⟨h0, a, cap, rfl, h1, h2, h3⟩ := hv
  obtain ⟨h0', a', cap', rfl, h1', h2', h3'⟩ := hu
  unfold maxLen at h2 h2'
  by_cases hnm : (l.length : Int) = m.length
  · have hnm' : l.length = m.length := by omega
    have HN := (show Hid (l.length = m.length) from hnm')
    clear hnm'
    have q : ((l.length : Int) != m.length) = false := by simp [hnm]
    clear hnm
    go_enter Tryz.func39, Tryz.ntmps39
    go_wp2
    go_loopw [4, 5, 13] (fun r _ i wr => ∃ k : Nat, k ≤ l.length ∧ i = .int .i64 k ∧ r = .bool false ∧ l.take k = m.take k ∧ ∃ d, wr = w.drewN d) (fun _ _ i _ => l.length - (intOf i).toNat)
    case atStart => exact ⟨0, Nat.zero_le _, rfl, rfl, rfl, 0, rfl⟩
    case round =>
      obtain ⟨k, hk, rfl, rfl, heq, d, rfl⟩ := hrel
      have HE := (show Hid (l.take k = m.take k) from heq)
      clear heq
      by_cases hlt : k < l.length
      · obtain ⟨b, off, rfl, hc⟩ := h3 (by omega)
        have hlt' : k < m.length := by have := HN.out; omega
        obtain ⟨b', off', rfl, hc'⟩ := h3' (by omega)
        have c0 := hc _ _ (cI_at0 l k hlt)
        have d0 := hc' _ _ (cI_at0 m k hlt')
        clear hc hc' h3 h3'
        go_wp2
        go_quiet (fail)
        go_wp2
        · go_ret
          have hne : l[k] ≠ m[k] := by simpa using (show (l[k] != m[k]) = true by assumption)
          exact ⟨rB (by simp; rintro rfl; exact hne rfl), _, World.drewN_drewN _ _ _⟩
        · have heq : l[k] = m[k] := by simpa using (show (l[k] != m[k]) = false by assumption)
          go_roundw
          case rel => exact ⟨k + 1, by omega, by go_num, rfl, take_eq_step hlt hlt' HE.out heq, _, rfl⟩
          case measure => simp [intOf]; omega
      · go_wp2
        go_ret
        obtain rfl : k = l.length := by omega
        have := HE.out
        rw [List.take_of_length_le (Nat.le_refl _), List.take_of_length_le (by rw [HN.out]; exact Nat.le_refl _)] at this
        exact ⟨rB (by simp [this]), _, rfl⟩
  · go_enter Tryz.func39, Tryz.ntmps39
    go_wp2
    go_ret
    exact ⟨rB (by simp; intro h; exact hnm (by rw [h])), 0, rfl⟩
set_option maxRecDepth 10000 in
theorem equal_Str (v u : Value) (l m : List ByteArray) (w : World) (hv : Seg w v 1 l.length (cS l)) (hu : Seg w u 1 m.length (cS m)) :
    Calls Tryz.prog 40 #[v, u] w fun e w' => e = .returned (.bool (decide (l = m))) ∧ ∃ d, w' = w.drewN d := by
  obtain ⟨h0, a, cap, rfl, h1, h2, h3⟩ := hv
  obtain ⟨h0', a', cap', rfl, h1', h2', h3'⟩ := hu
  unfold maxLen at h2 h2'
  by_cases hnm : (l.length : Int) = m.length
  · have hnm' : l.length = m.length := by omega
    have HN := (show Hid (l.length = m.length) from hnm')
    clear hnm'
    have q : ((l.length : Int) != m.length) = false := by simp [hnm]
    clear hnm
    go_enter Tryz.func40, Tryz.ntmps40
    go_wp2
    go_loopw [4, 5, 13] (fun r _ i wr => ∃ k : Nat, k ≤ l.length ∧ i = .int .i64 k ∧ r = .bool false ∧ l.take k = m.take k ∧ ∃ d, wr = w.drewN d) (fun _ _ i _ => l.length - (intOf i).toNat)
    case atStart => exact ⟨0, Nat.zero_le _, rfl, rfl, rfl, 0, rfl⟩
    case round =>
      obtain ⟨k, hk, rfl, rfl, heq, d, rfl⟩ := hrel
      have HE := (show Hid (l.take k = m.take k) from heq)
      clear heq
      by_cases hlt : k < l.length
      · obtain ⟨b, off, rfl, hc⟩ := h3 (by omega)
        have hlt' : k < m.length := by have := HN.out; omega
        obtain ⟨b', off', rfl, hc'⟩ := h3' (by omega)
        have c0 := hc _ _ (cS_at0 l k hlt)
        have d0 := hc' _ _ (cS_at0 m k hlt')
        clear hc hc' h3 h3'
        go_wp2
        go_quiet (fail)
        go_wp2
        · go_ret
          have hne : l[k] ≠ m[k] := str_ne (by assumption)
          exact ⟨rB (by simp; rintro rfl; exact hne rfl), _, World.drewN_drewN _ _ _⟩
        · have heq : l[k] = m[k] := str_eq (by assumption)
          go_roundw
          case rel => exact ⟨k + 1, by omega, by go_num, rfl, take_eq_step hlt hlt' HE.out heq, _, rfl⟩
          case measure => simp [intOf]; omega
      · go_wp2
        go_ret
        obtain rfl : k = l.length := by omega
        have := HE.out
        rw [List.take_of_length_le (Nat.le_refl _), List.take_of_length_le (by rw [HN.out]; exact Nat.le_refl _)] at this
        exact ⟨rB (by simp [this]), _, rfl⟩
  · go_enter Tryz.func40, Tryz.ntmps40
    go_wp2
    go_ret
    exact ⟨rB (by simp; intro h; exact hnm (by rw [h])), 0, rfl⟩
set_option maxRecDepth 10000 in
theorem equal_Bool (v u : Value) (l m : List Bool) (w : World) (hv : Seg w v 1 l.length (cB l)) (hu : Seg w u 1 m.length (cB m)) :
    Calls Tryz.prog 41 #[v, u] w fun e w' => e = .returned (.bool (decide (l = m))) ∧ ∃ d, w' = w.drewN d := by
  obtain ⟨h0, a, cap, rfl, h1, h2, h3⟩ := hv
  obtain ⟨h0', a', cap', rfl, h1', h2', h3'⟩ := hu
  unfold maxLen at h2 h2'
  by_cases hnm : (l.length : Int) = m.length
  · have hnm' : l.length = m.length := by omega
    have HN := (show Hid (l.length = m.length) from hnm')
    clear hnm'
    have q : ((l.length : Int) != m.length) = false := by simp [hnm]
    clear hnm
    go_enter Tryz.func41, Tryz.ntmps41
    go_wp2
    go_loopw [4, 5, 13] (fun r _ i wr => ∃ k : Nat, k ≤ l.length ∧ i = .int .i64 k ∧ r = .bool false ∧ l.take k = m.take k ∧ ∃ d, wr = w.drewN d) (fun _ _ i _ => l.length - (intOf i).toNat)
    case atStart => exact ⟨0, Nat.zero_le _, rfl, rfl, rfl, 0, rfl⟩
    case round =>
      obtain ⟨k, hk, rfl, rfl, heq, d, rfl⟩ := hrel
      have HE := (show Hid (l.take k = m.take k) from heq)
      clear heq
      by_cases hlt : k < l.length
      · obtain ⟨b, off, rfl, hc⟩ := h3 (by omega)
        have hlt' : k < m.length := by have := HN.out; omega
        obtain ⟨b', off', rfl, hc'⟩ := h3' (by omega)
        have c0 := hc _ _ (cB_at0 l k hlt)
        have d0 := hc' _ _ (cB_at0 m k hlt')
        clear hc hc' h3 h3'
        go_wp2
        go_quiet (fail)
        go_wp2
        · go_ret
          have hne : l[k] ≠ m[k] := by simpa using (show (l[k] != m[k]) = true by assumption)
          exact ⟨rB (by simp; rintro rfl; exact hne rfl), _, World.drewN_drewN _ _ _⟩
        · have heq : l[k] = m[k] := by simpa using (show (l[k] != m[k]) = false by assumption)
          go_roundw
          case rel => exact ⟨k + 1, by omega, by go_num, rfl, take_eq_step hlt hlt' HE.out heq, _, rfl⟩
          case measure => simp [intOf]; omega
      · go_wp2
        go_ret
        obtain rfl : k = l.length := by omega
        have := HE.out
        rw [List.take_of_length_le (Nat.le_refl _), List.take_of_length_le (by rw [HN.out]; exact Nat.le_refl _)] at this
        exact ⟨rB (by simp [this]), _, rfl⟩
  · go_enter Tryz.func41, Tryz.ntmps41
    go_wp2
    go_ret
    exact ⟨rB (by simp; intro h; exact hnm (by rw [h])), 0, rfl⟩
set_option maxRecDepth 10000 in
theorem equal_Pair (v u : Value) (l m : List (ByteArray × Int)) (w : World) (hv : Seg w v 2 l.length (cP l)) (hu : Seg w u 2 m.length (cP m)) :
    Calls Tryz.prog 26 #[v, u] w fun e w' => e = .returned (.bool (decide (l = m))) ∧ ∃ d, w' = w.drewN d := by
  obtain ⟨h0, a, cap, rfl, h1, h2, h3⟩ := hv
  obtain ⟨h0', a', cap', rfl, h1', h2', h3'⟩ := hu
  unfold maxLen at h2 h2'
  have e1 : Tryz.prog.eqGuardType Tryz.prog.depth 33 = false := by kernel_rfl
  have hneq := neq_Pair
  by_cases hnm : (l.length : Int) = m.length
  · have hnm' : l.length = m.length := by omega
    have HN := (show Hid (l.length = m.length) from hnm')
    clear hnm'
    have q : ((l.length : Int) != m.length) = false := by simp [hnm]
    clear hnm
    go_enter Tryz.func26, Tryz.ntmps26
    go_wp2
    go_loopw [4, 5, 13] (fun r _ i wr => ∃ k : Nat, k ≤ l.length ∧ i = .int .i64 k ∧ r = .bool false ∧ l.take k = m.take k ∧ ∃ d, wr = w.drewN d) (fun _ _ i _ => l.length - (intOf i).toNat)
    case atStart => exact ⟨0, Nat.zero_le _, rfl, rfl, rfl, 0, rfl⟩
    case round =>
      obtain ⟨k, hk, rfl, rfl, heq, d, rfl⟩ := hrel
      have HE := (show Hid (l.take k = m.take k) from heq)
      clear heq
      by_cases hlt : k < l.length
      · obtain ⟨b, off, rfl, hc⟩ := h3 (by omega)
        have hlt' : k < m.length := by have := HN.out; omega
        obtain ⟨b', off', rfl, hc'⟩ := h3' (by omega)
        have c0 := hc _ _ (cP_at0 l k hlt)
        have d0 := hc' _ _ (cP_at0 m k hlt')

        have c1 := hc _ _ (cP_at1 l k hlt)
        rw [show off + (k * 2 + 1) = off + k * 2 + 1 from by omega] at c1
        have d1 := hc' _ _ (cP_at1 m k hlt')
        rw [show off' + (k * 2 + 1) = off' + k * 2 + 1 from by omega] at d1
        clear hc hc' h3 h3'
        go_wp2
        go_quiet (fail)
        go_wp2
        · go_ret
          have hne : l[k] ≠ m[k] := pair_ne (by assumption)
          exact ⟨rB (by simp; rintro rfl; exact hne rfl), _, World.drewN_drewN _ _ _⟩
        · have heq : l[k] = m[k] := pair_eq (by assumption)
          go_roundw
          case rel => exact ⟨k + 1, by omega, by go_num, rfl, take_eq_step hlt hlt' HE.out heq, _, rfl⟩
          case measure => simp [intOf]; omega
      · go_wp2
        go_ret
        obtain rfl : k = l.length := by omega
        have := HE.out
        rw [List.take_of_length_le (Nat.le_refl _), List.take_of_length_le (by rw [HN.out]; exact Nat.le_refl _)] at this
        exact ⟨rB (by simp [this]), _, rfl⟩
  · go_enter Tryz.func26, Tryz.ntmps26
    go_wp2
    go_ret
    exact ⟨rB (by simp; intro h; exact hnm (by rw [h])), 0, rfl⟩
set_option maxRecDepth 10000 in
theorem equal_Op (v u : Value) (l m : List GOp) (w : World) (hv : Seg w v 4 l.length (cO l)) (hu : Seg w u 4 m.length (cO m)) :
    Calls Tryz.prog 28 #[v, u] w fun e w' => e = .returned (.bool (decide (l = m))) ∧ ∃ d, w' = w.drewN d := by
  obtain ⟨h0, a, cap, rfl, h1, h2, h3⟩ := hv
  obtain ⟨h0', a', cap', rfl, h1', h2', h3'⟩ := hu
  unfold maxLen at h2 h2'
  have e1 : Tryz.prog.eqGuardType Tryz.prog.depth 37 = false := by kernel_rfl
  have hneq := neq_Op
  by_cases hnm : (l.length : Int) = m.length
  · have hnm' : l.length = m.length := by omega
    have HN := (show Hid (l.length = m.length) from hnm')
    clear hnm'
    have q : ((l.length : Int) != m.length) = false := by simp [hnm]
    clear hnm
    go_enter Tryz.func28, Tryz.ntmps28
    go_wp2
    go_loopw [4, 5, 13] (fun r _ i wr => ∃ k : Nat, k ≤ l.length ∧ i = .int .i64 k ∧ r = .bool false ∧ l.take k = m.take k ∧ ∃ d, wr = w.drewN d) (fun _ _ i _ => l.length - (intOf i).toNat)
    case atStart => exact ⟨0, Nat.zero_le _, rfl, rfl, rfl, 0, rfl⟩
    case round =>
      obtain ⟨k, hk, rfl, rfl, heq, d, rfl⟩ := hrel
      have HE := (show Hid (l.take k = m.take k) from heq)
      clear heq
      by_cases hlt : k < l.length
      · obtain ⟨b, off, rfl, hc⟩ := h3 (by omega)
        have hlt' : k < m.length := by have := HN.out; omega
        obtain ⟨b', off', rfl, hc'⟩ := h3' (by omega)
        have c0 := hc _ _ (cO_at0 l k hlt)
        have d0 := hc' _ _ (cO_at0 m k hlt')

        have c1 := hc _ _ (cO_at1 l k hlt)
        rw [show off + (k * 4 + 1) = off + k * 4 + 1 from by omega] at c1
        have d1 := hc' _ _ (cO_at1 m k hlt')
        rw [show off' + (k * 4 + 1) = off' + k * 4 + 1 from by omega] at d1

        have c2 := hc _ _ (cO_at2 l k hlt)
        rw [show off + (k * 4 + 2) = off + k * 4 + 1 + 1 from by omega] at c2
        have d2 := hc' _ _ (cO_at2 m k hlt')
        rw [show off' + (k * 4 + 2) = off' + k * 4 + 1 + 1 from by omega] at d2

        have c3 := hc _ _ (cO_at3 l k hlt)
        rw [show off + (k * 4 + 3) = off + k * 4 + 1 + 1 + 1 from by omega] at c3
        have d3 := hc' _ _ (cO_at3 m k hlt')
        rw [show off' + (k * 4 + 3) = off' + k * 4 + 1 + 1 + 1 from by omega] at d3
        clear hc hc' h3 h3'
        go_wp2
        go_quiet (fail)
        go_wp2
        · go_ret
          have hne : l[k] ≠ m[k] := opNe_true (by assumption)
          exact ⟨rB (by simp; rintro rfl; exact hne rfl), _, World.drewN_drewN _ _ _⟩
        · have heq : l[k] = m[k] := opNe_false (by assumption)
          go_roundw
          case rel => exact ⟨k + 1, by omega, by go_num, rfl, take_eq_step hlt hlt' HE.out heq, _, rfl⟩
          case measure => simp [intOf]; omega
      · go_wp2
        go_ret
        obtain rfl : k = l.length := by omega
        have := HE.out
        rw [List.take_of_length_le (Nat.le_refl _), List.take_of_length_le (by rw [HN.out]; exact Nat.le_refl _)] at this
        exact ⟨rB (by simp [this]), _, rfl⟩
  · go_enter Tryz.func28, Tryz.ntmps28
    go_wp2
    go_ret
    exact ⟨rB (by simp; intro h; exact hnm (by rw [h])), 0, rfl⟩
end Go.Proofs.YtimchedebcoohaaGreat

/- Contracts and lemmas for the proofs of this seat; each theorem states its own conditions. -/
namespace Go.Proofs.YtimchedebcoohaaGreat
open Go.RowKit
/-! rokeep.run, deedBegun, deed.Serial -/
theorem DeedG.from_sm {d : Ops} (h : DeedOk d) (hf : ∀ o ∈ d, o.from_.size ≤ 9223372036854775807) : opsSm d := opsSm_ok h hf
theorem eqP_same (l : Prs) : decide (l = l) = true := by simp
theorem run_len (l : Prs) (d : Ops) : (runS l d).length ≤ l.length + 2 * d.length := by
  unfold runS
  cases e : runP l d with
  | none => simp
  | some l' => exact len_run e
theorem krun_ok (v vd : Value) (l : Prs) (d : Ops) (w : World) (hv : Seg w v 2 l.length (cP l)) (hvd : Seg w vd 4 d.length (cO d)) (ok : StoreOk l) (hd : DeedOk d) (hf : ∀ o ∈ d, o.from_.size ≤ 9223372036854775807) (hlen : l.length ≤ 998000) :
    Calls Tryz.prog 60 #[v, .agg #[vd]] w fun e w' => ∃ v', e = .returned (.tuple #[v', .bool (runB l d), .bool true]) ∧ w'.ownsRow w.heap.size 33 2 v' (runS l d).length (cP (runS l d)) ∧ Ext w w' := by
  have E0 := (Ext.refl w).alloc (.cells #[vd] 29)
  have c0 := cell_of_one (heap_alloc_new w (.cells #[vd] 29))
  have R := hid (run_ok v vd l d (w.alloc (.cells #[vd] 29)) (hv.ext E0) (hvd.ext E0) ok hd hf hlen)
  have hsz : w.heap.size ≤ (w.alloc (.cells #[vd] 29)).heap.size := by simp
  go_enter Tryz.func60, Tryz.ntmps60
  go_wp2_with fail
  refine (R.out).mono ?_
  rintro e w1 ⟨v', rfl, ho, E1⟩
  clear R
  go_wp2
  go_ret3
  exact ⟨v', rfl, own_base ho hsz, E0.trans E1⟩
def abO : Ops := [⟨5, ⟨#[98]⟩, ⟨#[97]⟩, 2⟩]
theorem abO_ok : deedE abO = 0 ∧ storeErr [((⟨#[97]⟩ : ByteArray), (5 : Int))] = 0 ∧ runS [((⟨#[97]⟩ : ByteArray), (5 : Int))] abO = [((⟨#[97]⟩ : ByteArray), (3 : Int)), ((⟨#[98]⟩ : ByteArray), (2 : Int))] ∧ runB [((⟨#[97]⟩ : ByteArray), (5 : Int))] abO = true := by decide +kernel
/-- a variable of its own, set at once -/
theorem new_set (w : World) (t : TypeId) (z u : Value) : ∃ W, (w.alloc (.cells #[z] t)).setCell ⟨w.heap.size, 0, none⟩ u = W ∧ Ext w W ∧ W.heap[w.heap.size]? = some (.cells #[u] t (0, 0)) ∧ W.cell? ⟨w.heap.size, 0, none⟩ = some u ∧ (w.alloc (.cells #[z] t)).frozen? ⟨w.heap.size, 0, none⟩ = false ∧ (w.alloc (.cells #[z] t)).cell? ⟨w.heap.size, 0, none⟩ = some z ∧ w.heap.size < W.heap.size := by
  have h := one_setCell (u := u) (heap_alloc_new w (.cells #[z] t))
  exact ⟨_, rfl, ((Ext.refl w).alloc _).setCell (Nat.le_refl _) _, h, cell_of_one h, free_of_one (heap_alloc_new w _), cell_of_one (heap_alloc_new w _), lt_of_block h⟩
/-- deeds, in a row -/
def SegDs (w : World) (v : Value) (D : List Ops) : Prop :=
  ∃ vs : List Value, vs.length = D.length ∧ Seg w v 1 vs.length vs ∧ ∀ (i : Nat) (u : Value) (d : Ops), vs[i]? = some u → D[i]? = some d → Seg w u 4 d.length (cO d)
theorem SegDs.ext {w w' : World} {v : Value} {D : List Ops} (h : SegDs w v D) (k : Ext w w') : SegDs w' v D := by
  obtain ⟨vs, h1, h2, h3⟩ := h
  exact ⟨vs, h1, h2.ext k, fun i u d a b => (h3 i u d a b).ext k⟩
theorem OwnDs.seg {w : World} {B B' : Nat} {v : Value} {vs : List Value} {D : List Ops} (h : OwnDs w B vs D) (ho : w.ownsRow B' 29 1 v vs.length vs) : SegDs w v D :=
  ⟨vs, h.len, own_seg ho, fun i u d a b => own_seg (h.own i u d a b)⟩
theorem cB_app (a b : List Bool) : cB (a ++ b) = cB a ++ cB b := by simp [cB]
theorem serS_take {l : Prs} {D : List Ops} {k : Nat} (hk : k < D.length) : serS l (D.take (k + 1)) = runS (serS l (D.take k)) D[k] ∧ serB l (D.take (k + 1)) = serB l (D.take k) ++ [runB (serS l (D.take k)) D[k]] := by
  rw [List.take_succ_eq_append_getElem hk]
  obtain ⟨a, b⟩ := ser_app l (D.take k) [D[k]]
  rw [a, b]; exact ⟨rfl, rfl⟩
theorem ser_len (l : Prs) (D : List Ops) (h : ∀ d ∈ D, d.length ≤ 8) : ∀ k, (serS l (D.take k)).length ≤ l.length + 16 * k
  | 0 => by simp [serS]
  | k + 1 => by
    by_cases hk : k < D.length
    · rw [(serS_take hk).1]
      have h1 := run_len (serS l (D.take k)) D[k]
      have h2 := h D[k] (List.getElem_mem hk)
      have := ser_len l D h k
      omega
    · have e : D.take (k + 1) = D.take k := by rw [List.take_of_length_le (by omega), List.take_of_length_le (by omega)]
      rw [e]; have := ser_len l D h k; omega
theorem infoBl : (Tryz.prog.info? 4).map (fun i => (i.zero, i.size, i.bytes)) = some (some (.bool false), 1, 1) := by kernel_rfl
theorem one_bool (b : Bool) : ∀ u ∈ [Value.bool b], u.oneCell' = true := by
  intro u hu; simp at hu; subst hu; rfl
set_option maxRecDepth 10000 in
set_option maxHeartbeats 2000000 in
theorem serial_ok (v vd : Value) (l : Prs) (D : List Ops) (w : World) (hv : Seg w v 2 l.length (cP l)) (hvd : SegDs w vd D) (ok : StoreOk l) (hd : ∀ d ∈ D, DeedOk d) (hf : ∀ d ∈ D, ∀ o ∈ d, o.from_.size ≤ 9223372036854775807) (hn : D.length ≤ 60) (hlen : l.length ≤ 900000) :
    Calls Tryz.prog 21 #[v, vd] w fun e w' => ∃ v' vb, e = .returned (.tuple #[v', vb, .int .i64 0]) ∧ w'.ownsRow w.heap.size 33 2 v' (serS l D).length (cP (serS l D)) ∧ w'.ownsRow w.heap.size 4 1 vb (serB l D).length (cB (serB l D)) ∧ Ext w w' := by
  obtain ⟨vs, hl, ⟨h0, a, cap, rfl, h1, h2, h3⟩, h4⟩ := hvd
  clear h0
  unfold maxLen at h2
  have H3 := hid h3
  have H4 := hid h4
  clear h3 h4
  have hl1 : vs.length ≤ D.length := by omega
  have hl2 : D.length ≤ vs.length := by omega
  clear hl
  have hlD := ser_len l D (fun d h => (hd d h).hi)
  have hok : ∀ k, StoreOk (serS l (D.take k)) := fun k => ser_ok (fun d h => hd d (List.mem_of_mem_take h)) ok
  go_enter Tryz.func21, Tryz.ntmps21
  go_wp2_with fail
  refine (scheck_any _ l _ hv (store_small ok)).mono ?_
  rw [storeErr_ok ok]
  rintro e w1 ⟨rfl, E1⟩
  go_wp2_with fail
  go_loopw [9, 10, 28] (fun _ _ i wr => ∃ k : Nat, k ≤ vs.length ∧ i = .int .i64 k ∧ Ext w wr) (fun _ _ i _ => vs.length - (intOf i).toNat)
  case atStart => exact ⟨0, Nat.zero_le _, rfl, E1⟩
  case round =>
    obtain ⟨k, hk, rfl, E⟩ := hrel
    by_cases hlt : k < vs.length
    · obtain ⟨b, off, rfl, hc⟩ := H3.out (by omega)
      have c0 := E.cell (hc k vs[k] (by simp [hlt]))
      have hs := (H4.out k vs[k] (D[k]'(by omega)) (List.getElem?_eq_getElem _) (List.getElem?_eq_getElem _)).ext E
      have dk := hd _ (List.getElem_mem (show k < D.length by omega))
      have fk := hf _ (List.getElem_mem (show k < D.length by omega))
      generalize D[k]'(by omega) = d at hs dk fk
      generalize vs[k] = u at c0 hs
      obtain ⟨au, cu, rfl⟩ := seg_form hs
      obtain ⟨W, hW, E8, b8, b81, b82, b83, b84⟩ := new_set wr 29 (.slice none 0 0) (.slice au d.length cu)
      have C := dcheck_any (.slice au d.length cu) d W (hs.ext E8) (opsSm_ok dk fk)
      rw [deedE_ok dk] at C
      have C := hid C
      clear hc
      go_wp2_with fail
      refine (C.out).mono ?_
      rintro e w2 ⟨rfl, E2⟩
      go_wp2
      go_roundw
      case rel => exact ⟨k + 1, by omega, by go_num, (E.trans E8).trans E2⟩
      case measure => simp [intOf]; omega
    · obtain rfl : k = vs.length := by omega
      go_wp2_with fail
      refine (clone_Pair _ _ _ _ (hv.ext E) (cP_one l) (by omega)).mono ?_
      rintro e w2 ⟨a2, c2, rfl, ho2, E2⟩
      have E' := E.trans E2
      have ho2' := own_base ho2 E.size'
      clear ho2 E2 E E1
      go_wp2_with fail
      go_loopw [11, 12, 14, 15, 16, 17, 42, 46] (fun o q _ _ _ _ i _ wr => ∃ k : Nat, k ≤ vs.length ∧ i = .int .i64 k ∧ wr.ownsRow w.heap.size 33 2 o (serS l (D.take k)).length (cP (serS l (D.take k))) ∧ wr.ownsRow w.heap.size 4 1 q (serB l (D.take k)).length (cB (serB l (D.take k))) ∧ Ext w wr) (fun _ _ _ _ _ _ i _ _ => vs.length - (intOf i).toNat)
      case atStart => exact ⟨0, Nat.zero_le _, rfl, ho2', World.ownsRow_nil _ _ _ _, E'⟩
      case round =>
        clear ho2' E'
        obtain ⟨k, hk, rfl, ho, hq, E⟩ := hrel
        by_cases hlt : k < vs.length
        · obtain ⟨b, off, rfl, hc⟩ := H3.out (by omega)
          have c0 := E.cell (hc k vs[k] (by simp [hlt]))
          have hkD : k < D.length := by omega
          have hs := (H4.out k vs[k] (D[k]'(by omega)) (List.getElem?_eq_getElem _) (List.getElem?_eq_getElem _)).ext E
          have dk := hd _ (List.getElem_mem (show k < D.length by omega))
          have fk := hf _ (List.getElem_mem (show k < D.length by omega))
          obtain ⟨st1, st2⟩ := serS_take (l := l) hkD
          rw [show (List.take (k + 1) D) = List.take (k+1) D from rfl] at st1
          have okk := hok k
          have lk := hlD k
          have lb : (serB l (D.take k)).length ≤ k := by rw [serB_len]; simp; omega
          generalize serS l (D.take k) = S at ho st1 st2 okk lk
          generalize serB l (D.take k) = O at hq st2 lb
          generalize D[k]'(by omega) = d at hs dk fk st1 st2
          generalize vs[k] = u at c0 hs
          obtain ⟨ao, co, rfl⟩ := own_form ho
          obtain ⟨aq, cq, rfl⟩ := own_form hq
          obtain ⟨au, cu, rfl⟩ := seg_form hs
          obtain ⟨W, hW, E8, b8, b81, b82, b83, b84⟩ := new_set wr 29 (.slice none 0 0) (.slice au d.length cu)
          have C := run_ok (.slice ao S.length co) (.slice au d.length cu) S d W ((own_seg ho).ext E8) (hs.ext E8) okk dk fk (by omega)
          have C := hid C
          have ST := hid (And.intro st1 st2)
          clear hc st1 st2
          have E9 := E.trans E8
          go_wp2_with fail
          refine (C.out).mono ?_
          rintro e w3 ⟨v3, rfl, ho3, E3⟩
          have ho3' := own_base ho3 E9.size'
          have hq3 := own_ext (own_ext hq E8) E3
          have E3' := E9.trans E3
          clear C ho3 E3 E9 E8 b8 b81 b82 b83 b84
          generalize runB S d = rb at ST ⊢
          have p1 : Seg (w3.alloc (.cells #[.bool rb] 4)) (.slice (some ⟨w3.heap.size, 0, none⟩) 1 1) 1 1 [.bool rb] := seg_one (heap_alloc_new w3 _)
          have p2 := hq3.alloc (.cells #[.bool rb] 4)
          have p3 : w.heap.size ≤ (w3.alloc (.cells #[.bool rb] 4)).heap.size := by have := E3'.size'; simp; omega
          have hbd : O.length ≤ 60 := by omega
          go_wp2_with (first | (at_builtin; refine (wpList_app rfl _ _ 49 rfl w.heap.size 4 (.bool false) 1 1 Tryz.underlying49 infoBl rfl (by decide) _ O.length (cB O) rfl p2 _ 1 [.bool rb] rfl p1 (one_bool _) (by omega) (by unfold maxLen; omega) p3 ?_); intro v' w9 ho' hg))
          go_roundw
          case rel =>
            have hne : 33 ≠ 4 := by decide
            have h9 := grown_own hg (ho3'.alloc (.cells #[.bool rb] 4)) (own_own_ne (ho3'.alloc _) p2 hne)
            refine ⟨k + 1, by omega, by go_num, ?_, ?_, (E3'.alloc _).grown hg (fun k hk => own_ge p2 k hk)⟩
            · rw [ST.out.1]; exact h9
            · rw [ST.out.2, List.length_append, cB_app]; exact ho'
          case measure => simp [intOf]; omega
        · obtain rfl : k = vs.length := by omega
          rw [List.take_of_length_le hl2] at ho hq
          go_wp2
          go_ret3
          exact ⟨_, _, rfl, ho, hq, E⟩
end Go.Proofs.YtimchedebcoohaaGreat

/- Contracts and lemmas for the proofs of this seat; each theorem states its own conditions. -/
namespace Go.Proofs.YtimchedebcoohaaGreat
open Go.RowKit
variable {eB : Nat}
/-! merge: Rounds, many, Waits -/
theorem ClsSt.form {w : World} {S : Nat → Prop} {F : Value → Prop} {v : Value} {bs : List Bat} (h : ClsSt eB w S F v bs) : ∃ a c, v = .slice a bs.length c := by
  obtain ⟨us, _, o, _⟩ := h
  exact own_form o
theorem BatSt.form {w : World} {S : Nat → Prop} {v : Value} {X : Bat} (h : BatSt eB w S v X) : ∃ a c, v = .slice a X.length c := by
  obtain ⟨es, _, o, _⟩ := h
  exact own_form o
set_option maxRecDepth 100000 in
set_option maxHeartbeats 2000000 in
theorem mrounds_ok {w : World} {S : Nat → Prop} {bm : Nat} {cl : List (List Bat)} {op : List Bat} (h : MergeSt eB w S bm cl op) :
    Calls Tryz.prog 117 #[.pointer (some ⟨bm, 0, none⟩)] w fun e w' => e = .returned (.int .i64 (rdM cl)) ∧ Ext w w' := by
  obtain ⟨bc, bo, vc, vo, h⟩ := h
  have H := hid h
  have n0 := h.n0
  have n4 := h.n4
  have cb := h.cells.1
  have c0 := (h.cellC h.n0).1
  obtain ⟨a0, k0, e0⟩ := (h.cls 0 h.n0).form
  rw [e0] at c0
  clear h e0
  have HR0 := hid (show mnTo cl 0 = (cl.getD 0 []).length from rfl)
  obtain ⟨N0, hN0⟩ : ∃ N0, (cl.getD 0 []).length = N0 := ⟨_, rfl⟩
  rw [hN0] at c0 HR0
  clear hN0
  go_enter Tryz.func117, Tryz.ntmps117
  go_wp2_with fail
  go_loopw [3, 5, 18] (fun nv _ iv wr => ∃ i : Nat, i ≤ cl.length ∧ iv = .int .i64 i ∧ nv = .int .i64 (mnTo cl i) ∧ Ext w wr) (fun _ _ iv _ => cl.length - (intOf iv).toNat)
  case atStart => exact ⟨0, Nat.zero_le _, rfl, by rw [HR0.out], Ext.refl _⟩
  case round =>
    obtain ⟨i, hi, rfl, rfl, Ei⟩ := hrel
    by_cases hil : i < cl.length
    · have ci := Ei.cell (H.out.cellC hil).1
      obtain ⟨ai, ki, e1⟩ := (H.out.cls i hil).form
      rw [e1] at ci
      have HR := hid (show mnTo cl (i + 1) = min (mnTo cl i) (cl.getD i []).length from rfl)
      obtain ⟨M, hM⟩ : ∃ M, mnTo cl i = M := ⟨_, rfl⟩
      obtain ⟨N, hN⟩ : ∃ N, (cl.getD i []).length = N := ⟨_, rfl⟩
      rw [hM, hN] at HR
      rw [hN] at ci
      simp only [hM]
      clear hM hN e1
      go_wp2
      go_roundw
      case rel => exact ⟨i + 1, by omega, by go_num, by rw [HR.out]; exact vI (by omega), Ei⟩
      case measure => simp [intOf] <;> omega
    · obtain rfl : i = cl.length := by omega
      go_wp2
      go_ret
      exact ⟨rfl, Ei⟩
def sumTo (bs : List Bat) : Nat → Nat
  | 0 => 0
  | j + 1 => sumTo bs j + (bs.getD j []).length
theorem sumTo_take (bs : List Bat) : ∀ {j : Nat}, j ≤ bs.length → sumTo bs j = ((bs.take j).map List.length).sum
  | 0, _ => by simp [sumTo]
  | j + 1, h => by
    rw [sumTo, sumTo_take bs (by omega), List.take_succ_eq_append_getElem (by omega), List.map_append, List.sum_append]
    simp [show j < bs.length by omega]
theorem sumTo_all (bs : List Bat) : sumTo bs bs.length = (bs.map List.length).sum := by
  rw [sumTo_take bs (Nat.le_refl _), List.take_of_length_le (Nat.le_refl _)]
theorem sumTo_mono (bs : List Bat) : ∀ {j k : Nat}, j ≤ k → sumTo bs j ≤ sumTo bs k
  | j, 0, h => by obtain rfl : j = 0 := by omega
                  exact Nat.le_refl _
  | j, k + 1, h => by
    rcases Nat.lt_or_ge j (k + 1) with e | e
    · have := sumTo_mono bs (j := j) (k := k) (by omega)
      rw [sumTo]; omega
    · obtain rfl : j = k + 1 := by omega
      exact Nat.le_refl _
theorem manyTo_mono (cl : List (List Bat)) (op : List Bat) : ∀ {j k : Nat}, j ≤ k → manyTo cl op j ≤ manyTo cl op k
  | j, 0, h => by obtain rfl : j = 0 := by omega
                  exact Nat.le_refl _
  | j, k + 1, h => by
    rcases Nat.lt_or_ge j (k + 1) with e | e
    · have := manyTo_mono cl op (j := j) (k := k) (by omega)
      rw [manyTo]; omega
    · obtain rfl : j = k + 1 := by omega
      exact Nat.le_refl _
set_option maxRecDepth 100000 in
set_option maxHeartbeats 2000000 in
theorem mmany_ok {w : World} {S : Nat → Prop} {bm : Nat} {cl : List (List Bat)} {op : List Bat} (h : MergeSt eB w S bm cl op) (hm : manyM cl op ≤ 1000000) (hcl : ∀ i, i < cl.length → (cl.getD i []).length ≤ 1000000) :
    Calls Tryz.prog 87 #[.pointer (some ⟨bm, 0, none⟩)] w fun e w' => e = .returned (.int .i64 (manyM cl op)) ∧ Ext w w' := by
  obtain ⟨bc, bo, vc, vo, h⟩ := h
  have H := hid h
  have n0 := h.n0
  have n4 := h.n4
  have cb := h.cells.1
  have cb' := h.cells.2
  clear h
  have HM := hid (fun i (hi : i ≤ cl.length) => (Nat.le_trans (manyTo_mono cl op hi) hm : manyTo cl op i ≤ 1000000))
  clear hm
  go_enter Tryz.func87, Tryz.ntmps87
  go_wp2_with fail
  go_loopw [3, 4, 6, 12, 33] (fun nv _ _ iv _ wr => ∃ i : Nat, i ≤ cl.length ∧ iv = .int .i64 i ∧ nv = .int .i64 (manyTo cl op i) ∧ Ext w wr) (fun _ _ _ iv _ _ => cl.length - (intOf iv).toNat)
  case atStart => exact ⟨0, Nat.zero_le _, rfl, rfl, Ext.refl _⟩
  case round =>
    obtain ⟨wo, rfl⟩ : ∃ wo : World, wo = wr := ⟨_, rfl⟩
    obtain ⟨i, hi, rfl, rfl, Ei⟩ := hrel
    by_cases hil : i < cl.length
    · have cbi := Ei.cell cb
      have cbi' := Ei.cell cb'
      have ci := Ei.cell (H.out.cellC hil).1
      have oi := Ei.cell (H.out.cellO hil).1
      obtain ⟨ai, ki, e1⟩ := (H.out.cls i hil).form
      obtain ⟨ao, ko, e2⟩ := (H.out.opn i hil).form
      rw [e1] at ci
      rw [e2] at oi
      obtain ⟨us, hus, hown, _, hbs⟩ := H.out.cls i hil
      rw [e1] at hown
      replace hown := own_ext hown Ei
      have hc := hcl i hil
      have HB := hid (fun j u (hu : us[j]? = some u) (hj : j < (cl.getD i []).length) => (hbs j u _ hu (List.getElem?_eq_getElem hj)).1.form)
      have HT := hid (show manyTo cl op (i + 1) = manyTo cl op i + (op.getD i []).length + sumTo (cl.getD i []) (cl.getD i []).length by rw [sumTo_all]; rfl)
      have h1 := HM.out i hi
      have h2 := HM.out (i + 1) hil
      rw [HT.out] at h2
      obtain ⟨M, hM⟩ : ∃ M, manyTo cl op i = M := ⟨_, rfl⟩
      obtain ⟨N, hN⟩ : ∃ N, (op.getD i []).length = N := ⟨_, rfl⟩
      rw [hM, hN] at h2
      rw [hM] at h1
      rw [hN] at oi
      have HT : Hid (manyTo cl op (i + 1) = M + N + sumTo (cl.getD i []) (cl.getD i []).length) := by rw [← hM, ← hN]; exact HT
      simp only [hM]
      clear hM hN e1 e2 hbs
      generalize cl.getD i [] = bs at *
      go_wp2_with fail
      go_loopw [3, 6, 33] (fun nv _ jv wr => ∃ j : Nat, j ≤ bs.length ∧ jv = .int .i64 j ∧ nv = .int .i64 ((M + N + sumTo bs j : Nat) : Int) ∧ Ext wo wr) (fun _ _ jv _ => bs.length - (intOf jv).toNat)
      case atStart => exact ⟨0, Nat.zero_le _, rfl, vI (by simp [sumTo]), Ext.refl _⟩
      case round =>
        obtain ⟨j, hj, rfl, rfl, Ej⟩ := hrel
        by_cases hjl : j < bs.length
        · obtain ⟨bu, offu, rfl, _, q1, q2, hcu⟩ := seg_cells (own_seg hown) (by omega)
          unfold maxLen at q2
          have cu := Ej.cell (hcu j us[j] (List.getElem?_eq_getElem (by omega)))
          obtain ⟨au, ku, e3⟩ := HB.out j us[j] (List.getElem?_eq_getElem (by omega)) hjl
          rw [e3] at cu
          have HS := hid (show sumTo bs (j + 1) = sumTo bs j + bs[j].length by rw [sumTo]; simp [hjl])
          have hmo := sumTo_mono bs (show j + 1 ≤ bs.length from hjl)
          rw [HS.out] at hmo
          obtain ⟨X, hX⟩ : ∃ X, bs[j].length = X := ⟨_, rfl⟩
          rw [hX] at cu HS hmo
          generalize sumTo bs bs.length = T at h2 hmo
          obtain ⟨Y, hY⟩ : ∃ Y, sumTo bs j = Y := ⟨_, rfl⟩
          rw [hY] at HS hmo
          simp only [hY]
          clear hX hY e3 hcu HT
          go_wp2
          go_roundw
          case rel => exact ⟨j + 1, by omega, by go_num, by rw [HS.out]; exact vI (by omega), Ej⟩
          case measure => simp [intOf] <;> omega
        · obtain rfl : j = bs.length := by omega
          have HT2 := hid (HT.out.symm)
          generalize sumTo bs bs.length = T at h2 HT2 ⊢
          go_wp2
          go_roundw
          case rel => exact ⟨i + 1, by omega, by go_num, by rw [← HT2.out], Ei.trans Ej⟩
          case measure => simp [intOf] <;> omega
    · obtain rfl : i = cl.length := by omega
      go_wp2
      go_ret
      exact ⟨rfl, Ei⟩
end Go.Proofs.YtimchedebcoohaaGreat
