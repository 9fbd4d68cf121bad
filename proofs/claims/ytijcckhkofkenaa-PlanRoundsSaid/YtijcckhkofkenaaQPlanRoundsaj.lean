/- Contracts and lemmas for the proof of PlanRounds; each theorem states its own conditions. -/
import Derived.Test.YtijcckhkofkenaaQPlanRoundsab
import Derived.Test.YtijcckhkofkenaaQPlanRoundsai
import Derived.Shelf.Abstract
import Derived.Test.YtijcckhkofkenaaQPlanRoundsah
import Derived.Maps.OwnSet
import Derived.Test.YtijcckhkofkenaaQPlanRoundsac
set_option linter.unusedVariables false
set_option linter.unusedSimpArgs false
/- Contracts and lemmas for the proofs of this seat; each theorem states its own conditions. -/
namespace Go.Proofs.Ytijcckhkofkenaa
open Go.RowKit
/-! slices.IndexFunc, ContainsFunc, DeleteFunc at claims -/
/-- the cells of claims -/
def cK (l : List (Nat × Bool)) : List Value := l.flatMap fun c => [.int .i64 c.1, .bool c.2]
theorem cK_cons (c : Nat × Bool) (l : List (Nat × Bool)) : cK (c :: l) = .int .i64 c.1 :: .bool c.2 :: cK l := by simp [cK]
theorem cK_app (a b : List (Nat × Bool)) : cK (a ++ b) = cK a ++ cK b := by simp [cK]
theorem cK_len : ∀ l : List (Nat × Bool), (cK l).length = l.length * 2
  | [] => rfl
  | c :: l => by rw [cK_cons]; simp only [List.length_cons, cK_len l]; omega
theorem cK_one (l : List (Nat × Bool)) : ∀ u ∈ cK l, u.oneCell' = true := by
  intro u hu
  simp only [cK, List.mem_flatMap] at hu
  obtain ⟨c, _, hc⟩ := hu
  simp at hc
  rcases hc with rfl | rfl <;> rfl
theorem cK_at : ∀ (l : List (Nat × Bool)) (k : Nat) (hk : k < l.length), (cK l)[k * 2]? = some (.int .i64 l[k].1) ∧ (cK l)[k * 2 + 1]? = some (.bool l[k].2)
  | [], k, h => by simp at h
  | c :: l, 0, h => by simp [cK_cons]
  | c :: l, k + 1, h => by
    have := cK_at l k (by simpa using h)
    rw [show (k + 1) * 2 = k * 2 + 1 + 1 by omega, cK_cons]
    simpa using this
set_option maxRecDepth 10000 in
set_option maxHeartbeats 1000000 in
theorem indexF_K (fn : Nat) (cs : Array Value) (hen : ∀ args w, (callFunc fn args).run Try.prog w = .ok (.enter fn args) w) (p : Nat × Bool → Bool) (v : Value) (L : List (Nat × Bool)) (w : World) (hv : Seg w v 2 L.length (cK L))
    (hc : ∀ x ∈ L, ∀ w', Ext w w' → Calls Try.prog fn (#[.agg #[.int .i64 x.1, .bool x.2]] ++ cs) w' fun e w'' => e = .returned (.bool (p x)) ∧ Ext w' w'') :
    Calls Try.prog 123 #[v, .func (.func fn) #[] cs] w fun e w' => e = .returned (.int .i64 (firstI p L 0)) ∧ Ext w w' := by
  obtain ⟨h0, a, cap, rfl, h1, h2, h3⟩ := hv
  unfold maxLen at h2
  have H3 := hid h3
  have HC := hid hc
  clear h3 hc h0
  go_enter Try.func123, Try.ntmps123
  go_wp2
  go_loopw [5, 8] (fun _ i wr => ∃ k : Nat, k ≤ L.length ∧ i = .int .i64 k ∧ (∀ j (h : j < L.length), j < k → p L[j] = false) ∧ Ext w wr) (fun _ i _ => L.length - (intOf i).toNat)
  case atStart => exact ⟨0, Nat.zero_le _, rfl, fun j _ h => by omega, Ext.refl _⟩
  case round =>
    obtain ⟨k, hk, rfl, hn, E⟩ := hrel
    have HN := hid hn
    clear hn
    by_cases hlt : k < L.length
    · obtain ⟨b, off, rfl, hcell⟩ := H3.out (by omega)
      have x0 := E.cell (hcell (k * 2) _ (cK_at L k hlt).1)
      have x1 := E.cell (hcell (k * 2 + 1) _ (cK_at L k hlt).2)
      rw [← Nat.add_assoc] at x1
      have C := HC.out L[k] (List.getElem_mem hlt) wr E
      clear hcell
      cases hp : p L[k] with
      | true =>
        rw [hp] at C
        have C := hid C
        have hi : firstI p L 0 = (k : Int) := by
          have := firstI_hit (i := 0) hlt (fun j h' => HN.out j (by omega) h') hp
          simpa using this
        have HI := hid hi
        clear hi hp
        generalize L[k] = x at x0 x1 C
        go_wp2_with (first | (go_at_fn fn; refine (C.out).mono ?_; rintro e wa ⟨rfl, Ea⟩))
        go_ret
        exact ⟨rI HI.out.symm, E.trans Ea⟩
      | false =>
        rw [hp] at C
        have C := hid C
        have HP := hid hp
        have HS := hid (show ∀ j (h : j < L.length), j < k + 1 → p L[j] = false from fun j hj h => by
          rcases Nat.lt_or_ge j k with h' | h'
          · exact HN.out j hj h'
          · have : j = k := by omega
            subst this; exact HP.out)
        clear hp
        generalize L[k] = x at x0 x1 C
        go_wp2_with (first | (go_at_fn fn; refine (C.out).mono ?_; rintro e wa ⟨rfl, Ea⟩))
        go_roundw
        case rel => exact ⟨k + 1, by omega, by go_num, HS.out, E.trans Ea⟩
        case measure => simp [intOf]; omega
    · obtain rfl : k = L.length := by omega
      have hi : firstI p L 0 = -1 := firstI_miss fun x hx => by
        obtain ⟨j, hj, rfl⟩ := List.mem_iff_getElem.1 hx
        exact HN.out j hj hj
      have HI := hid hi
      clear hi
      go_wp2
      go_ret
      exact ⟨rI HI.out.symm, E⟩
set_option maxHeartbeats 1000000 in
theorem containsF_K (fn : Nat) (cs : Array Value) (hen : ∀ args w, (callFunc fn args).run Try.prog w = .ok (.enter fn args) w) (p : Nat × Bool → Bool) (v : Value) (L : List (Nat × Bool)) (w : World) (hv : Seg w v 2 L.length (cK L))
    (hc : ∀ x ∈ L, ∀ w', Ext w w' → Calls Try.prog fn (#[.agg #[.int .i64 x.1, .bool x.2]] ++ cs) w' fun e w'' => e = .returned (.bool (p x)) ∧ Ext w' w'') :
    Calls Try.prog 125 #[v, .func (.func fn) #[] cs] w fun e w' => e = .returned (.bool (L.any p)) ∧ Ext w w' := by
  have C := hid (indexF_K fn cs hen p v L w hv hc)
  have HA := hid (firstI_any (p := p) (l := L) (i := 0))
  generalize firstI p L 0 = z at C HA
  clear hc hv
  go_enter Try.func125, Try.ntmps125
  go_wp2_with fail
  refine (C.out).mono ?_
  rintro e wa ⟨rfl, Ea⟩
  go_wp2
  go_ret
  exact ⟨rB (by rw [← HA.out]), Ea⟩
theorem delset_K (x : Nat × Bool) : ∀ (l : List (Nat × Bool)) (k : Nat), k < l.length → ((cK l).set (k * 2) (.int .i64 x.1)).set (k * 2 + 1) (.bool x.2) = cK (l.set k x)
  | [], k, h => by simp at h
  | c :: l, 0, h => by simp [cK]
  | c :: l, k + 1, h => by
    have := delset_K x l k (by simpa using h)
    have e : ∀ (y : Nat × Bool) (m : List (Nat × Bool)), cK (y :: m) = [.int .i64 y.1, .bool y.2] ++ cK m := fun y m => by simp [cK]
    rw [show (k + 1) * 2 = k * 2 + 1 + 1 by omega, List.set_cons_succ, e, e, ← this]
    rfl
theorem infoDelK : (Try.prog.info? 139).map (fun i => (i.zero, i.size, i.bytes)) = some (some (.agg #[.int .i64 0, .bool false]), 2, 16) := by kernel_rfl
theorem zeroDelK (w : World) : (zeroValue 139).run Try.prog w = .ok (.agg #[.int .i64 0, .bool false]) w := Try.zeroValue139 w
theorem zeroDelCK (n : Nat) : ∀ v ∈ (Builtin.zeroCells (Value.agg #[.int .i64 0, .bool false]).cells n).toList, v.oneCell' = true := by
  intro v hv
  have hc : (Value.agg #[.int .i64 0, .bool false]).cells = #[.int .i64 0, .bool false] := by kernel_rfl
  rw [hc] at hv
  simp only [Builtin.zeroCells, Array.toList_map, List.mem_map] at hv
  obtain ⟨i, _, rfl⟩ := hv
  have h2 : i % 2 = 0 ∨ i % 2 = 1 := by omega
  rcases h2 with h2 | h2 <;> simp [h2, Value.oneCell']
set_option maxRecDepth 10000 in
set_option maxHeartbeats 2000000 in
theorem delF_K (B fn : Nat) (cs : Array Value) (hen : ∀ args w, (callFunc fn args).run Try.prog w = .ok (.enter fn args) w) (p : Nat × Bool → Bool) (v : Value) (L : List (Nat × Bool)) (w : World) (ho : w.ownsRow B 139 2 v L.length (cK L)) (hn : L.length ≤ 1000000)
    (hc : ∀ x ∈ L, ∀ w', w.grownBy w' v.ownBlock → Calls Try.prog fn (#[.agg #[.int .i64 x.1, .bool x.2]] ++ cs) w' fun e w'' => e = .returned (.bool (p x)) ∧ Ext w' w'') :
    Calls Try.prog 91 #[v, .func (.func fn) #[] cs] w fun e w' => ∃ v', e = .returned v' ∧ w'.ownsRow B 139 2 v' (L.filter fun x => !p x).length (cK (L.filter fun x => !p x)) ∧ w.grownBy w' v.ownBlock ∧ v'.ownBlock = v.ownBlock := by
  have hI := indexF_K fn cs hen p v L w (own_seg ho) (fun x hx w' E => hc x hx w' (grown_of_ext E))
  obtain ⟨a, c, rfl⟩ := own_form ho
  by_cases hany : ∀ x ∈ L, p x = false
  · rw [firstI_miss hany] at hI
    have hI := hid hI
    have hf := hid (show (L.filter fun x => !p x) = L from List.filter_eq_self.2 fun x hx => by simp [hany x hx])
    clear hany hc
    go_enter Try.func91, Try.ntmps91
    go_wp2_with fail
    refine (hI.out).mono ?_
    rintro e w1 ⟨rfl, E1⟩
    go_wp2
    go_ret
    exact ⟨_, rfl, by rw [hf.out]; exact own_ext ho E1, grown_of_ext E1, rfl⟩
  · obtain ⟨i0, hi0, hlo, hp0⟩ := first_of hany
    rw [firstI_hit hi0 (fun j h => hlo j h) hp0, Nat.zero_add] at hI
    have hI := hid hI
    obtain ⟨g, rfl, hg1, hg2, hg3, hg4⟩ := own_pos ho (by omega)
    unfold maxLen at hg4
    have HC := hid hc
    have qi : ((i0 : Int) == -1) = false := by simp
    have F0 := hid (first_fil hi0 hlo hp0)
    clear hany hc hlo hp0
    go_enter Try.func91, Try.ntmps91
    go_wp2_with fail
    refine (hI.out).mono ?_
    clear hI
    rintro e w1 ⟨rfl, E1⟩
    go_wp2_with fail
    go_loopw [5, 6, 7] (fun i6 j6 _ wr => ∃ (i j : Nat) (mid : List (Nat × Bool)), i6 = .int .i64 i ∧ j6 = .int .i64 j ∧ j ≤ L.length ∧ ((L.take j).filter fun x => !p x).length = i ∧ i + mid.length = j ∧ i < j ∧ wr.ownsRow B 139 2 (.slice (some ⟨g, 0, none⟩) L.length c) L.length (cK (((L.take j).filter fun x => !p x) ++ mid ++ L.drop j)) ∧ w.grownBy wr (some g)) (fun _ j6 _ _ => L.length - (intOf j6).toNat)
    case atStart => exact ⟨i0, i0 + 1, [L[i0]], rfl, by go_num, by omega, F0.out.1, rfl, by omega, by rw [F0.out.2]; exact own_ext ho E1, grown_of_ext E1⟩
    case round =>
      obtain ⟨i, j, mid, rfl, rfl, hj, hfi, hmid, hij, ho2, hg⟩ := hrel
      by_cases hjl : j < L.length
      · have hlen : ((((L.take j).filter fun x => !p x) ++ mid ++ L.drop j)).length = L.length := by simp only [List.length_append, List.length_drop]; omega
        have hget : (((L.take j).filter fun x => !p x) ++ mid ++ L.drop j)[j]? = some L[j] := by
          rw [List.getElem?_append_right (by simp only [List.length_append]; omega)]
          simp only [List.length_append, hfi, hmid, Nat.sub_self]
          simp [hjl]
        have hstep := del_step (p := p) hjl hfi hmid hij
        obtain ⟨_, _, he, _, _, _, hcell⟩ := seg_cells (own_seg ho2) (by omega)
        injection he with he; injection he with he1 he2
        subst he1; subst he2
        generalize hM : ((L.take j).filter fun x => !p x) ++ mid ++ L.drop j = M at ho2 hlen hget hcell hstep
        have hMj : M[j]'(by omega) = L[j] := by rw [List.getElem?_eq_getElem (by omega)] at hget; injection hget
        have x0 := hcell (j * 2) _ (cK_at M j (by omega)).1
        have x1 := hcell (j * 2 + 1) _ (cK_at M j (by omega)).2
        rw [hMj, Nat.zero_add] at x0 x1
        have hmem := List.getElem_mem hjl
        clear hcell hget hMj hM
        have HST := hid hstep
        clear hstep
        generalize L[j] = x at x0 x1 hmem HST
        have bx := heap_alloc_new wr (.cells #[.int .i64 x.1, .bool x.2] 139)
        have EA := (Ext.refl wr).alloc (.cells #[.int .i64 x.1, .bool x.2] 139)
        have gA := hg.trans (grown_of_ext EA)
        have C := HC.out x hmem (wr.alloc (.cells #[.int .i64 x.1, .bool x.2] 139)) gA
        cases hp : p x with
        | true =>
          rw [hp] at C
          have C := hid C
          have S1 := hid (HST.out.1 hp)
          clear hp
          have xb := blk2 bx
          go_wp2_with (first | (go_at_fn fn; refine (C.out).mono ?_; rintro e wa ⟨rfl, Ea⟩))
          go_roundw
          case rel =>
            obtain ⟨mid', s1, s2, s3⟩ := S1.out
            exact ⟨i, j + 1, mid', rfl, by go_num, by omega, s1, s2, by omega, by rw [s3]; exact own_ext (own_ext ho2 EA) Ea, gA.trans (grown_of_ext Ea)⟩
          case measure => simp [intOf]; omega
        | false =>
          rw [hp] at C
          have C := hid C
          have S1 := hid (HST.out.2 hp)
          clear hp
          have hil : i < M.length := by omega
          go_wp2_with (first | (go_at_fn fn; refine (C.out).mono ?_; rintro e wa ⟨rfl, Ea⟩; have xb := blk2 (Ea.heap bx); obtain ⟨⟨y0, w0⟩, w1, ⟨y2, w2⟩, w3⟩ := own_two (own_ext (own_ext ho2 EA) Ea) (i := i * 2) (by rw [cK_len]; omega) (.int .i64 x.1)))
          go_roundw
          case rel =>
            obtain ⟨mid', s1, s2, s3⟩ := S1.out
            have o3 := own_ext (own_ext ho2 EA) Ea
            have o4 := own_cell_set o3 (i := i * 2) (by rw [cK_len]; omega) (.int .i64 x.1)
            have o5 := own_cell_set o4 (i := i * 2 + 1) (by rw [List.length_set, cK_len]; omega) (.bool x.2)
            rw [delset_K x M i hil] at o5
            exact ⟨i + 1, j + 1, mid', by go_num, by go_num, by omega, s1, s2, by omega, by rw [s3]; exact o5, ((gA.trans (grown_of_ext Ea)).trans (set_grown _ _ _)).trans (set_grown _ _ _)⟩
          case measure => simp [intOf]; omega
      · have hjL : j = L.length := by omega
        subst hjL
        rw [List.take_of_length_le (Nat.le_refl _)] at hfi ho2
        rw [List.drop_of_length_le (Nat.le_refl _), List.append_nil] at ho2
        obtain ⟨g', cur, he, hb, hlt, hrow, hnc, hcm, hcl, htk⟩ := own_row ho2 (by omega)
        injection he with he; injection he with he
        subst he
        have hz2 : (Builtin.zeroCells (Value.agg #[.int .i64 0, .bool false]).cells (L.length - i)).size = (L.length - i) * 2 := by
          rw [size_zeroCells]; rfl
        have hz3 : (Builtin.zeroCells (Value.agg #[.int .i64 0, .bool false]).cells (L.length - i)).toList.length = (L.length - i) * 2 := hz2
        have hclr := fun ty => run_clear_row (P := Try.prog) wr 137 139 ty _ Try.underlying137 zeroDelK g (i * 2) (L.length - i) (c - i) cur (by omega) hrow (by rw [hz2, hcl]; omega) (zeroDelCK _)
        have hl3 := spl_len (cur := cur) (o := i * 2) (vs := (Builtin.zeroCells (Value.agg #[.int .i64 0, .bool false]).cells (L.length - i)).toList) (by rw [hz3, hcl]; omega)
        have ht3 := spl_take_lo (cur := cur) (o := i * 2) (m := i * 2) (vs := (Builtin.zeroCells (Value.agg #[.int .i64 0, .bool false]).cells (L.length - i)).toList) (by rw [hcl]; omega) (Nat.le_refl _)
        have hrow3 := hrow.set (spl cur (i * 2) (Builtin.zeroCells (Value.agg #[.int .i64 0, .bool false]).cells (L.length - i)).toList)
        have hB3 := row_grown wr g (spl cur (i * 2) (Builtin.zeroCells (Value.agg #[.int .i64 0, .bool false]).cells (L.length - i)).toList).toArray
        generalize spl cur (i * 2) (Builtin.zeroCells (Value.agg #[.int .i64 0, .bool false]).cells (L.length - i)).toList = cur3 at hclr hl3 ht3 hrow3 hB3
        have hcut : cur.take (i * 2) = cK (L.filter fun x => !p x) := by
          have h1 : cur.take (i * 2) = (cK ((L.filter fun x => !p x) ++ mid)).take (i * 2) := by rw [← htk, List.take_take, Nat.min_eq_left (by omega)]
          rw [h1, cK_app, List.take_left' (by rw [cK_len, hfi])]
        have HD := hid (And.intro (hl3.trans hcl) (ht3.trans hcut))
        have HCL := hid hclr
        have HF := hid hfi
        have hci : ¬ c = i := by omega
        have hi1 : (i : Int) ≤ (L.length : Int) := by omega
        have hi2 : (i : Int) ≤ (c : Int) := by omega
        clear hl3 ht3 hz2 hz3 hclr hcut htk hcl hfi ho2
        go_wp2_with (first | (refine wpList_clear_run wr rfl _ _ rfl _ (by rfl) (HCL.out _) ?_))
        go_ret
        refine ⟨_, rfl, ?_, hg.trans hB3, rfl⟩
        rw [HF.out]
        exact own_of_row hrow3 hb (by omega) hcm HD.out.1 (by rw [cK_len, HF.out]) HD.out.2
end Go.Proofs.Ytijcckhkofkenaa

/- Contracts and lemmas for the proofs of this seat; each theorem states its own conditions. -/
namespace Go.Proofs.Ytijcckhkofkenaa
open Go.RowKit Go.Maps
/-! maps whose elements are slices of one's own, read by the slice VALUE: a row's block, length and capacity -/
abbrev SV := Option (Nat × Nat × Nat)
def svV : SV → Value
  | none => .slice none 0 0
  | some (g, n, c) => .slice (some ⟨g, 0, none⟩) n c
def dV : SV → DU
  | none => .nil
  | some (g, n, c) => .agg [.lit (.int .i64 g), .lit (.int .i64 n), .lit (.int .i64 c)]
theorem dV_inj {a b : SV} (h : dV a = dV b) : a = b := by
  cases a with
  | none => cases b with
    | none => rfl
    | some b => obtain ⟨g, n, c⟩ := b; simp [dV] at h
  | some a => cases b with
    | none => obtain ⟨g, n, c⟩ := a; simp [dV] at h
    | some b =>
      obtain ⟨g, n, c⟩ := a
      obtain ⟨g', n', c'⟩ := b
      simp [dV] at h
      have h1 : g = g' := by omega
      have h2 : n = n' := by omega
      have h3 : c = c' := by omega
      rw [h1, h2, h3]
def svElem (v : Value) : Option (DU × List MemPlace) :=
  match v with
  | .slice none n c => if n = 0 ∧ c = 0 then some (.nil, []) else none
  | .slice (some a) n c => if a.off = 0 ∧ a.spot = none then some (.agg [.lit (.int .i64 a.block), .lit (.int .i64 n), .lit (.int .i64 c)], []) else none
  | _ => none
theorem svElem_mk (s : SV) : svElem (svV s) = some (dV s, []) := by
  cases s with
  | none => simp [svV, svElem, dV]
  | some s => obtain ⟨g, n, c⟩ := s; simp [svV, svElem, dV]
theorem svElem_inv {v : Value} {z : DU × List MemPlace} (h : svElem v = some z) : ∃ s, v = svV s ∧ z = (dV s, []) := by
  unfold svElem at h
  split at h
  · split at h
    · rename_i e; obtain ⟨rfl, rfl⟩ := e; exact ⟨none, rfl, (Option.some.inj h).symm⟩
    · cases h
  · rename_i a n c
    split at h
    · rename_i e
      obtain ⟨b, off, sp⟩ := a
      obtain ⟨rfl, rfl⟩ := e
      exact ⟨some (b, n, c), rfl, (Option.some.inj h).symm⟩
    · cases h
  · cases h
theorem sv_block (s : SV) : (svV s).ownBlock = s.map (·.1) := by
  cases s with
  | none => rfl
  | some s => rfl
/-- what an own row is as such a value -/
theorem sv_of_own {w : World} {B e sz n : Nat} {v : Value} {xs : List Value} (h : w.ownsRow B e sz v n xs) : ∃ s : SV, v = svV s ∧ ∀ p, s = some p → p.2.1 = n := by
  rcases h.2 with ⟨rfl, _⟩ | ⟨g, cap, cur, rfl, _⟩
  · exact ⟨none, rfl, fun p hp => by cases hp⟩
  · exact ⟨some (g, n, cap), rfl, fun p hp => by injection hp with hp; subst hp; rfl⟩
section
variable {P : Program} (w : World) {ops : Array Oper} {rest : List Oper} {o : Oper} {a : Act} {Q : Exit → Act → World → Prop}
/-- m[k] -/
theorem wpList_lookup_sv {κ : Type} {klit : κ → Lit} {ok : κ → Prop} (hg : o.guard = none) (m x : Operand) (t : TypeId) (hop : o.op = Op.lookup t m x false)
    (k e : TypeId) (K : Keyed P k) (ht : P.underlying t = some (.map k e)) (hz : (zeroValue e).run P w = .ok (.slice none 0 0) w) (b n : Nat) (D : DU) (f : κ → Option SV) (hF : MapF klit ok dV D f)
    (hm : a.eval m = .map (some b)) (hown : w.ownsMap P k svElem b n D) (key : Value) (kk : κ) (hkk : ok kk) (hx : a.eval x = key) (hkey : keyOf P k key = some (klit kk))
    (hK : wpList P ops Q rest (a.put o.dst (svV ((f kk).getD none))) w) : wpList P ops Q (o :: rest) a w := by
  refine wpList_plain hg fun K' hK' => ?_
  obtain ⟨v, ps, hrun, hv⟩ := hown.lookup K ht hz (svElem_mk none) hkey
  obtain ⟨s, rfl, hs⟩ := svElem_inv hv
  injection hs with hs _
  have := hF.look dV_inj hkk hs
  subst this
  unfold Oper.wp
  simp [execOp, hop, hm, hx, hrun, Result.andThen]
  exact hK' _ _ hK
/-- m[k], under a guard that holds -/
theorem wpList_lookup_svg {κ : Type} {klit : κ → Lit} {ok : κ → Prop} (hg : Region.wanted o (yielded ops a.tmps) = true) (m x : Operand) (t : TypeId) (hop : o.op = Op.lookup t m x false)
    (k e : TypeId) (K : Keyed P k) (ht : P.underlying t = some (.map k e)) (hz : (zeroValue e).run P w = .ok (.slice none 0 0) w) (b n : Nat) (D : DU) (f : κ → Option SV) (hF : MapF klit ok dV D f)
    (hm : a.eval m = .map (some b)) (hown : w.ownsMap P k svElem b n D) (key : Value) (kk : κ) (hkk : ok kk) (hx : a.eval x = key) (hkey : keyOf P k key = some (klit kk))
    (hK : wpList P ops Q rest (a.put o.dst (svV ((f kk).getD none))) w) : wpList P ops Q (o :: rest) a w := by
  refine wpList_step fun K' hK' => ?_
  rw [if_pos hg]
  obtain ⟨v, ps, hrun, hv⟩ := hown.lookup K ht hz (svElem_mk none) hkey
  obtain ⟨s, rfl, hs⟩ := svElem_inv hv
  injection hs with hs _
  have := hF.look dV_inj hkk hs
  subst this
  unfold Oper.wp
  simp [execOp, hop, hm, hx, hrun, Result.andThen]
  exact hK' _ _ hK
/-- v, ok := m[k] -/
theorem wpList_lookup_sv_ok {κ : Type} {klit : κ → Lit} {ok : κ → Prop} (hg : o.guard = none) (m x : Operand) (t : TypeId) (hop : o.op = Op.lookup t m x true)
    (k e : TypeId) (K : Keyed P k) (ht : P.underlying t = some (.map k e)) (hz : (zeroValue e).run P w = .ok (.slice none 0 0) w) (b n : Nat) (D : DU) (f : κ → Option SV) (hF : MapF klit ok dV D f)
    (hm : a.eval m = .map (some b)) (hown : w.ownsMap P k svElem b n D) (key : Value) (kk : κ) (hkk : ok kk) (hx : a.eval x = key) (hkey : keyOf P k key = some (klit kk))
    (hK : wpList P ops Q rest (a.put o.dst (.tuple #[svV ((f kk).getD none), .bool (f kk).isSome])) w) : wpList P ops Q (o :: rest) a w :=
  wpList_lookup_own_ok w hg m x t hop k e K ht svElem hz .nil [] (svElem_mk none) b n D hm hown key _ hx hkey (fun v ps hv => by
    obtain ⟨s, rfl, hs⟩ := svElem_inv hv
    injection hs with hs _
    have := hF.look (z := none) dV_inj hkk hs
    subst this
    rw [hF.has hkk]
    exact hK)
end
end Go.Proofs.Ytijcckhkofkenaa

/- Contracts and lemmas for the proofs of this seat; each theorem states its own conditions. -/
namespace Go.Proofs.Ytijcckhkofkenaa
/-! deeds, in plain lists -/
abbrev Vls := ByteArray → Int
def setV (v : Vls) (k : ByteArray) (n : Int) : Vls := fun x => if k = x then n else v x
/-- P10 -/
def twoB (o : GOp) : Bool := decide (o.kind = 3) || decide (o.kind = 5)
def opE (o : GOp) : Int :=
  if o.kind < 1 ∨ 5 < o.kind then 3
  else if keyB o.key = false ∨ (twoB o = true ∧ (keyB o.from_ = false ∨ o.from_ = o.key)) then 3
  else if (o.kind ≠ 3 ∧ valB o.n = false) ∨ (o.kind = 5 ∧ o.n < 0) then 1 else 0
structure OpOk (o : GOp) : Prop where
  lo : 1 ≤ o.kind
  hi : o.kind ≤ 5
  key : keyB o.key = true
  from_ : o.kind = 3 ∨ o.kind = 5 → keyB o.from_ = true ∧ o.from_ ≠ o.key
  val : o.kind ≠ 3 → -1000000000 ≤ o.n ∧ o.n ≤ 1000000000
  pos : o.kind = 5 → 0 ≤ o.n
theorem valB_iff {n : Int} : valB n = true ↔ -1000000000 ≤ n ∧ n ≤ 1000000000 := by simp [valB]
theorem op_ok {o : GOp} (h : opE o = 0) : OpOk o := by
  unfold opE at h
  split at h
  · cases h
  · rename_i h1
    split at h
    · cases h
    · rename_i h2
      split at h
      · cases h
      · rename_i h3
        rw [not_or] at h1 h2 h3
        refine ⟨by omega, by omega, by simpa using h2.1, fun hk => ?_, fun hk => ?_, fun hk => ?_⟩
        · have ht : twoB o = true := by simpa [twoB] using hk
          have := h2.2
          simp only [ht, true_and, not_or] at this
          exact ⟨by simpa using this.1, this.2⟩
        · rw [← valB_iff]
          cases hv : valB o.n with
          | true => rfl
          | false => exact absurd ⟨hk, hv⟩ h3.1
        · have := h3.2
          simp only [hk, true_and] at this
          omega
theorem opE_ok {o : GOp} (h : OpOk o) : opE o = 0 := by
  unfold opE
  rw [if_neg, if_neg, if_neg]
  · rintro (⟨a, b⟩ | ⟨a, b⟩)
    · have := valB_iff.2 (h.val a); rw [b] at this; cases this
    · have := h.pos a; omega
  · rintro (a | ⟨a, b⟩)
    · rw [h.key] at a; cases a
    · have hk : o.kind = 3 ∨ o.kind = 5 := by simpa [twoB] using a
      have := h.from_ hk
      rcases b with b | b
      · rw [this.1] at b; cases b
      · exact this.2 b
  · have := h.lo; have := h.hi; omega
abbrev Ops := List GOp
def deedE (d : Ops) : Int := if d.length = 0 ∨ 8 < d.length then 2 else firstE (fun i => opE (d.getD i ⟨0, ⟨#[]⟩, ⟨#[]⟩, 0⟩)) d.length
structure DeedOk (d : Ops) : Prop where
  lo : 1 ≤ d.length
  hi : d.length ≤ 8
  ops : ∀ o ∈ d, OpOk o
theorem deed_ok {d : Ops} (h : deedE d = 0) : DeedOk d := by
  unfold deedE at h
  split at h
  · cases h
  · rename_i h1
    refine ⟨by omega, by omega, fun o ho => ?_⟩
    obtain ⟨i, hi, rfl⟩ := List.mem_iff_getElem.1 ho
    have := firstE_all h i hi
    simp [hi] at this
    exact op_ok this
theorem deedE_ok {d : Ops} (h : DeedOk d) : deedE d = 0 := by
  have := h.lo
  have := h.hi
  unfold deedE
  rw [if_neg (by omega)]
  refine firstE_zero fun i hi => ?_
  simp [hi]
  exact opE_ok (h.ops _ (List.getElem_mem hi))
/-- an operation on values; false: it may not be -/
def doV (v : Vls) (o : GOp) : Vls × Bool :=
  if o.kind = 1 then (setV v o.key o.n, valB o.n)
  else if o.kind = 2 then (setV v o.key (v o.key + o.n), valB (v o.key + o.n))
  else if o.kind = 3 then (setV v o.key (v o.from_), valB (v o.from_))
  else if o.kind = 4 then (v, decide (o.n ≤ v o.key))
  else if v o.from_ < o.n then (v, false)
  else (setV (setV v o.from_ (v o.from_ - o.n)) o.key (v o.key + o.n), valB (v o.key + o.n))
/-- on a store -/
def doP (l : Prs) (o : GOp) : Prs × Bool :=
  if o.kind = 1 then (withP l o.key o.n, valB o.n)
  else if o.kind = 2 then (withP l o.key (valP l o.key + o.n), valB (valP l o.key + o.n))
  else if o.kind = 3 then (withP l o.key (valP l o.from_), valB (valP l o.from_))
  else if o.kind = 4 then (l, decide (o.n ≤ valP l o.key))
  else if valP l o.from_ < o.n then (l, false)
  else (withP (withP l o.from_ (valP l o.from_ - o.n)) o.key (valP l o.key + o.n), valB (valP l o.key + o.n))
theorem val_set {l : Prs} (h : srtP l) (k : ByteArray) (n : Int) : valP (withP l k n) = setV (valP l) k n := funext fun x => val_with h k n x
theorem val_do {l : Prs} (h : srtP l) (o : GOp) : valP (doP l o).1 = (doV (valP l) o).1 ∧ (doP l o).2 = (doV (valP l) o).2 := by
  unfold doP doV
  split
  · exact ⟨val_set h _ _, rfl⟩
  · split
    · exact ⟨val_set h _ _, rfl⟩
    · split
      · exact ⟨val_set h _ _, rfl⟩
      · split
        · exact ⟨rfl, rfl⟩
        · split
          · exact ⟨rfl, rfl⟩
          · exact ⟨by rw [val_set (srt_with h _ _), val_set h], rfl⟩
theorem srt_do {l : Prs} (h : srtP l) (o : GOp) : srtP (doP l o).1 := by
  unfold doP
  split
  · exact srt_with h _ _
  · split
    · exact srt_with h _ _
    · split
      · exact srt_with h _ _
      · split
        · exact h
        · split
          · exact h
          · exact srt_with (srt_with h _ _) _ _
theorem len_do (l : Prs) (o : GOp) : (doP l o).1.length ≤ l.length + 2 := by
  have h1 := fun (l : Prs) k n => with_len l k n
  unfold doP
  split
  · have := h1 l o.key o.n; simp only; omega
  · split
    · have := h1 l o.key (valP l o.key + o.n); simp only; omega
    · split
      · have := h1 l o.key (valP l o.from_); simp only; omega
      · split
        · simp
        · split
          · simp
          · have := h1 l o.from_ (valP l o.from_ - o.n)
            have := h1 (withP l o.from_ (valP l o.from_ - o.n)) o.key (valP l o.key + o.n)
            simp only; omega
theorem val_bd {l : Prs} (h : StoreOk l) (k : ByteArray) : -1000000000 ≤ valP l k ∧ valP l k ≤ 1000000000 := by
  by_cases e : valP l k = 0
  · rw [e]; omega
  · exact (h.val _ (valP_ne e)).2
theorem ok_do {l : Prs} (h : StoreOk l) {o : GOp} (ho : OpOk o) (hr : (doP l o).2 = true) : StoreOk (doP l o).1 := by
  unfold doP at hr ⊢
  split
  · rename_i e; rw [if_pos e] at hr; exact storeOk_with h ho.key (valB_iff.1 hr)
  · rename_i e1
    rw [if_neg e1] at hr
    split
    · rename_i e; rw [if_pos e] at hr; exact storeOk_with h ho.key (valB_iff.1 hr)
    · rename_i e2
      rw [if_neg e2] at hr
      split
      · rename_i e; rw [if_pos e] at hr; exact storeOk_with h ho.key (valB_iff.1 hr)
      · rename_i e3
        rw [if_neg e3] at hr
        split
        · exact h
        · rename_i e4
          rw [if_neg e4] at hr
          split
          · exact h
          · rename_i e5
            rw [if_neg e5] at hr
            have := ho.lo
            have := ho.hi
            have hk : o.kind = 5 := by omega
            have := ho.pos hk
            have := val_bd h o.from_
            exact storeOk_with (storeOk_with h (ho.from_ (.inr hk)).1 (by omega)) ho.key (valB_iff.1 hr)
def runV (v : Vls) : Ops → Option Vls
  | [] => some v
  | o :: d => if (doV v o).2 then runV (doV v o).1 d else none
def runP (l : Prs) : Ops → Option Prs
  | [] => some l
  | o :: d => if (doP l o).2 then runP (doP l o).1 d else none
theorem runP_some {d : Ops} (hd : ∀ o ∈ d, OpOk o) : ∀ {l l' : Prs}, StoreOk l → runP l d = some l' → StoreOk l' ∧ runV (valP l) d = some (valP l') := by
  induction d with
  | nil => intro l l' h e; injection e with e; subst e; exact ⟨h, rfl⟩
  | cons o d ih =>
    intro l l' h e
    obtain ⟨v1, v2⟩ := val_do h.srt o
    simp only [runP] at e
    simp only [runV]
    split at e
    · rename_i hr
      rw [← v2, if_pos hr, ← v1]
      exact ih (fun q hq => hd q (by simp [hq])) (ok_do h (hd o (by simp)) hr) e
    · cases e
theorem runP_none {d : Ops} (hd : ∀ o ∈ d, OpOk o) : ∀ {l : Prs}, StoreOk l → runP l d = none → runV (valP l) d = none := by
  induction d with
  | nil => intro l h e; cases e
  | cons o d ih =>
    intro l h e
    obtain ⟨v1, v2⟩ := val_do h.srt o
    simp only [runP] at e
    simp only [runV]
    split at e
    · rename_i hr
      rw [← v2, if_pos hr, ← v1]
      exact ih (fun q hq => hd q (by simp [hq])) (ok_do h (hd o (by simp)) hr) e
    · rename_i hr
      rw [← v2, if_neg hr]
/-- what Run answers -/
def runS (l : Prs) (d : Ops) : Prs := (runP l d).getD l
def runB (l : Prs) (d : Ops) : Bool := (runP l d).isSome
def stepV (v : Vls) (d : Ops) : Vls := (runV v d).getD v
def okV (v : Vls) (d : Ops) : Bool := (runV v d).isSome
theorem run_val {l : Prs} (h : StoreOk l) {d : Ops} (hd : ∀ o ∈ d, OpOk o) : StoreOk (runS l d) ∧ valP (runS l d) = stepV (valP l) d ∧ runB l d = okV (valP l) d := by
  unfold runS runB stepV okV
  cases e : runP l d with
  | none => rw [runP_none hd h e]; exact ⟨h, rfl, rfl⟩
  | some l' =>
    obtain ⟨a, b⟩ := runP_some hd h e
    rw [b]; exact ⟨a, rfl, rfl⟩
theorem len_run {d : Ops} : ∀ {l l' : Prs}, runP l d = some l' → l'.length ≤ l.length + 2 * d.length := by
  induction d with
  | nil => intro l l' e; injection e with e; subst e; simp
  | cons o d ih =>
    intro l l' e
    simp only [runP] at e
    split at e
    · have := ih e
      have := len_do l o
      rw [List.length_cons]; omega
    · cases e
/-! what is read and written -/
def rdO (o : GOp) : List ByteArray := if o.kind = 2 then [o.key] else if o.kind = 3 then [o.from_] else if o.kind = 4 then [o.key] else if o.kind = 5 then [o.key, o.from_] else []
def wrO (o : GOp) : List ByteArray := if o.kind = 1 then [o.key] else if o.kind = 2 then [o.key] else if o.kind = 3 then [o.key] else if o.kind = 5 then [o.key, o.from_] else []
def rds (d : Ops) : List ByteArray := d.flatMap rdO
def wrs (d : Ops) : List ByteArray := d.flatMap wrO
theorem kinds {o : GOp} (h : OpOk o) : o.kind = 1 ∨ o.kind = 2 ∨ o.kind = 3 ∨ o.kind = 4 ∨ o.kind = 5 := by
  have := h.lo; have := h.hi; omega
theorem do_keep {o : GOp} (ho : OpOk o) (v : Vls) {k : ByteArray} (hk : k ∉ wrO o) : (doV v o).1 k = v k := by
  rcases kinds ho with e | e | e | e | e
  all_goals simp [wrO, e] at hk
  · simp [doV, e, setV, Ne.symm hk]
  · simp [doV, e, setV, Ne.symm hk]
  · simp [doV, e, setV, Ne.symm hk]
  · simp [doV, e]
  · simp only [doV, e]
    simp only [show ¬ (5 : Int) = 1 by omega, show ¬ (5 : Int) = 2 by omega, show ¬ (5 : Int) = 3 by omega, show ¬ (5 : Int) = 4 by omega, if_false]
    split
    · rfl
    · simp [setV, Ne.symm hk.1, Ne.symm hk.2]
theorem do_agree {o : GOp} (ho : OpOk o) {v u : Vls} {A : ByteArray → Prop} (h : ∀ k, A k → v k = u k) (hr : ∀ k ∈ rdO o, A k) :
    (doV v o).2 = (doV u o).2 ∧ ∀ k, (A k ∨ k ∈ wrO o) → (doV v o).1 k = (doV u o).1 k := by
  rcases kinds ho with e | e | e | e | e
  all_goals simp [rdO, e] at hr
  · refine ⟨by simp [doV, e], fun k hk => ?_⟩
    simp [wrO, e] at hk
    simp only [doV, e, if_true, setV]
    split
    · rfl
    · rename_i hne; rcases hk with hk | hk
      · exact h k hk
      · exact absurd hk.symm hne
  · have q := h _ hr
    refine ⟨by simp [doV, e, q], fun k hk => ?_⟩
    simp [wrO, e] at hk
    simp [doV, e, setV, q]
    split
    · rfl
    · rename_i hne; rcases hk with hk | hk
      · exact h k hk
      · exact absurd hk.symm hne
  · have q := h _ hr
    refine ⟨by simp [doV, e, q], fun k hk => ?_⟩
    simp [wrO, e] at hk
    simp [doV, e, setV, q]
    split
    · rfl
    · rename_i hne; rcases hk with hk | hk
      · exact h k hk
      · exact absurd hk.symm hne
  · have q := h _ hr
    refine ⟨by simp [doV, e, q], fun k hk => ?_⟩
    simp [wrO, e] at hk
    simp [doV, e]
    exact h k hk
  · have q1 := h _ hr.1
    have q2 := h _ hr.2
    simp only [doV, e]
    simp only [show ¬ (5 : Int) = 1 by omega, show ¬ (5 : Int) = 2 by omega, show ¬ (5 : Int) = 3 by omega, show ¬ (5 : Int) = 4 by omega, if_false, q1, q2]
    split
    · refine ⟨rfl, fun k hk => ?_⟩
      simp [wrO, e] at hk
      rcases hk with hk | hk | hk
      · exact h k hk
      · subst hk; exact q1
      · subst hk; exact q2
    · refine ⟨rfl, fun k hk => ?_⟩
      simp [wrO, e] at hk
      simp only [setV]
      split
      · rfl
      · split
        · rfl
        · rename_i n1 n2
          rcases hk with hk | hk | hk
          · exact h k hk
          · exact absurd hk.symm n1
          · exact absurd hk.symm n2
theorem run_keep {d : Ops} (hd : ∀ o ∈ d, OpOk o) : ∀ {v v' : Vls}, runV v d = some v' → ∀ {k}, k ∉ wrs d → v' k = v k := by
  induction d with
  | nil => intro v v' e k _; injection e with e; subst e; rfl
  | cons o d ih =>
    intro v v' e k hk
    simp only [wrs, List.flatMap_cons, List.mem_append, not_or] at hk
    simp only [runV] at e
    split at e
    · rw [ih (fun q hq => hd q (by simp [hq])) e hk.2, do_keep (hd o (by simp)) v hk.1]
    · cases e
theorem step_keep {d : Ops} (hd : ∀ o ∈ d, OpOk o) (v : Vls) {k : ByteArray} (hk : k ∉ wrs d) : stepV v d k = v k := by
  unfold stepV
  cases e : runV v d with
  | none => rfl
  | some v' => exact run_keep hd e hk
theorem run_agree {d : Ops} (hd : ∀ o ∈ d, OpOk o) : ∀ {v u : Vls} {A : ByteArray → Prop}, (∀ k, A k → v k = u k) → (∀ k ∈ rds d, A k) →
    (runV v d = none ∧ runV u d = none) ∨ ∃ v' u', runV v d = some v' ∧ runV u d = some u' ∧ ∀ k, (A k ∨ k ∈ wrs d) → v' k = u' k := by
  induction d with
  | nil => intro v u A h _; exact .inr ⟨v, u, rfl, rfl, fun k hk => by rcases hk with hk | hk; (exact h k hk); (simp [wrs] at hk)⟩
  | cons o d ih =>
    intro v u A h hr
    simp only [rds, List.flatMap_cons, List.mem_append] at hr
    obtain ⟨q1, q2⟩ := do_agree (hd o (by simp)) h (fun k hk => hr k (.inl hk))
    simp only [runV, q1]
    split
    · rcases ih (fun q hq => hd q (by simp [hq])) (A := fun k => A k ∨ k ∈ wrO o) q2 (fun k hk => .inl (hr k (.inr hk))) with ⟨a, b⟩ | ⟨v', u', a, b, c⟩
      · exact .inl ⟨a, b⟩
      · refine .inr ⟨v', u', a, b, fun k hk => c k ?_⟩
        rcases hk with hk | hk
        · exact .inl (.inl hk)
        · simp only [wrs, List.flatMap_cons, List.mem_append] at hk
          rcases hk with hk | hk
          · exact .inl (.inr hk)
          · exact .inr hk
    · exact .inl ⟨rfl, rfl⟩
/-- what a deed makes hangs on what it reads -/
theorem step_agree {d : Ops} (hd : ∀ o ∈ d, OpOk o) {v u : Vls} (h : ∀ k ∈ rds d, v k = u k) :
    okV v d = okV u d ∧ (okV v d = true → ∀ k ∈ wrs d, stepV v d k = stepV u d k) := by
  rcases run_agree hd (A := fun k => k ∈ rds d) h (fun k hk => hk) with ⟨a, b⟩ | ⟨v', u', a, b, c⟩
  · unfold okV; rw [a, b]; exact ⟨rfl, fun h => by cases h⟩
  · unfold okV stepV; rw [a, b]; exact ⟨rfl, fun _ k hk => c k (.inr hk)⟩
theorem step_off {d : Ops} {v : Vls} (h : okV v d = false) : stepV v d = v := by
  unfold okV at h; unfold stepV
  cases e : runV v d with
  | none => rfl
  | some v' => rw [e] at h; cases h
/-- P13 -/
def meets (a b : List ByteArray) : Bool := a.any fun k => b.any fun j => decide (j = k)
theorem meets_iff {a b : List ByteArray} : meets a b = true ↔ ∃ k ∈ a, k ∈ b := by simp [meets, List.any_eq_true]
def clashB (a b : Ops) : Bool := meets (wrs a) (wrs b) || meets (wrs a) (rds b) || meets (rds a) (wrs b)
theorem meets_no {a b : List ByteArray} (h : meets a b = false) : ∀ k ∈ a, k ∉ b := by
  intro k hk hkb
  have := meets_iff.2 ⟨k, hk, hkb⟩
  rw [h] at this; cases this
theorem meets_symm (a b : List ByteArray) : meets a b = meets b a := by
  rw [Bool.eq_iff_iff, meets_iff, meets_iff]
  exact ⟨fun ⟨x, h, k⟩ => ⟨x, k, h⟩, fun ⟨x, h, k⟩ => ⟨x, k, h⟩⟩
theorem clash_symm (a b : Ops) : clashB a b = clashB b a := by
  unfold clashB
  rw [meets_symm (wrs b) (wrs a), meets_symm (wrs b) (rds a), meets_symm (rds b) (wrs a)]
  cases meets (wrs a) (wrs b) <;> cases meets (wrs a) (rds b) <;> cases meets (rds a) (wrs b) <;> rfl
theorem meets_congr {a a' b b' : List ByteArray} (h : ∀ k, k ∈ a ↔ k ∈ a') (g : ∀ k, k ∈ b ↔ k ∈ b') : meets a b = meets a' b' := by
  rw [Bool.eq_iff_iff, meets_iff, meets_iff]; simp only [h, g]
open Classical in
/-- Bernstein, half of it: a deed behind one that it does not clash with -/
theorem bern_half {a b : Ops} (ha : ∀ o ∈ a, OpOk o) (hb : ∀ o ∈ b, OpOk o) (hc : clashB a b = false) (v : Vls) :
    okV (stepV v a) b = okV v b ∧ ∀ k, stepV (stepV v a) b k = if k ∈ wrs b then stepV v b k else stepV v a k := by
  unfold clashB at hc
  simp only [Bool.or_eq_false_iff] at hc
  obtain ⟨⟨h1, h2⟩, h3⟩ := hc
  have m1 := meets_no h1
  have m2 := meets_no h2
  have hag : ∀ k ∈ rds b, stepV v a k = v k := fun k hk => step_keep ha v fun hw => m2 k hw hk
  obtain ⟨e1, e2⟩ := step_agree hb hag
  refine ⟨e1, fun k => ?_⟩
  split
  · rename_i hk
    cases ho : okV (stepV v a) b with
    | true => exact e2 ho k hk
    | false =>
      have hb0 : okV v b = false := by rw [← e1]; exact ho
      rw [step_off ho, step_off hb0]
      exact step_keep ha v fun hw => m1 k hw hk
  · rename_i hk; exact step_keep hb _ hk
theorem bernstein {a b : Ops} (ha : ∀ o ∈ a, OpOk o) (hb : ∀ o ∈ b, OpOk o) (hc : clashB a b = false) (v : Vls) :
    stepV (stepV v a) b = stepV (stepV v b) a ∧ okV (stepV v a) b = okV v b ∧ okV (stepV v b) a = okV v a := by
  have hc' := hc
  rw [clash_symm] at hc'
  obtain ⟨a1, a2⟩ := bern_half ha hb hc v
  obtain ⟨b1, b2⟩ := bern_half hb ha hc' v
  refine ⟨funext fun k => ?_, a1, b1⟩
  unfold clashB at hc
  simp only [Bool.or_eq_false_iff] at hc
  have m1 := meets_no hc.1.1
  rw [a2, b2]
  by_cases hk : k ∈ wrs b
  · rw [if_pos hk, if_neg (fun h => m1 k h hk)]
  · rw [if_neg hk]
    by_cases hk' : k ∈ wrs a
    · rw [if_pos hk']
    · rw [if_neg hk', step_keep ha v hk', step_keep hb v hk]
/-- all of some, one by one -/
def serV (v : Vls) : List Ops → Vls
  | [] => v
  | d :: ds => serV (stepV v d) ds
def serS (l : Prs) : List Ops → Prs
  | [] => l
  | d :: ds => serS (runS l d) ds
def serB (l : Prs) : List Ops → List Bool
  | [] => []
  | d :: ds => runB l d :: serB (runS l d) ds
theorem serB_len (l : Prs) (ds : List Ops) : (serB l ds).length = ds.length := by
  induction ds generalizing l with
  | nil => rfl
  | cons d ds ih => simp [serB, ih]
theorem ser_ok {ds : List Ops} (hd : ∀ d ∈ ds, DeedOk d) : ∀ {l : Prs}, StoreOk l → StoreOk (serS l ds) := by
  induction ds with
  | nil => intro l h; exact h
  | cons d ds ih => intro l h; exact ih (fun q hq => hd q (by simp [hq])) (run_val h (hd d (by simp)).ops).1
theorem ser_app (l : Prs) (a b : List Ops) : serS l (a ++ b) = serS (serS l a) b ∧ serB l (a ++ b) = serB l a ++ serB (serS l a) b := by
  induction a generalizing l with
  | nil => exact ⟨rfl, rfl⟩
  | cons d a ih => simp only [List.cons_append, serS, serB, (ih _).1, (ih _).2]; simp
theorem tot_with' {l : Prs} (hs : srtP l) (hz : nzP l) (k : ByteArray) (n : Int) (tot : Prs → Int) (t0 : tot [] = 0) (t1 : ∀ p l, tot (p :: l) = p.2 + tot l) : tot (withP l k n) = tot l + n - valP l k := by
  induction l with
  | nil => simp only [withP, valP]; split <;> simp [t0, t1, *]
  | cons p l ih =>
    obtain ⟨h1, h2⟩ := srtP_cons.1 hs
    have ih := ih h2 (fun q hq => hz q (by simp [hq]))
    simp only [withP, valP]
    split
    · rename_i hb
      rw [if_neg (blt_ne hb), t1, t1, ih]; omega
    · split
      · split
        · rename_i e; subst e; rw [t1]; omega
        · rw [t1, t1]; simp only; omega
      · rename_i hb hne
        have hv : valP l k = 0 := valP_lt fun q hq => by
          rcases blt_of_not (show blt p.1 k = false by simpa using hb) with e | e
          · exact absurd e hne
          · exact blt_trans e (h1 q hq)
        rw [hv]
        split
        · rename_i e; subst e; omega
        · rw [t1]; simp only; omega
theorem runP_app (l : Prs) (a b : Ops) : runP l (a ++ b) = (runP l a).bind fun l' => runP l' b := by
  induction a generalizing l with
  | nil => rfl
  | cons o a ih =>
    simp only [List.cons_append, runP]
    split
    · exact ih _
    · rfl
theorem runP_step {l l' : Prs} {d : Ops} {k : Nat} (hk : k < d.length) (h : runP l (d.take k) = some l') : runP l (d.take (k + 1)) = if (doP l' d[k]).2 then some (doP l' d[k]).1 else none := by
  rw [List.take_succ_eq_append_getElem hk, runP_app, h]
  simp [runP]
theorem runP_off {l : Prs} {d : Ops} {k : Nat} (h : runP l (d.take k) = none) : runP l d = none := by
  have e := runP_app l (d.take k) (d.drop k)
  rw [List.take_append_drop, h] at e
  exact e
theorem opsOk_take {d : Ops} (h : ∀ o ∈ d, OpOk o) (k : Nat) : ∀ o ∈ d.take k, OpOk o := fun o ho => h o (List.mem_of_mem_take ho)
end Go.Proofs.Ytijcckhkofkenaa
