/- Contracts and lemmas for the proof of TopPlan; each theorem states its own conditions. -/
import Derived.Test.YtimchedebcoohaaGreatQTopPlanap
import Derived.Test.YtimchedebcoohaaGreatQTopPlanak
import Derived.Test.YtimchedebcoohaaGreatQTopPlanaq
import Derived.Shelf.Abstract
import Derived.Maps.OwnSet
import Derived.Test.YtimchedebcoohaaGreatQTopPlanad
set_option linter.unusedVariables false
set_option linter.unusedSimpArgs false
/- Contracts and lemmas for the proofs of this seat; each theorem states its own conditions. -/
namespace Go.Proofs.YtimchedebcoohaaGreat
open Go.RowKit
/-! slices.IndexFunc, ContainsFunc, DeleteFunc at claims -/
/-- the cells of claims -/
def cK (l : List (Nat × Bool)) : List Value := l.flatMap fun c => [.int .i64 c.1, .bool c.2]
theorem cK_cons (c : Nat × Bool) (l : List (Nat × Bool)) : cK (c :: l) = .int .i64 c.1 :: .bool c.2 :: cK l := by simp [cK]
theorem cK_app (a b : List (Nat × Bool)) : cK (a ++ b) = cK a ++ cK b := by simp [cK]
theorem cK_len : ∀ l : List (Nat × Bool), (cK l).length = l.length * 2
  | [] => rfl
  | c :: l => by rw [cK_cons]; simp only [List.length_cons, cK_len l]; omega
theorem cK_at : ∀ (l : List (Nat × Bool)) (k : Nat) (hk : k < l.length), (cK l)[k * 2]? = some (.int .i64 l[k].1) ∧ (cK l)[k * 2 + 1]? = some (.bool l[k].2)
  | [], k, h => by simp at h
  | c :: l, 0, h => by simp [cK_cons]
  | c :: l, k + 1, h => by
    have := cK_at l k (by simpa using h)
    rw [show (k + 1) * 2 = k * 2 + 1 + 1 by omega, cK_cons]
    simpa using this
set_option maxRecDepth 10000 in
set_option maxHeartbeats 1000000 in
theorem indexF_K (fn : Nat) (cs : Array Value) (hen : ∀ args w, (callFunc fn args).run Tryz.prog w = .ok (.enter fn args) w) (p : Nat × Bool → Bool) (v : Value) (L : List (Nat × Bool)) (w : World) (hv : Seg w v 2 L.length (cK L))
    (hc : ∀ x ∈ L, ∀ w', Ext w w' → Calls Tryz.prog fn (#[.agg #[.int .i64 x.1, .bool x.2]] ++ cs) w' fun e w'' => e = .returned (.bool (p x)) ∧ Ext w' w'') :
    Calls Tryz.prog 126 #[v, .func (.func fn) #[] cs] w fun e w' => e = .returned (.int .i64 (firstI p L 0)) ∧ Ext w w' := by
  obtain ⟨h0, a, cap, rfl, h1, h2, h3⟩ := hv
  unfold maxLen at h2
  have H3 := hid h3
  have HC := hid hc
  clear h3 hc h0
  go_enter Tryz.func126, Tryz.ntmps126
  go_wp2
  go_loopw [5, 8] (fun _ i wr => ∃ k : Nat, k ≤ L.length ∧ i = .int .i64 k ∧ (∀ j (h : j < L.length), j < k → p L[j] = false) ∧ Ext w wr) (fun _ i _ => L.length - (intOf i).toNat)
  case atStart => exact ⟨0, Nat.zero_le _, rfl, fun j _ h => by omega, Ext.refl _⟩
  case round =>
    obtain ⟨k, hk, rfl, hn, E⟩ := hrel
    have HN := hid hn
    clear hn
    by_cases hlt : k < L.length
    · obtain ⟨b, off, rfl, hcell⟩ := H3.out (by omega)
      have x0 := E.cell (hcell (k * 2) _ (cK_at L k hlt).1)
      have x1 := E.cell (hcell (k * 2 + 1) _ (cK_at L k hlt).2)
      rw [← Nat.add_assoc] at x1
      have C := HC.out L[k] (List.getElem_mem hlt) wr E
      clear hcell
      cases hp : p L[k] with
      | true =>
        rw [hp] at C
        have C := hid C
        have hi : firstI p L 0 = (k : Int) := by
          have := firstI_hit (i := 0) hlt (fun j h' => HN.out j (by omega) h') hp
          simpa using this
        have HI := hid hi
        clear hi hp
        generalize L[k] = x at x0 x1 C
        go_wp2_with (first | (go_at_fn fn; refine (C.out).mono ?_; rintro e wa ⟨rfl, Ea⟩))
        go_ret
        exact ⟨rI HI.out.symm, E.trans Ea⟩
      | false =>
        rw [hp] at C
        have C := hid C
        have HP := hid hp
        have HS := hid (show ∀ j (h : j < L.length), j < k + 1 → p L[j] = false from fun j hj h => by
          rcases Nat.lt_or_ge j k with h' | h'
          · exact HN.out j hj h'
          · have : j = k := by omega
            subst this; exact HP.out)
        clear hp
        generalize L[k] = x at x0 x1 C
        go_wp2_with (first | (go_at_fn fn; refine (C.out).mono ?_; rintro e wa ⟨rfl, Ea⟩))
        go_roundw
        case rel => exact ⟨k + 1, by omega, by go_num, HS.out, E.trans Ea⟩
        case measure => simp [intOf]; omega
    · obtain rfl : k = L.length := by omega
      have hi : firstI p L 0 = -1 := firstI_miss fun x hx => by
        obtain ⟨j, hj, rfl⟩ := List.mem_iff_getElem.1 hx
        exact HN.out j hj hj
      have HI := hid hi
      clear hi
      go_wp2
      go_ret
      exact ⟨rI HI.out.symm, E⟩
set_option maxHeartbeats 1000000 in
theorem containsF_K (fn : Nat) (cs : Array Value) (hen : ∀ args w, (callFunc fn args).run Tryz.prog w = .ok (.enter fn args) w) (p : Nat × Bool → Bool) (v : Value) (L : List (Nat × Bool)) (w : World) (hv : Seg w v 2 L.length (cK L))
    (hc : ∀ x ∈ L, ∀ w', Ext w w' → Calls Tryz.prog fn (#[.agg #[.int .i64 x.1, .bool x.2]] ++ cs) w' fun e w'' => e = .returned (.bool (p x)) ∧ Ext w' w'') :
    Calls Tryz.prog 142 #[v, .func (.func fn) #[] cs] w fun e w' => e = .returned (.bool (L.any p)) ∧ Ext w w' := by
  have C := hid (indexF_K fn cs hen p v L w hv hc)
  have HA := hid (firstI_any (p := p) (l := L) (i := 0))
  generalize firstI p L 0 = z at C HA
  clear hc hv
  go_enter Tryz.func142, Tryz.ntmps142
  go_wp2_with fail
  refine (C.out).mono ?_
  rintro e wa ⟨rfl, Ea⟩
  go_wp2
  go_ret
  exact ⟨rB (by rw [← HA.out]), Ea⟩
theorem delset_K (x : Nat × Bool) : ∀ (l : List (Nat × Bool)) (k : Nat), k < l.length → ((cK l).set (k * 2) (.int .i64 x.1)).set (k * 2 + 1) (.bool x.2) = cK (l.set k x)
  | [], k, h => by simp at h
  | c :: l, 0, h => by simp [cK]
  | c :: l, k + 1, h => by
    have := delset_K x l k (by simpa using h)
    have e : ∀ (y : Nat × Bool) (m : List (Nat × Bool)), cK (y :: m) = [.int .i64 y.1, .bool y.2] ++ cK m := fun y m => by simp [cK]
    rw [show (k + 1) * 2 = k * 2 + 1 + 1 by omega, List.set_cons_succ, e, e, ← this]
    rfl
theorem infoDelK : (Tryz.prog.info? 181).map (fun i => (i.zero, i.size, i.bytes)) = some (some (.agg #[.int .i64 0, .bool false]), 2, 16) := by kernel_rfl
theorem zeroDelK (w : World) : (zeroValue 181).run Tryz.prog w = .ok (.agg #[.int .i64 0, .bool false]) w := Tryz.zeroValue181 w
theorem zeroDelCK (n : Nat) : ∀ v ∈ (Builtin.zeroCells (Value.agg #[.int .i64 0, .bool false]).cells n).toList, v.oneCell' = true := by
  intro v hv
  have hc : (Value.agg #[.int .i64 0, .bool false]).cells = #[.int .i64 0, .bool false] := by kernel_rfl
  rw [hc] at hv
  simp only [Builtin.zeroCells, Array.toList_map, List.mem_map] at hv
  obtain ⟨i, _, rfl⟩ := hv
  have h2 : i % 2 = 0 ∨ i % 2 = 1 := by omega
  rcases h2 with h2 | h2 <;> simp [h2, Value.oneCell']
set_option maxRecDepth 10000 in
set_option maxHeartbeats 2000000 in
theorem delF_K (B fn : Nat) (cs : Array Value) (hen : ∀ args w, (callFunc fn args).run Tryz.prog w = .ok (.enter fn args) w) (p : Nat × Bool → Bool) (v : Value) (L : List (Nat × Bool)) (w : World) (ho : w.ownsRow B 181 2 v L.length (cK L)) (hn : L.length ≤ 1000000)
    (hc : ∀ x ∈ L, ∀ w', w.grownBy w' v.ownBlock → Calls Tryz.prog fn (#[.agg #[.int .i64 x.1, .bool x.2]] ++ cs) w' fun e w'' => e = .returned (.bool (p x)) ∧ Ext w' w'') :
    Calls Tryz.prog 106 #[v, .func (.func fn) #[] cs] w fun e w' => ∃ v', e = .returned v' ∧ w'.ownsRow B 181 2 v' (L.filter fun x => !p x).length (cK (L.filter fun x => !p x)) ∧ w.grownBy w' v.ownBlock ∧ v'.ownBlock = v.ownBlock := by
  have hI := indexF_K fn cs hen p v L w (own_seg ho) (fun x hx w' E => hc x hx w' (grown_of_ext E))
  obtain ⟨a, c, rfl⟩ := own_form ho
  by_cases hany : ∀ x ∈ L, p x = false
  · rw [firstI_miss hany] at hI
    have hI := hid hI
    have hf := hid (show (L.filter fun x => !p x) = L from List.filter_eq_self.2 fun x hx => by simp [hany x hx])
    clear hany hc
    go_enter Tryz.func106, Tryz.ntmps106
    go_wp2_with fail
    refine (hI.out).mono ?_
    rintro e w1 ⟨rfl, E1⟩
    go_wp2
    go_ret
    exact ⟨_, rfl, by rw [hf.out]; exact own_ext ho E1, grown_of_ext E1, rfl⟩
  · obtain ⟨i0, hi0, hlo, hp0⟩ := first_of hany
    rw [firstI_hit hi0 (fun j h => hlo j h) hp0, Nat.zero_add] at hI
    have hI := hid hI
    obtain ⟨g, rfl, hg1, hg2, hg3, hg4⟩ := own_pos ho (by omega)
    unfold maxLen at hg4
    have HC := hid hc
    have qi : ((i0 : Int) == -1) = false := by simp
    have F0 := hid (first_fil hi0 hlo hp0)
    clear hany hc hlo hp0
    go_enter Tryz.func106, Tryz.ntmps106
    go_wp2_with fail
    refine (hI.out).mono ?_
    clear hI
    rintro e w1 ⟨rfl, E1⟩
    go_wp2_with fail
    go_loopw [5, 6, 7] (fun i6 j6 _ wr => ∃ (i j : Nat) (mid : List (Nat × Bool)), i6 = .int .i64 i ∧ j6 = .int .i64 j ∧ j ≤ L.length ∧ ((L.take j).filter fun x => !p x).length = i ∧ i + mid.length = j ∧ i < j ∧ wr.ownsRow B 181 2 (.slice (some ⟨g, 0, none⟩) L.length c) L.length (cK (((L.take j).filter fun x => !p x) ++ mid ++ L.drop j)) ∧ w.grownBy wr (some g)) (fun _ j6 _ _ => L.length - (intOf j6).toNat)
    case atStart => exact ⟨i0, i0 + 1, [L[i0]], rfl, by go_num, by omega, F0.out.1, rfl, by omega, by rw [F0.out.2]; exact own_ext ho E1, grown_of_ext E1⟩
    case round =>
      obtain ⟨i, j, mid, rfl, rfl, hj, hfi, hmid, hij, ho2, hg⟩ := hrel
      by_cases hjl : j < L.length
      · have hlen : ((((L.take j).filter fun x => !p x) ++ mid ++ L.drop j)).length = L.length := by simp only [List.length_append, List.length_drop]; omega
        have hget : (((L.take j).filter fun x => !p x) ++ mid ++ L.drop j)[j]? = some L[j] := by
          rw [List.getElem?_append_right (by simp only [List.length_append]; omega)]
          simp only [List.length_append, hfi, hmid, Nat.sub_self]
          simp [hjl]
        have hstep := del_step (p := p) hjl hfi hmid hij
        obtain ⟨_, _, he, _, _, _, hcell⟩ := seg_cells (own_seg ho2) (by omega)
        injection he with he; injection he with he1 he2
        subst he1; subst he2
        generalize hM : ((L.take j).filter fun x => !p x) ++ mid ++ L.drop j = M at ho2 hlen hget hcell hstep
        have hMj : M[j]'(by omega) = L[j] := by rw [List.getElem?_eq_getElem (by omega)] at hget; injection hget
        have x0 := hcell (j * 2) _ (cK_at M j (by omega)).1
        have x1 := hcell (j * 2 + 1) _ (cK_at M j (by omega)).2
        rw [hMj, Nat.zero_add] at x0 x1
        have hmem := List.getElem_mem hjl
        clear hcell hget hMj hM
        have HST := hid hstep
        clear hstep
        generalize L[j] = x at x0 x1 hmem HST
        have bx := heap_alloc_new wr (.cells #[.int .i64 x.1, .bool x.2] 181)
        have EA := (Ext.refl wr).alloc (.cells #[.int .i64 x.1, .bool x.2] 181)
        have gA := hg.trans (grown_of_ext EA)
        have C := HC.out x hmem (wr.alloc (.cells #[.int .i64 x.1, .bool x.2] 181)) gA
        cases hp : p x with
        | true =>
          rw [hp] at C
          have C := hid C
          have S1 := hid (HST.out.1 hp)
          clear hp
          have xb := blk2 bx
          go_wp2_with (first | (go_at_fn fn; refine (C.out).mono ?_; rintro e wa ⟨rfl, Ea⟩))
          go_roundw
          case rel =>
            obtain ⟨mid', s1, s2, s3⟩ := S1.out
            exact ⟨i, j + 1, mid', rfl, by go_num, by omega, s1, s2, by omega, by rw [s3]; exact own_ext (own_ext ho2 EA) Ea, gA.trans (grown_of_ext Ea)⟩
          case measure => simp [intOf]; omega
        | false =>
          rw [hp] at C
          have C := hid C
          have S1 := hid (HST.out.2 hp)
          clear hp
          have hil : i < M.length := by omega
          go_wp2_with (first | (go_at_fn fn; refine (C.out).mono ?_; rintro e wa ⟨rfl, Ea⟩; have xb := blk2 (Ea.heap bx); obtain ⟨⟨y0, w0⟩, w1, ⟨y2, w2⟩, w3⟩ := own_two (own_ext (own_ext ho2 EA) Ea) (i := i * 2) (by rw [cK_len]; omega) (.int .i64 x.1)))
          go_roundw
          case rel =>
            obtain ⟨mid', s1, s2, s3⟩ := S1.out
            have o3 := own_ext (own_ext ho2 EA) Ea
            have o4 := own_cell_set o3 (i := i * 2) (by rw [cK_len]; omega) (.int .i64 x.1)
            have o5 := own_cell_set o4 (i := i * 2 + 1) (by rw [List.length_set, cK_len]; omega) (.bool x.2)
            rw [delset_K x M i hil] at o5
            exact ⟨i + 1, j + 1, mid', by go_num, by go_num, by omega, s1, s2, by omega, by rw [s3]; exact o5, ((gA.trans (grown_of_ext Ea)).trans (set_grown _ _ _)).trans (set_grown _ _ _)⟩
          case measure => simp [intOf]; omega
      · have hjL : j = L.length := by omega
        subst hjL
        rw [List.take_of_length_le (Nat.le_refl _)] at hfi ho2
        rw [List.drop_of_length_le (Nat.le_refl _), List.append_nil] at ho2
        obtain ⟨g', cur, he, hb, hlt, hrow, hnc, hcm, hcl, htk⟩ := own_row ho2 (by omega)
        injection he with he; injection he with he
        subst he
        have hz2 : (Builtin.zeroCells (Value.agg #[.int .i64 0, .bool false]).cells (L.length - i)).size = (L.length - i) * 2 := by
          rw [size_zeroCells]; rfl
        have hz3 : (Builtin.zeroCells (Value.agg #[.int .i64 0, .bool false]).cells (L.length - i)).toList.length = (L.length - i) * 2 := hz2
        have hclr := fun ty => run_clear_row (P := Tryz.prog) wr 178 181 ty _ Tryz.underlying178 zeroDelK g (i * 2) (L.length - i) (c - i) cur (by omega) hrow (by rw [hz2, hcl]; omega) (zeroDelCK _)
        have hl3 := spl_len (cur := cur) (o := i * 2) (vs := (Builtin.zeroCells (Value.agg #[.int .i64 0, .bool false]).cells (L.length - i)).toList) (by rw [hz3, hcl]; omega)
        have ht3 := spl_take_lo (cur := cur) (o := i * 2) (m := i * 2) (vs := (Builtin.zeroCells (Value.agg #[.int .i64 0, .bool false]).cells (L.length - i)).toList) (by rw [hcl]; omega) (Nat.le_refl _)
        have hrow3 := hrow.set (spl cur (i * 2) (Builtin.zeroCells (Value.agg #[.int .i64 0, .bool false]).cells (L.length - i)).toList)
        have hB3 := row_grown wr g (spl cur (i * 2) (Builtin.zeroCells (Value.agg #[.int .i64 0, .bool false]).cells (L.length - i)).toList).toArray
        generalize spl cur (i * 2) (Builtin.zeroCells (Value.agg #[.int .i64 0, .bool false]).cells (L.length - i)).toList = cur3 at hclr hl3 ht3 hrow3 hB3
        have hcut : cur.take (i * 2) = cK (L.filter fun x => !p x) := by
          have h1 : cur.take (i * 2) = (cK ((L.filter fun x => !p x) ++ mid)).take (i * 2) := by rw [← htk, List.take_take, Nat.min_eq_left (by omega)]
          rw [h1, cK_app, List.take_left' (by rw [cK_len, hfi])]
        have HD := hid (And.intro (hl3.trans hcl) (ht3.trans hcut))
        have HCL := hid hclr
        have HF := hid hfi
        have hci : ¬ c = i := by omega
        have hi1 : (i : Int) ≤ (L.length : Int) := by omega
        have hi2 : (i : Int) ≤ (c : Int) := by omega
        clear hl3 ht3 hz2 hz3 hclr hcut htk hcl hfi ho2
        go_wp2_with (first | (refine wpList_clear_run wr rfl _ _ rfl _ (by rfl) (HCL.out _) ?_))
        go_ret
        refine ⟨_, rfl, ?_, hg.trans hB3, rfl⟩
        rw [HF.out]
        exact own_of_row hrow3 hb (by omega) hcm HD.out.1 (by rw [cK_len, HF.out]) HD.out.2
end Go.Proofs.YtimchedebcoohaaGreat

/- Contracts and lemmas for the proofs of this seat; each theorem states its own conditions. -/
namespace Go.Proofs.YtimchedebcoohaaGreat
open Go.RowKit Go.Maps
/-! maps whose elements are slices of one's own, read by the slice VALUE: a row's block, length and capacity -/
abbrev SV := Option (Nat × Nat × Nat)
def svV : SV → Value
  | none => .slice none 0 0
  | some (g, n, c) => .slice (some ⟨g, 0, none⟩) n c
def dV : SV → DU
  | none => .nil
  | some (g, n, c) => .agg [.lit (.int .i64 g), .lit (.int .i64 n), .lit (.int .i64 c)]
theorem dV_inj {a b : SV} (h : dV a = dV b) : a = b := by
  cases a with
  | none => cases b with
    | none => rfl
    | some b => obtain ⟨g, n, c⟩ := b; simp [dV] at h
  | some a => cases b with
    | none => obtain ⟨g, n, c⟩ := a; simp [dV] at h
    | some b =>
      obtain ⟨g, n, c⟩ := a
      obtain ⟨g', n', c'⟩ := b
      simp [dV] at h
      have h1 : g = g' := by omega
      have h2 : n = n' := by omega
      have h3 : c = c' := by omega
      rw [h1, h2, h3]
def svElem (v : Value) : Option (DU × List MemPlace) :=
  match v with
  | .slice none n c => if n = 0 ∧ c = 0 then some (.nil, []) else none
  | .slice (some a) n c => if a.off = 0 ∧ a.spot = none then some (.agg [.lit (.int .i64 a.block), .lit (.int .i64 n), .lit (.int .i64 c)], []) else none
  | _ => none
theorem svElem_mk (s : SV) : svElem (svV s) = some (dV s, []) := by
  cases s with
  | none => simp [svV, svElem, dV]
  | some s => obtain ⟨g, n, c⟩ := s; simp [svV, svElem, dV]
theorem svElem_inv {v : Value} {z : DU × List MemPlace} (h : svElem v = some z) : ∃ s, v = svV s ∧ z = (dV s, []) := by
  unfold svElem at h
  split at h
  · split at h
    · rename_i e; obtain ⟨rfl, rfl⟩ := e; exact ⟨none, rfl, (Option.some.inj h).symm⟩
    · cases h
  · rename_i a n c
    split at h
    · rename_i e
      obtain ⟨b, off, sp⟩ := a
      obtain ⟨rfl, rfl⟩ := e
      exact ⟨some (b, n, c), rfl, (Option.some.inj h).symm⟩
    · cases h
  · cases h
/-- what an own row is as such a value -/
theorem sv_of_own {w : World} {B e sz n : Nat} {v : Value} {xs : List Value} (h : w.ownsRow B e sz v n xs) : ∃ s : SV, v = svV s ∧ ∀ p, s = some p → p.2.1 = n := by
  rcases h.2 with ⟨rfl, _⟩ | ⟨g, cap, cur, rfl, _⟩
  · exact ⟨none, rfl, fun p hp => by cases hp⟩
  · exact ⟨some (g, n, cap), rfl, fun p hp => by injection hp with hp; subst hp; rfl⟩
section
variable {P : Program} (w : World) {ops : Array Oper} {rest : List Oper} {o : Oper} {a : Act} {Q : Exit → Act → World → Prop}
/-- m[k] -/
theorem wpList_lookup_sv {κ : Type} {klit : κ → Lit} {ok : κ → Prop} (hg : o.guard = none) (m x : Operand) (t : TypeId) (hop : o.op = Op.lookup t m x false)
    (k e : TypeId) (K : Keyed P k) (ht : P.underlying t = some (.map k e)) (hz : (zeroValue e).run P w = .ok (.slice none 0 0) w) (b n : Nat) (D : DU) (f : κ → Option SV) (hF : MapF klit ok dV D f)
    (hm : a.eval m = .map (some b)) (hown : w.ownsMap P k svElem b n D) (key : Value) (kk : κ) (hkk : ok kk) (hx : a.eval x = key) (hkey : Go.keyOf P k key = some (klit kk))
    (hK : wpList P ops Q rest (a.put o.dst (svV ((f kk).getD none))) w) : wpList P ops Q (o :: rest) a w := by
  refine wpList_plain hg fun K' hK' => ?_
  obtain ⟨v, ps, hrun, hv⟩ := hown.lookup K ht hz (svElem_mk none) hkey
  obtain ⟨s, rfl, hs⟩ := svElem_inv hv
  injection hs with hs _
  have := hF.look dV_inj hkk hs
  subst this
  unfold Oper.wp
  simp [execOp, hop, hm, hx, hrun, Result.andThen]
  exact hK' _ _ hK
/-- m[k], under a guard that holds -/
theorem wpList_lookup_svg {κ : Type} {klit : κ → Lit} {ok : κ → Prop} (hg : Region.wanted o (yielded ops a.tmps) = true) (m x : Operand) (t : TypeId) (hop : o.op = Op.lookup t m x false)
    (k e : TypeId) (K : Keyed P k) (ht : P.underlying t = some (.map k e)) (hz : (zeroValue e).run P w = .ok (.slice none 0 0) w) (b n : Nat) (D : DU) (f : κ → Option SV) (hF : MapF klit ok dV D f)
    (hm : a.eval m = .map (some b)) (hown : w.ownsMap P k svElem b n D) (key : Value) (kk : κ) (hkk : ok kk) (hx : a.eval x = key) (hkey : Go.keyOf P k key = some (klit kk))
    (hK : wpList P ops Q rest (a.put o.dst (svV ((f kk).getD none))) w) : wpList P ops Q (o :: rest) a w := by
  refine wpList_step fun K' hK' => ?_
  rw [if_pos hg]
  obtain ⟨v, ps, hrun, hv⟩ := hown.lookup K ht hz (svElem_mk none) hkey
  obtain ⟨s, rfl, hs⟩ := svElem_inv hv
  injection hs with hs _
  have := hF.look dV_inj hkk hs
  subst this
  unfold Oper.wp
  simp [execOp, hop, hm, hx, hrun, Result.andThen]
  exact hK' _ _ hK
/-- v, ok := m[k] -/
theorem wpList_lookup_sv_ok {κ : Type} {klit : κ → Lit} {ok : κ → Prop} (hg : o.guard = none) (m x : Operand) (t : TypeId) (hop : o.op = Op.lookup t m x true)
    (k e : TypeId) (K : Keyed P k) (ht : P.underlying t = some (.map k e)) (hz : (zeroValue e).run P w = .ok (.slice none 0 0) w) (b n : Nat) (D : DU) (f : κ → Option SV) (hF : MapF klit ok dV D f)
    (hm : a.eval m = .map (some b)) (hown : w.ownsMap P k svElem b n D) (key : Value) (kk : κ) (hkk : ok kk) (hx : a.eval x = key) (hkey : Go.keyOf P k key = some (klit kk))
    (hK : wpList P ops Q rest (a.put o.dst (.tuple #[svV ((f kk).getD none), .bool (f kk).isSome])) w) : wpList P ops Q (o :: rest) a w :=
  wpList_lookup_own_ok w hg m x t hop k e K ht svElem hz .nil [] (svElem_mk none) b n D hm hown key _ hx hkey (fun v ps hv => by
    obtain ⟨s, rfl, hs⟩ := svElem_inv hv
    injection hs with hs _
    have := hF.look (z := none) dV_inj hkk hs
    subst this
    rw [hF.has hkk]
    exact hK)
end
end Go.Proofs.YtimchedebcoohaaGreat

/- Contracts and lemmas for the proofs of this seat; each theorem states its own conditions. -/
namespace Go.Proofs.YtimchedebcoohaaGreat
/-! the table of claims, in plain lists -/
def memB (l : List ByteArray) (k : ByteArray) : Bool := l.any fun j => decide (j = k)
theorem memB_iff {l : List ByteArray} {k : ByteArray} : memB l k = true ↔ k ∈ l := by simp [memB]
theorem memB_not {l : List ByteArray} {k : ByteArray} : memB l k = false ↔ k ∉ l := by
  rw [← memB_iff]; simp
theorem getD_app {α : Type} {l l' : List α} {n : Nat} {z : α} (h : n < l.length) : (l ++ l').getD n z = l.getD n z := by
  simp [List.getD, List.getElem?_append_left h]
def tchB (d : Ops) (k : ByteArray) : Bool := memB (rds d) k || memB (wrs d) k
theorem tchB_iff {d : Ops} {k : ByteArray} : tchB d k = true ↔ k ∈ rds d ∨ k ∈ wrs d := by simp [tchB, memB_iff]
abbrev Clm := List (Nat × Bool)
def clm1 (A : List Ops) (g : Nat → Bool) (k : ByteArray) (s : Nat) : Clm := if g s = false ∧ tchB (A.getD s []) k = true then [(s, memB (wrs (A.getD s [])) k)] else []
/-- the claims to a key, of the first n deeds -/
def clmTo (A : List Ops) (g : Nat → Bool) (k : ByteArray) : Nat → Clm
  | 0 => []
  | n + 1 => clmTo A g k n ++ clm1 A g k n
theorem clm1_fst {A : List Ops} {g : Nat → Bool} {k : ByteArray} {s : Nat} {c : Nat × Bool} (h : c ∈ clm1 A g k s) : c = (s, memB (wrs (A.getD s [])) k) ∧ g s = false ∧ tchB (A.getD s []) k = true := by
  unfold clm1 at h
  split at h
  · rename_i e; exact ⟨by simpa using h, e⟩
  · cases h
theorem clm_mem {A : List Ops} {g : Nat → Bool} {k : ByteArray} : ∀ {n : Nat} {c : Nat × Bool}, c ∈ clmTo A g k n ↔ c.1 < n ∧ g c.1 = false ∧ tchB (A.getD c.1 []) k = true ∧ c.2 = memB (wrs (A.getD c.1 [])) k
  | 0, c => by simp [clmTo]
  | n + 1, c => by
    rw [clmTo, List.mem_append, clm_mem]
    constructor
    · rintro (⟨a, b⟩ | h)
      · exact ⟨by omega, b⟩
      · obtain ⟨rfl, h1, h2⟩ := clm1_fst h
        exact ⟨by simp, h1, h2, rfl⟩
    · rintro ⟨a, b1, b2, b3⟩
      by_cases e : c.1 < n
      · exact .inl ⟨e, b1, b2, b3⟩
      · right
        have e : c.1 = n := by omega
        obtain ⟨c1, c2⟩ := c
        dsimp only at *
        subst e
        unfold clm1
        rw [if_pos ⟨b1, b2⟩, b3]; simp
/-- has s what it claims? by the program's road -/
def holdsG (first mine : Bool) (s : Nat) : Clm → Bool
  | [] => false
  | c :: r => if c.1 = s then first || (!c.2 && !mine) else holdsG false (mine || c.2) s r
def holdsL (l : Clm) (s : Nat) : Bool := holdsG true false s l
theorem holdsG_pre {s : Nat} {r : Clm} : ∀ {pre : Clm} {f m : Bool}, (∀ c ∈ pre, c.1 ≠ s) → holdsG f m s (pre ++ r) = holdsG (f && pre.isEmpty) (m || pre.any (·.2)) s r
  | [], f, m, _ => by simp
  | c :: pre, f, m, h => by
    rw [List.cons_append, holdsG, if_neg (h c (by simp)), holdsG_pre fun d hd => h d (by simp [hd])]
    simp [Bool.or_assoc]
theorem clm_split {A : List Ops} {g : Nat → Bool} {k : ByteArray} {s : Nat} : ∀ {n : Nat}, s < n → ∃ r, clmTo A g k n = clmTo A g k s ++ clm1 A g k s ++ r
  | 0, h => by omega
  | n + 1, h => by
    rcases Nat.lt_or_ge s n with h' | h'
    · obtain ⟨r, hr⟩ := clm_split (A := A) (g := g) (k := k) h'
      exact ⟨r ++ clm1 A g k n, by rw [clmTo, hr]; simp⟩
    · obtain rfl : s = n := by omega
      exact ⟨[], by rw [clmTo]; simp⟩
theorem holds_iff {A : List Ops} {g : Nat → Bool} {k : ByteArray} {s n : Nat} (hs : s < n) (hg : g s = false) (ht : tchB (A.getD s []) k = true) :
    holdsL (clmTo A g k n) s = true ↔ ∀ t, t < s → g t = false → tchB (A.getD t []) k = true → memB (wrs (A.getD s [])) k = false ∧ memB (wrs (A.getD t [])) k = false := by
  obtain ⟨r, hr⟩ := clm_split (A := A) (g := g) (k := k) hs
  unfold holdsL
  rw [hr, List.append_assoc, holdsG_pre (fun c hc => by have := (clm_mem.1 hc).1; omega)]
  have e : clm1 A g k s = [(s, memB (wrs (A.getD s [])) k)] := by unfold clm1; rw [if_pos ⟨hg, ht⟩]
  rw [e]
  simp only [List.cons_append, holdsG, if_true, Bool.true_and, Bool.false_or, Bool.or_eq_true, Bool.and_eq_true, Bool.not_eq_true', List.isEmpty_iff]
  constructor
  · rintro (h | ⟨h1, h2⟩) t ht' hgt htt
    · have : ((t, memB (wrs (A.getD t [])) k) : Nat × Bool) ∈ clmTo A g k s := clm_mem.2 ⟨ht', hgt, htt, rfl⟩
      rw [h] at this; cases this
    · refine ⟨h1, ?_⟩
      rw [List.any_eq_false] at h2
      have := h2 (t, memB (wrs (A.getD t [])) k) (clm_mem.2 ⟨ht', hgt, htt, rfl⟩)
      simpa using this
  · intro h
    by_cases e0 : clmTo A g k s = []
    · exact .inl e0
    · right
      obtain ⟨c, hc⟩ := List.exists_mem_of_ne_nil _ e0
      obtain ⟨c1, c2, c3, c4⟩ := clm_mem.1 hc
      refine ⟨(h c.1 c1 c2 c3).1, ?_⟩
      rw [List.any_eq_false]
      intro d hd
      obtain ⟨d1, d2, d3, d4⟩ := clm_mem.1 hd
      rw [d4, (h d.1 d1 d2 d3).2]; simp
/-- may it go on? by the document -/
def mayB (A : List Ops) (g : Nat → Bool) (s : Nat) : Bool := (List.range s).all fun t => g t || !clashB (A.getD t []) (A.getD s [])
theorem mayB_iff {A : List Ops} {g : Nat → Bool} {s : Nat} : mayB A g s = true ↔ ∀ t, t < s → g t = false → clashB (A.getD t []) (A.getD s []) = false := by
  simp only [mayB, List.all_eq_true, List.mem_range, Bool.or_eq_true, Bool.not_eq_true']
  constructor
  · intro h t ht hg
    rcases h t ht with e | e
    · rw [hg] at e; cases e
    · exact e
  · intro h t ht
    cases hg : g t with
    | true => exact .inl rfl
    | false => exact .inr (h t ht hg)
theorem clash_no {a b : Ops} : clashB a b = false ↔ ∀ k, tchB a k = true → tchB b k = true → memB (wrs a) k = false ∧ memB (wrs b) k = false := by
  have mf : ∀ x y : List ByteArray, meets x y = false ↔ ∀ k ∈ x, k ∉ y := fun x y => by
    constructor
    · exact fun h => meets_no h
    · intro h
      cases e : meets x y with
      | false => rfl
      | true => obtain ⟨k, h1, h2⟩ := meets_iff.1 e; exact absurd h2 (h k h1)
  unfold clashB
  simp only [Bool.or_eq_false_iff, mf, tchB_iff, memB_not]
  constructor
  · rintro ⟨⟨h1, h2⟩, h3⟩ k ha hb
    constructor
    · intro hw
      rcases hb with hb | hb
      · exact h2 k hw hb
      · exact h1 k hw hb
    · intro hw
      rcases ha with ha | ha
      · exact h3 k ha hw
      · exact h1 k ha hw
  · intro h
    exact ⟨⟨fun k ha hb => (h k (.inr ha) (.inr hb)).1 ha, fun k ha hb => (h k (.inr ha) (.inl hb)).1 ha⟩, fun k ha hb => (h k (.inl ha) (.inr hb)).2 hb⟩
theorem may_iff {A : List Ops} {g : Nat → Bool} {s n : Nat} (hs : s < n) (hg : g s = false) {L : List ByteArray} (hL : ∀ k, k ∈ L ↔ tchB (A.getD s []) k = true) :
    (∀ k ∈ L, holdsL (clmTo A g k n) s = true) ↔ mayB A g s = true := by
  rw [mayB_iff]
  constructor
  · intro h t ht hgt
    rw [clash_no]
    intro k hk1 hk2
    have := (holds_iff hs hg hk2).1 (h k ((hL k).2 hk2)) t ht hgt hk1
    exact ⟨this.2, this.1⟩
  · intro h k hk
    have hk2 := (hL k).1 hk
    rw [holds_iff hs hg hk2]
    intro t ht hgt htt
    have := clash_no.1 (h t ht hgt) k htt hk2
    exact ⟨this.2, this.1⟩
/-- one that goes -/
def goneW (g : Nat → Bool) (s : Nat) : Nat → Bool := fun t => if t = s then true else g t
theorem clm1_gone {A : List Ops} {g : Nat → Bool} {k : ByteArray} (s t : Nat) : clm1 A (goneW g s) k t = (clm1 A g k t).filter (fun c => !decide (c.1 = s)) := by
  unfold clm1 goneW
  by_cases e : t = s
  · subst e
    simp only [if_true, Bool.true_eq_false, false_and, if_false]
    split
    · simp
    · rfl
  · simp only [if_neg e]
    split
    · simp [e]
    · rfl
theorem clm_gone {A : List Ops} {g : Nat → Bool} {k : ByteArray} (s : Nat) : ∀ n, clmTo A (goneW g s) k n = (clmTo A g k n).filter (fun c => !decide (c.1 = s))
  | 0 => rfl
  | n + 1 => by rw [clmTo, clmTo, List.filter_append, clm_gone s n, clm1_gone]
theorem clm_off {A : List Ops} {g : Nat → Bool} {k : ByteArray} {s : Nat} (h : tchB (A.getD s []) k = false) (n : Nat) : clmTo A (goneW g s) k n = clmTo A g k n := by
  rw [clm_gone, List.filter_eq_self]
  intro c hc
  obtain ⟨_, _, h3, _⟩ := clm_mem.1 hc
  have : c.1 ≠ s := fun e => by rw [e, h] at h3; cases h3
  simp [this]
theorem clm_grow {A B : List Ops} {g : Nat → Bool} {k : ByteArray} : ∀ {n : Nat}, n ≤ A.length → clmTo (A ++ B) g k n = clmTo A g k n
  | 0, _ => rfl
  | n + 1, h => by
    rw [clmTo, clmTo, clm_grow (by omega)]
    unfold clm1
    rw [getD_app (by omega)]
theorem clm_add {A : List Ops} {g : Nat → Bool} {k : ByteArray} {d : Ops} (hg : g A.length = false) : clmTo (A ++ [d]) g k (A.length + 1) = clmTo A g k A.length ++ (if tchB d k = true then [(A.length, memB (wrs d) k)] else []) := by
  rw [clmTo, clm_grow (Nat.le_refl _)]
  unfold clm1
  have e : (A ++ [d]).getD A.length [] = d := by simp
  rw [e, hg]
  simp
/-- those that may go on -/
def readyL (A : List Ops) (g : Nat → Bool) (n : Nat) : List Nat := (List.range n).filter fun s => !g s && mayB A g s
theorem ready_mem {A : List Ops} {g : Nat → Bool} {n s : Nat} : s ∈ readyL A g n ↔ s < n ∧ g s = false ∧ mayB A g s = true := by
  simp [readyL]
theorem ready_succ (A : List Ops) (g : Nat → Bool) (n : Nat) : readyL A g (n + 1) = readyL A g n ++ if (!g n && mayB A g n) = true then [n] else [] := by
  unfold readyL
  rw [List.range_succ, List.filter_append]
  congr 1
  simp only [List.filter_cons, List.filter_nil]
def liveN (g : Nat → Bool) : Nat → Nat
  | 0 => 0
  | n + 1 => liveN g n + if g n = false then 1 else 0
theorem live_none {g : Nat → Bool} : ∀ {n : Nat}, liveN g n = 0 → ∀ t < n, g t = true
  | 0, _, t, ht => by omega
  | n + 1, h, t, ht => by
    simp only [liveN] at h
    split at h
    · omega
    · rename_i hn
      rcases Nat.lt_or_ge t n with h' | h'
      · exact live_none (by omega) t h'
      · obtain rfl : t = n := by omega
        simpa using hn
theorem live_gone {g : Nat → Bool} {s : Nat} (hg : g s = false) : ∀ {n : Nat}, (s < n → liveN (goneW g s) n + 1 = liveN g n) ∧ (n ≤ s → liveN (goneW g s) n = liveN g n)
  | 0 => ⟨fun h => by omega, fun _ => rfl⟩
  | n + 1 => by
    obtain ⟨h1, h2⟩ := live_gone (s := s) hg (n := n)
    refine ⟨fun h => ?_, fun h => ?_⟩
    · simp only [liveN]
      rcases Nat.lt_or_ge s n with h' | h'
      · have := h1 h'
        have e : goneW g s n = g n := by unfold goneW; rw [if_neg (by omega)]
        rw [e]; omega
      · obtain rfl : s = n := by omega
        have := h2 (Nat.le_refl _)
        have e : goneW g s s = true := by unfold goneW; rw [if_pos rfl]
        rw [e, hg, this]; simp
    · simp only [liveN]
      rw [h2 (by omega)]
      have e : goneW g s n = g n := by unfold goneW; rw [if_neg (by omega)]
      rw [e]
/-- the first one that is there may go on -/
theorem ready_some {A : List Ops} {g : Nat → Bool} {n : Nat} (h : 0 < liveN g n) : readyL A g n ≠ [] := by
  have : ∃ t, t < n ∧ g t = false := by
    refine Classical.byContradiction fun hne => ?_
    have hall : ∀ t < n, g t = true := fun t ht => by
      cases e : g t with
      | true => rfl
      | false => exact absurd ⟨t, ht, e⟩ hne
    have : ∀ m ≤ n, liveN g m = 0 := by
      intro m
      induction m with
      | zero => intro _; rfl
      | succ m ih => intro hm; simp only [liveN]; rw [ih (by omega), hall m (by omega)]; simp
    have := this n (Nat.le_refl _)
    omega
  obtain ⟨t, ht, hgt⟩ := this
  have hex : ∃ s, s ≤ t ∧ g s = false ∧ ∀ u < s, g u = true := by
    clear ht h
    induction t using Nat.strongRecOn with
    | _ t ih =>
      by_cases h : ∃ u, u < t ∧ g u = false
      · obtain ⟨u, hu, hgu⟩ := h
        obtain ⟨s, h1, h2, h3⟩ := ih u hu hgu
        exact ⟨s, by omega, h2, h3⟩
      · refine ⟨t, Nat.le_refl _, hgt, fun u hu => ?_⟩
        cases e : g u with
        | true => rfl
        | false => exact absurd ⟨u, hu, e⟩ h
  obtain ⟨s, h1, h2, h3⟩ := hex
  have : s ∈ readyL A g n := ready_mem.2 ⟨by omega, h2, mayB_iff.2 fun u hu hgu => by rw [h3 u hu] at hgu; cases hgu⟩
  intro e; rw [e] at this; cases this
theorem live_le (g : Nat → Bool) (n : Nat) : liveN g n ≤ n := by
  induction n with
  | zero => exact Nat.le_refl _
  | succ n ih => simp only [liveN]; split <;> omega
theorem live_all {g : Nat → Bool} {n : Nat} (h : ∀ t < n, g t = false) : liveN g n = n := by
  induction n with
  | zero => rfl
  | succ n ih => simp only [liveN]; rw [ih (fun t ht => h t (by omega)), h n (by omega)]; simp
theorem rd_key {d : Ops} (h : DeedOk d) : ∀ k ∈ rds d, keyB k = true := fun k hk => by
  obtain ⟨o, ho, hk⟩ := List.mem_flatMap.1 hk
  have oo := h.ops o ho
  rcases kinds oo with e | e | e | e | e
  all_goals simp [rdO, e] at hk
  · rw [hk]; exact oo.key
  · rw [hk]; exact (oo.from_ (.inl e)).1
  · rw [hk]; exact oo.key
  · rcases hk with hk | hk
    · rw [hk]; exact oo.key
    · rw [hk]; exact (oo.from_ (.inr e)).1
theorem wr_key {d : Ops} (h : DeedOk d) : ∀ k ∈ wrs d, keyB k = true := fun k hk => by
  obtain ⟨o, ho, hk⟩ := List.mem_flatMap.1 hk
  have oo := h.ops o ho
  rcases kinds oo with e | e | e | e | e
  all_goals simp [wrO, e] at hk
  · rw [hk]; exact oo.key
  · rw [hk]; exact oo.key
  · rw [hk]; exact oo.key
  · rcases hk with hk | hk
    · rw [hk]; exact oo.key
    · rw [hk]; exact (oo.from_ (.inr e)).1
theorem tch_key {d : Ops} (h : DeedOk d) {k : ByteArray} (hk : tchB d k = true) : keyB k = true := by
  rcases tchB_iff.1 hk with e | e
  · exact rd_key h k e
  · exact wr_key h k e
theorem may_any' {A : List Ops} {g : Nat → Bool} {s n : Nat} (hs : s < n) (hg : g s = false) {L : List ByteArray} (hL : ∀ k, k ∈ L ↔ tchB (A.getD s []) k = true) :
    (!(L.any fun k => !holdsL (clmTo A g k n) s)) = mayB A g s := by
  rw [Bool.eq_iff_iff, ← may_iff hs hg hL]
  simp [List.any_eq_true]
end Go.Proofs.YtimchedebcoohaaGreat
