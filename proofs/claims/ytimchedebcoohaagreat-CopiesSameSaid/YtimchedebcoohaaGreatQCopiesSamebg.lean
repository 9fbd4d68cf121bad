/- Contracts and lemmas for the proof of CopiesSame; each theorem states its own conditions. -/
import Derived.Test.YtimchedebcoohaaGreatQCopiesSameap
import Derived.Test.YtimchedebcoohaaGreatQCopiesSameak
import Derived.Test.YtimchedebcoohaaGreatQCopiesSamear
import Derived.Shelf.Abstract
import Derived.Test.YtimchedebcoohaaGreatQCopiesSameah
import Derived.Test.YtimchedebcoohaaGreatQCopiesSamean
import Derived.Test.YtimchedebcoohaaGreatQCopiesSamebe
import Derived.Test.YtimchedebcoohaaGreatQCopiesSameaf
import Derived.Test.YtimchedebcoohaaGreatQCopiesSameat
import Derived.Test.YtimchedebcoohaaGreatQCopiesSamebf
import Derived.Test.YtimchedebcoohaaGreatQCopiesSameas
import Derived.Test.YtimchedebcoohaaGreatQCopiesSameau
import Derived.Test.YtimchedebcoohaaGreatQCopiesSameay
set_option linter.unusedVariables false
set_option linter.unusedSimpArgs false
/- Contracts and lemmas for the proofs of this seat; each theorem states its own conditions. -/
namespace Go.Proofs.YtimchedebcoohaaGreat
open Go.RowKit
/-! slices.IndexFunc, ContainsFunc, DeleteFunc at pairs -/

set_option maxRecDepth 10000 in
set_option maxHeartbeats 1000000 in
theorem indexF_P (fn : Nat) (cs : Array Value) (hen : ∀ args w, (callFunc fn args).run Tryz.prog w = .ok (.enter fn args) w) (p : ByteArray × Int → Bool) (v : Value) (L : List (ByteArray × Int)) (w : World) (hv : Seg w v 2 L.length (cP L))
    (hc : ∀ x ∈ L, ∀ w', Ext w w' → Calls Tryz.prog fn (#[.agg #[.string x.1, .int .i64 x.2]] ++ cs) w' fun e w'' => e = .returned (.bool (p x)) ∧ Ext w' w'') :
    Calls Tryz.prog 108 #[v, .func (.func fn) #[] cs] w fun e w' => e = .returned (.int .i64 (firstI p L 0)) ∧ Ext w w' := by
  obtain ⟨h0, a, cap, rfl, h1, h2, h3⟩ := hv
  unfold maxLen at h2
  have H3 := hid h3
  have HC := hid hc
  clear h3 hc h0
  go_enter Tryz.func108, Tryz.ntmps108
  go_wp2
  go_loopw [5, 8] (fun _ i wr => ∃ k : Nat, k ≤ L.length ∧ i = .int .i64 k ∧ (∀ j (h : j < L.length), j < k → p L[j] = false) ∧ Ext w wr) (fun _ i _ => L.length - (intOf i).toNat)
  case atStart => exact ⟨0, Nat.zero_le _, rfl, fun j _ h => by omega, Ext.refl _⟩
  case round =>
    obtain ⟨k, hk, rfl, hn, E⟩ := hrel
    have HN := hid hn
    clear hn
    by_cases hlt : k < L.length
    · obtain ⟨b, off, rfl, hcell⟩ := H3.out (by omega)
      have x0 := E.cell (hcell (k * 2) _ (cP_at L k hlt).1)
      have x1 := E.cell (hcell (k * 2 + 1) _ (cP_at L k hlt).2)
      rw [← Nat.add_assoc] at x1
      have C := HC.out L[k] (List.getElem_mem hlt) wr E
      clear hcell
      cases hp : p L[k] with
      | true =>
        rw [hp] at C
        have C := hid C
        have hi : firstI p L 0 = (k : Int) := by
          have := firstI_hit (i := 0) hlt (fun j h' => HN.out j (by omega) h') hp
          simpa using this
        have HI := hid hi
        clear hi hp
        generalize L[k] = x at x0 x1 C
        go_wp2_with (first | (go_at_fn fn; refine (C.out).mono ?_; rintro e wa ⟨rfl, Ea⟩))
        go_ret
        exact ⟨rI HI.out.symm, E.trans Ea⟩
      | false =>
        rw [hp] at C
        have C := hid C
        have HP := hid hp
        have HS := hid (show ∀ j (h : j < L.length), j < k + 1 → p L[j] = false from fun j hj h => by
          rcases Nat.lt_or_ge j k with h' | h'
          · exact HN.out j hj h'
          · have : j = k := by omega
            subst this; exact HP.out)
        clear hp
        generalize L[k] = x at x0 x1 C
        go_wp2_with (first | (go_at_fn fn; refine (C.out).mono ?_; rintro e wa ⟨rfl, Ea⟩))
        go_roundw
        case rel => exact ⟨k + 1, by omega, by go_num, HS.out, E.trans Ea⟩
        case measure => simp [intOf]; omega
    · obtain rfl : k = L.length := by omega
      have hi : firstI p L 0 = -1 := firstI_miss fun x hx => by
        obtain ⟨j, hj, rfl⟩ := List.mem_iff_getElem.1 hx
        exact HN.out j hj hj
      have HI := hid hi
      clear hi
      go_wp2
      go_ret
      exact ⟨rI HI.out.symm, E⟩
theorem delset_P (x : ByteArray × Int) : ∀ (l : List (ByteArray × Int)) (k : Nat), k < l.length → ((cP l).set (k * 2) (.string x.1)).set (k * 2 + 1) (.int .i64 x.2) = cP (l.set k x)
  | [], k, h => by simp at h
  | c :: l, 0, h => by simp [cP]
  | c :: l, k + 1, h => by
    have := delset_P x l k (by simpa using h)
    have e : ∀ (y : ByteArray × Int) (m : List (ByteArray × Int)), cP (y :: m) = [.string y.1, .int .i64 y.2] ++ cP m := fun y m => by simp [cP]
    rw [show (k + 1) * 2 = k * 2 + 1 + 1 by omega, List.set_cons_succ, e, e, ← this]
    rfl
theorem infoDelP : (Tryz.prog.info? 33).map (fun i => (i.zero, i.size, i.bytes)) = some (some (.agg #[.string ⟨#[]⟩, .int .i64 0]), 2, 24) := by kernel_rfl
theorem zeroDelP (w : World) : (zeroValue 33).run Tryz.prog w = .ok (.agg #[.string ⟨#[]⟩, .int .i64 0]) w := Tryz.zeroValue33 w
theorem zeroDelCP (n : Nat) : ∀ v ∈ (Builtin.zeroCells (Value.agg #[.string ⟨#[]⟩, .int .i64 0]).cells n).toList, v.oneCell' = true := by
  intro v hv
  have hc : (Value.agg #[.string ⟨#[]⟩, .int .i64 0]).cells = #[.string ⟨#[]⟩, .int .i64 0] := by kernel_rfl
  rw [hc] at hv
  simp only [Builtin.zeroCells, Array.toList_map, List.mem_map] at hv
  obtain ⟨i, _, rfl⟩ := hv
  have h2 : i % 2 = 0 ∨ i % 2 = 1 := by omega
  rcases h2 with h2 | h2 <;> simp [h2, Value.oneCell']
set_option maxRecDepth 10000 in
set_option maxHeartbeats 2000000 in
theorem delF_P (B fn : Nat) (cs : Array Value) (hen : ∀ args w, (callFunc fn args).run Tryz.prog w = .ok (.enter fn args) w) (p : ByteArray × Int → Bool) (v : Value) (L : List (ByteArray × Int)) (w : World) (ho : w.ownsRow B 33 2 v L.length (cP L)) (hn : L.length ≤ 1000000)
    (hc : ∀ x ∈ L, ∀ w', w.grownBy w' v.ownBlock → Calls Tryz.prog fn (#[.agg #[.string x.1, .int .i64 x.2]] ++ cs) w' fun e w'' => e = .returned (.bool (p x)) ∧ Ext w' w'') :
    Calls Tryz.prog 76 #[v, .func (.func fn) #[] cs] w fun e w' => ∃ v', e = .returned v' ∧ w'.ownsRow B 33 2 v' (L.filter fun x => !p x).length (cP (L.filter fun x => !p x)) ∧ w.grownBy w' v.ownBlock ∧ v'.ownBlock = v.ownBlock := by
  have hI := indexF_P fn cs hen p v L w (own_seg ho) (fun x hx w' E => hc x hx w' (grown_of_ext E))
  obtain ⟨a, c, rfl⟩ := own_form ho
  by_cases hany : ∀ x ∈ L, p x = false
  · rw [firstI_miss hany] at hI
    have hI := hid hI
    have hf := hid (show (L.filter fun x => !p x) = L from List.filter_eq_self.2 fun x hx => by simp [hany x hx])
    clear hany hc
    go_enter Tryz.func76, Tryz.ntmps76
    go_wp2_with fail
    refine (hI.out).mono ?_
    rintro e w1 ⟨rfl, E1⟩
    go_wp2
    go_ret
    exact ⟨_, rfl, by rw [hf.out]; exact own_ext ho E1, grown_of_ext E1, rfl⟩
  · obtain ⟨i0, hi0, hlo, hp0⟩ := first_of hany
    rw [firstI_hit hi0 (fun j h => hlo j h) hp0, Nat.zero_add] at hI
    have hI := hid hI
    obtain ⟨g, rfl, hg1, hg2, hg3, hg4⟩ := own_pos ho (by omega)
    unfold maxLen at hg4
    have HC := hid hc
    have qi : ((i0 : Int) == -1) = false := by simp
    have F0 := hid (first_fil hi0 hlo hp0)
    clear hany hc hlo hp0
    go_enter Tryz.func76, Tryz.ntmps76
    go_wp2_with fail
    refine (hI.out).mono ?_
    clear hI
    rintro e w1 ⟨rfl, E1⟩
    go_wp2_with fail
    go_loopw [5, 6, 7] (fun i6 j6 _ wr => ∃ (i j : Nat) (mid : List (ByteArray × Int)), i6 = .int .i64 i ∧ j6 = .int .i64 j ∧ j ≤ L.length ∧ ((L.take j).filter fun x => !p x).length = i ∧ i + mid.length = j ∧ i < j ∧ wr.ownsRow B 33 2 (.slice (some ⟨g, 0, none⟩) L.length c) L.length (cP (((L.take j).filter fun x => !p x) ++ mid ++ L.drop j)) ∧ w.grownBy wr (some g)) (fun _ j6 _ _ => L.length - (intOf j6).toNat)
    case atStart => exact ⟨i0, i0 + 1, [L[i0]], rfl, by go_num, by omega, F0.out.1, rfl, by omega, by rw [F0.out.2]; exact own_ext ho E1, grown_of_ext E1⟩
    case round =>
      obtain ⟨i, j, mid, rfl, rfl, hj, hfi, hmid, hij, ho2, hg⟩ := hrel
      by_cases hjl : j < L.length
      · have hlen : ((((L.take j).filter fun x => !p x) ++ mid ++ L.drop j)).length = L.length := by simp only [List.length_append, List.length_drop]; omega
        have hget : (((L.take j).filter fun x => !p x) ++ mid ++ L.drop j)[j]? = some L[j] := by
          rw [List.getElem?_append_right (by simp only [List.length_append]; omega)]
          simp only [List.length_append, hfi, hmid, Nat.sub_self]
          simp [hjl]
        have hstep := del_step (p := p) hjl hfi hmid hij
        obtain ⟨_, _, he, _, _, _, hcell⟩ := seg_cells (own_seg ho2) (by omega)
        injection he with he; injection he with he1 he2
        subst he1; subst he2
        generalize hM : ((L.take j).filter fun x => !p x) ++ mid ++ L.drop j = M at ho2 hlen hget hcell hstep
        have hMj : M[j]'(by omega) = L[j] := by rw [List.getElem?_eq_getElem (by omega)] at hget; injection hget
        have x0 := hcell (j * 2) _ (cP_at M j (by omega)).1
        have x1 := hcell (j * 2 + 1) _ (cP_at M j (by omega)).2
        rw [hMj, Nat.zero_add] at x0 x1
        have hmem := List.getElem_mem hjl
        clear hcell hget hMj hM
        have HST := hid hstep
        clear hstep
        generalize L[j] = x at x0 x1 hmem HST
        have bx := heap_alloc_new wr (.cells #[.string x.1, .int .i64 x.2] 33)
        have EA := (Ext.refl wr).alloc (.cells #[.string x.1, .int .i64 x.2] 33)
        have gA := hg.trans (grown_of_ext EA)
        have C := HC.out x hmem (wr.alloc (.cells #[.string x.1, .int .i64 x.2] 33)) gA
        cases hp : p x with
        | true =>
          rw [hp] at C
          have C := hid C
          have S1 := hid (HST.out.1 hp)
          clear hp
          have xb := blk2 bx
          go_wp2_with (first | (go_at_fn fn; refine (C.out).mono ?_; rintro e wa ⟨rfl, Ea⟩))
          go_roundw
          case rel =>
            obtain ⟨mid', s1, s2, s3⟩ := S1.out
            exact ⟨i, j + 1, mid', rfl, by go_num, by omega, s1, s2, by omega, by rw [s3]; exact own_ext (own_ext ho2 EA) Ea, gA.trans (grown_of_ext Ea)⟩
          case measure => simp [intOf]; omega
        | false =>
          rw [hp] at C
          have C := hid C
          have S1 := hid (HST.out.2 hp)
          clear hp
          have hil : i < M.length := by omega
          go_wp2_with (first | (go_at_fn fn; refine (C.out).mono ?_; rintro e wa ⟨rfl, Ea⟩; have xb := blk2 (Ea.heap bx); obtain ⟨⟨y0, w0⟩, w1, ⟨y2, w2⟩, w3⟩ := own_two (own_ext (own_ext ho2 EA) Ea) (i := i * 2) (by rw [cP_len]; omega) (.string x.1)))
          go_roundw
          case rel =>
            obtain ⟨mid', s1, s2, s3⟩ := S1.out
            have o3 := own_ext (own_ext ho2 EA) Ea
            have o4 := own_cell_set o3 (i := i * 2) (by rw [cP_len]; omega) (.string x.1)
            have o5 := own_cell_set o4 (i := i * 2 + 1) (by rw [List.length_set, cP_len]; omega) (.int .i64 x.2)
            rw [delset_P x M i hil] at o5
            exact ⟨i + 1, j + 1, mid', by go_num, by go_num, by omega, s1, s2, by omega, by rw [s3]; exact o5, ((gA.trans (grown_of_ext Ea)).trans (set_grown _ _ _)).trans (set_grown _ _ _)⟩
          case measure => simp [intOf]; omega
      · have hjL : j = L.length := by omega
        subst hjL
        rw [List.take_of_length_le (Nat.le_refl _)] at hfi ho2
        rw [List.drop_of_length_le (Nat.le_refl _), List.append_nil] at ho2
        obtain ⟨g', cur, he, hb, hlt, hrow, hnc, hcm, hcl, htk⟩ := own_row ho2 (by omega)
        injection he with he; injection he with he
        subst he
        have hz2 : (Builtin.zeroCells (Value.agg #[.string ⟨#[]⟩, .int .i64 0]).cells (L.length - i)).size = (L.length - i) * 2 := by
          rw [size_zeroCells]; rfl
        have hz3 : (Builtin.zeroCells (Value.agg #[.string ⟨#[]⟩, .int .i64 0]).cells (L.length - i)).toList.length = (L.length - i) * 2 := hz2
        have hclr := fun ty => run_clear_row (P := Tryz.prog) wr 22 33 ty _ Tryz.underlying22 zeroDelP g (i * 2) (L.length - i) (c - i) cur (by omega) hrow (by rw [hz2, hcl]; omega) (zeroDelCP _)
        have hl3 := spl_len (cur := cur) (o := i * 2) (vs := (Builtin.zeroCells (Value.agg #[.string ⟨#[]⟩, .int .i64 0]).cells (L.length - i)).toList) (by rw [hz3, hcl]; omega)
        have ht3 := spl_take_lo (cur := cur) (o := i * 2) (m := i * 2) (vs := (Builtin.zeroCells (Value.agg #[.string ⟨#[]⟩, .int .i64 0]).cells (L.length - i)).toList) (by rw [hcl]; omega) (Nat.le_refl _)
        have hrow3 := hrow.set (spl cur (i * 2) (Builtin.zeroCells (Value.agg #[.string ⟨#[]⟩, .int .i64 0]).cells (L.length - i)).toList)
        have hB3 := row_grown wr g (spl cur (i * 2) (Builtin.zeroCells (Value.agg #[.string ⟨#[]⟩, .int .i64 0]).cells (L.length - i)).toList).toArray
        generalize spl cur (i * 2) (Builtin.zeroCells (Value.agg #[.string ⟨#[]⟩, .int .i64 0]).cells (L.length - i)).toList = cur3 at hclr hl3 ht3 hrow3 hB3
        have hcut : cur.take (i * 2) = cP (L.filter fun x => !p x) := by
          have h1 : cur.take (i * 2) = (cP ((L.filter fun x => !p x) ++ mid)).take (i * 2) := by rw [← htk, List.take_take, Nat.min_eq_left (by omega)]
          rw [h1, cP_app, List.take_left' (by rw [cP_len, hfi])]
        have HD := hid (And.intro (hl3.trans hcl) (ht3.trans hcut))
        have HCL := hid hclr
        have HF := hid hfi
        have hci : ¬ c = i := by omega
        have hi1 : (i : Int) ≤ (L.length : Int) := by omega
        have hi2 : (i : Int) ≤ (c : Int) := by omega
        clear hl3 ht3 hz2 hz3 hclr hcut htk hcl hfi ho2
        go_wp2_with (first | (refine wpList_clear_run wr rfl _ _ rfl _ (by rfl) (HCL.out _) ?_))
        go_ret
        refine ⟨_, rfl, ?_, hg.trans hB3, rfl⟩
        rw [HF.out]
        exact own_of_row hrow3 hb (by omega) hcm HD.out.1 (by rw [cP_len, HF.out]) HD.out.2
end Go.Proofs.YtimchedebcoohaaGreat

/- Contracts and lemmas for the proofs of this seat; each theorem states its own conditions. -/
namespace Go.Proofs.YtimchedebcoohaaGreat
open Go.RowKit
/-! shard.Part -/
def partP (C : List ByteArray) (O : List Int) (l : Prs) (n : Int) : Prs := l.filter fun x => !(whose C O x.1 != n)
theorem whose_rng {C : List ByteArray} {O : List Int} (h : MapOk C O) (k : ByteArray) : 0 ≤ whose C O k ∧ whose C O k < 4 := by
  have hl := h.len
  have hp := plc_le h.srt k
  rw [whose_plc]
  have hlt : plc C k < O.length := by omega
  have e : O.getD (plc C k) 0 = O[plc C k] := by simp [hlt]
  rw [e]
  exact mem_range_of h.own _ (List.getElem_mem hlt)
set_option maxRecDepth 10000 in
set_option maxHeartbeats 1000000 in
theorem part1_any (x : ByteArray × Int) (bm bo : Nat) (c o : Value) (C : List ByteArray) (O : List Int) (n : Int) (w : World) (hbm : w.heap[bm]? = some (.cells #[c, o] 26 (0, 0))) (hbo : w.cell? ⟨bo, 0, none⟩ = some (.int .i64 n)) (hm : IsMap w (.agg #[c, o]) C O) (ok : MapOk C O) :
    Calls Tryz.prog 77 #[.agg #[.string x.1, .int .i64 x.2], .pointer (some ⟨bm, 0, none⟩), .pointer (some ⟨bo, 0, none⟩)] w fun e w' => e = .returned (.bool (whose C O x.1 != n)) ∧ Ext w w' := by
  have E0 := (Ext.refl w).alloc (.cells #[.string x.1, .int .i64 x.2] 33)
  have xb := blk2 (heap_alloc_new w (.cells #[.string x.1, .int .i64 x.2] 33))
  have xm := blk2 (E0.heap hbm)
  have xo := E0.cell hbo
  have few := ok.few
  have W := fun w' (E : Ext (w.alloc (.cells #[.string x.1, .int .i64 x.2] 33)) w') => of_any (.agg #[c, o]) C O x.1 w' (hm.ext (E0.trans E)) ok.srt ok.len (by omega)
  have W := hid W
  generalize whose C O x.1 = z at W ⊢
  obtain ⟨key, u⟩ := x
  dsimp only at *
  clear hm hbm hbo
  generalize hw : w.alloc (.cells #[.string key, .int .i64 u] 33) = w0 at E0 xb xm xo W
  go_enter Tryz.func77, Tryz.ntmps77
  go_wp2_with fail
  refine wp_region_ph [.k (.agg #[c, o]), .k (.pointer (some ⟨w.heap.size, 0, none⟩)), .k (.string key), .k (.int .i64 z), .k (.int .i64 n), .k (.bool (z != n))] [] (by kernel_rfl) (by kernel_rfl) (by kernel_rfl) rfl rfl ?hs ?hC ?he
  case hC =>
    intro i hi
    simp at hi
  case hs =>
    refine ⟨?_, ?_, ?_, ?_, ?_, ?_, trivial⟩
    all_goals (
      intro x w' hE hd
      try simp [PhDeps, at_k, at_p, at_t, at_any, Region.binds] at hd
      try ((with_reducible refine Exists.elim hd ?_); clear hd; intro y hd; obtain ⟨hd, hG⟩ := hd)
      have d1 := hE.cell xb.1
      have d2 := hE.cell xm.1
      have d3 := hE.cell xm.2.1
      have d4 := hE.cell xo
      first | simp only [frL, List.length_cons, List.length_nil, List.take_succ_cons, List.take_zero, Nat.reduceAdd, Nat.zero_add, List.setIfInBounds_toArray, List.set_cons_zero, List.set_cons_succ, hd] | simp only [frL, List.length_cons, List.length_nil, List.take_succ_cons, List.take_zero, Nat.reduceAdd, Nat.zero_add, List.setIfInBounds_toArray, List.set_cons_zero, List.set_cons_succ]
      go_wp2_with (first | (go_at_call 78; refine ((W.out _ (by assumption))).mono ?_; rintro e wa ⟨rfl, hea⟩))
      all_goals first
        | ((with_reducible refine phK ?_ ?_); (focus rfl); (repeat (first | (with_reducible assumption) | (with_reducible exact Ext.refl _) | (with_reducible refine Ext.drew ?_) | (with_reducible refine Ext.drewN ?_ _) | (with_reducible refine Ext.alloc ?_ _) | (with_reducible refine Ext.trans ?_ (by with_reducible assumption)))))
        | ((with_reducible refine phT rfl hG ?_); (repeat (first | (with_reducible assumption) | (with_reducible exact Ext.refl _) | (with_reducible refine Ext.drew ?_) | (with_reducible refine Ext.drewN ?_ _) | (with_reducible refine Ext.alloc ?_ _) | (with_reducible refine Ext.trans ?_ (by with_reducible assumption)))))
        | ((with_reducible refine phU hG ?_); (repeat (first | (with_reducible assumption) | (with_reducible exact Ext.refl _) | (with_reducible refine Ext.drew ?_) | (with_reducible refine Ext.drewN ?_ _) | (with_reducible refine Ext.alloc ?_ _) | (with_reducible refine Ext.trans ?_ (by with_reducible assumption)))))
        | (with_reducible exact phBox hE)
        | (with_reducible exact phRow hE))
  case he =>
    intro x w2 E2 hd
    simp [PhEnd, at_k, at_p, at_t, at_any] at hd
    simp only [frL, List.length_cons, List.length_nil, List.take_succ_cons, List.take_zero, Nat.reduceAdd, Nat.zero_add, List.setIfInBounds_toArray, List.set_cons_zero, List.set_cons_succ, hd, List.length_cons, List.length_nil, List.drop_succ_cons, List.drop_zero]
    clear hd
    clear hw
    go_wp2
    go_ret
    exact ⟨rfl, E0.trans E2⟩
/-- Part, at what may be -/
theorem part_fun (C : List ByteArray) (O : List Int) (n : Int) (l : Prs) : (l.filter fun x => !(whose C O x.1 != n)) = partP C O l n := rfl
set_option maxRecDepth 10000 in
set_option maxHeartbeats 1000000 in
theorem part_ok (vm vl : Value) (C : List ByteArray) (O : List Int) (l : Prs) (n : Int) (w : World) (hm : IsMap w vm C O) (ok : MapOk C O) (hk : ∀ k ∈ C, k.size ≤ 9223372036854775807) (hv : Seg w vl 2 l.length (cP l)) (os : StoreOk l) (hlen : l.length ≤ 1000000) (h0 : 0 ≤ n) (h4 : n < 4) :
    Calls Tryz.prog 23 #[vm, vl, .int .i64 n] w fun e w' => ∃ v', e = .returned (.tuple #[v', .int .i64 0]) ∧ w'.ownsRow w.heap.size 33 2 v' (partP C O l n).length (cP (partP C O l n)) ∧ Ext w w' := by
  obtain ⟨a1, k1, a2, k2, rfl, m1, m2⟩ := hm.unpack
  generalize hc : Value.slice a1 C.length k1 = c at *
  generalize ho : Value.slice a2 O.length k2 = o at *
  have b1 := heap_1 w (.cells #[c, o] 26) (.cells #[.int .i64 n] 3)
  have b2 := heap_2 w (.cells #[c, o] 26) (.cells #[.int .i64 n] 3)
  have E0 := ((Ext.refl w).alloc (.cells #[c, o] 26)).alloc (.cells #[.int .i64 n] 3)
  generalize hw0 : (w.alloc (.cells #[c, o] 26)).alloc (.cells #[.int .i64 n] 3) = w0 at b1 b2 E0
  have x1 := blk2 b1
  have x2 := cell_of_one b2
  replace hm := hm.ext E0
  replace hv := hv.ext E0
  have MC := mcheck_any (.agg #[c, o]) C O w0 hm hk
  rw [mapErr_ok ok] at MC
  have MC := hid MC
  subst hc; subst ho
  go_enter Tryz.func23, Tryz.ntmps23
  go_wp2_with fail
  refine (MC.out).mono ?_
  clear MC
  rintro e w1 ⟨rfl, E1⟩
  have SC := scheck_any vl l w1 (hv.ext E1) (store_small os)
  rw [storeErr_ok os] at SC
  have SC := hid SC
  go_wp2_with fail
  refine (SC.out).mono ?_
  clear SC
  rintro e w2 ⟨rfl, E2⟩
  have EE := E1.trans E2
  have x3 := EE.cell x2
  have b1' := EE.heap b1
  have hm2 := hm.ext EE
  have hmf : ∀ (fn : Fn) (first cap : Array Value) (w : World), (Instr.makeFunc fn first cap).run Tryz.prog w = .ok (.func fn first cap) w := fun _ _ _ _ => rfl
  have CL := hid (clone_Pair vl l.length (cP l) w2 (hv.ext EE) (cP_one l) (by omega))
  clear hw0
  go_wp2_with fail
  refine (CL.out).mono ?_
  clear CL
  rintro e w3 ⟨a3, c3, rfl, o3, E3⟩
  have DF := delF_P w2.heap.size 77 #[.pointer (some ⟨w.heap.size, 0, none⟩), .pointer (some ⟨w.heap.size + 1, 0, none⟩)] (enters_of Tryz.func77 (by kernel_rfl) rfl) (fun x => whose C O x.1 != n) (.slice a3 l.length c3) l w3 o3 hlen (fun x _ w' hg => by
    have Ew : Ext w2 w' := E3.grown hg (fun k hk => own_ge o3 k hk)
    exact part1_any x w.heap.size (w.heap.size + 1) _ _ C O n w' (Ew.heap b1') (Ew.cell x3) (hm2.ext Ew) ok)
  rw [part_fun] at DF
  have DF := hid DF
  have hB := E3.size'
  have lP : (partP C O l n).length ≤ l.length := List.length_filter_le _ _
  obtain ⟨P, hP⟩ : ∃ P, partP C O l n = P := ⟨_, rfl⟩
  rw [hP] at DF lP
  have HP := hid hP
  clear hP
  go_wp2_with fail
  refine (DF.out).mono ?_
  clear DF
  rintro e w4 ⟨v4, rfl, o4, g4, _⟩
  have E4 : Ext w2 w4 := E3.grown g4 (fun k hk => own_ge o3 k hk)
  have CL := hid (clone_Pair v4 P.length (cP P) w4 (own_seg o4) (cP_one P) (by omega))
  go_wp2_with fail
  refine (CL.out).mono ?_
  rintro e w5 ⟨a5, c5, rfl, o5, E5⟩
  have EZ := (E0.trans EE).trans E4
  go_wp2
  go_ret2
  exact ⟨_, rT2 rfl rfl, by rw [HP.out]; exact own_base o5 EZ.size', EZ.trans E5⟩
end Go.Proofs.YtimchedebcoohaaGreat

/- Contracts and lemmas for the proofs of this seat; each theorem states its own conditions. -/
namespace Go.Proofs.YtimchedebcoohaaGreat
/-! parts of a store, in plain lists -/
structure PartsOk (C : List ByteArray) (O : List Int) (V : Vls) (P : Nat → Prs) (N : Nat) : Prop where
  ok : ∀ i : Nat, i < 4 → StoreOk (P i)
  len : ∀ i : Nat, i < 4 → (P i).length ≤ N
  val : ∀ i : Nat, i < 4 → ∀ k, valP (P i) k = if whose C O k = (i : Int) then V k else 0
theorem parts_new {C : List ByteArray} {O : List Int} {S : Prs} (h : StoreOk S) : PartsOk C O (valP S) (fun i => partP C O S (i : Int)) S.length where
  ok := fun i _ => storeOk_filter h _
  len := fun i _ => List.length_filter_le _ _
  val := fun i _ k => by
    show valP (partP C O S i) k = _
    rw [partP, val_filter h.srt]
    by_cases e : whose C O k = (i : Int)
    · rw [if_pos (by simp [e]), if_pos e]
    · rw [if_neg (by simp [e]), if_neg e]
theorem PartsOk.mono {C : List ByteArray} {O : List Int} {V : Vls} {P : Nat → Prs} {N M : Nat} (h : PartsOk C O V P N) (hm : N ≤ M) : PartsOk C O V P M := ⟨h.ok, fun i hi => Nat.le_trans (h.len i hi) hm, h.val⟩
theorem PartsOk.put {C : List ByteArray} {O : List Int} {V : Vls} {P : Nat → Prs} {N : Nat} (h : PartsOk C O V P N) {i : Nat} (hi : i < 4) {k : ByteArray} {n : Int} (hw : whose C O k = (i : Int)) (hk : keyB k = true) (hn : -1000000000 ≤ n ∧ n ≤ 1000000000) :
    PartsOk C O (setV V k n) (fun j => if j = i then withP (P i) k n else P j) (N + 1) where
  ok := fun j hj => by
    try dsimp only
    split
    · exact storeOk_with (h.ok i hi) hk hn
    · exact h.ok j hj
  len := fun j hj => by
    try dsimp only
    split
    · have := with_len (P i) k n; have := h.len i hi; omega
    · have := h.len j hj; omega
  val := fun j hj x => by
    try dsimp only
    unfold setV
    by_cases e : j = i
    · subst e
      rw [if_pos rfl, val_with (h.ok j hj).srt, h.val j hj x]
      by_cases e2 : k = x
      · subst e2; rw [if_pos rfl, if_pos hw, if_pos rfl]
      · rw [if_neg e2, if_neg e2]
    · rw [if_neg e, h.val j hj x]
      by_cases e2 : k = x
      · subst e2; rw [if_pos rfl, if_neg (by rw [hw]; omega), if_neg (by rw [hw]; omega)]
      · rw [if_neg e2]
theorem PartsOk.val_at {C : List ByteArray} {O : List Int} (hm : MapOk C O) {V : Vls} {P : Nat → Prs} {N : Nat} (h : PartsOk C O V P N) (k : ByteArray) : ∃ i : Nat, i < 4 ∧ whose C O k = (i : Int) ∧ valP (P i) k = V k := by
  obtain ⟨h0, h4⟩ := whose_rng hm k
  refine ⟨(whose C O k).toNat, by omega, by omega, ?_⟩
  rw [h.val _ (by omega), if_pos (by omega)]
theorem PartsOk.bd {C : List ByteArray} {O : List Int} (hm : MapOk C O) {V : Vls} {P : Nat → Prs} {N : Nat} (h : PartsOk C O V P N) (k : ByteArray) : -1000000000 ≤ V k ∧ V k ≤ 1000000000 := by
  obtain ⟨i, hi, _, e⟩ := h.val_at hm k
  rw [← e]; exact val_bd (h.ok i hi) k
/-- each has what the store has of his -/
theorem PartsOk.eq {C : List ByteArray} {O : List Int} {P : Nat → Prs} {N : Nat} {S : Prs} (hS : StoreOk S) (h : PartsOk C O (valP S) P N) {i : Nat} (hi : i < 4) : P i = partP C O S (i : Int) := by
  refine store_ext (h.ok i hi) ((parts_new (C := C) (O := O) hS).ok i hi) fun k => ?_
  rw [h.val i hi, (parts_new (C := C) (O := O) hS).val i hi]
/-- what is told of some keys -/
def toldP (V : Vls) : List ByteArray → Prs
  | [] => []
  | k :: ks => withP (toldP V ks) k (V k)
theorem told_ok {V : Vls} (hV : ∀ k, -1000000000 ≤ V k ∧ V k ≤ 1000000000) : ∀ {ks : List ByteArray}, (∀ k ∈ ks, keyB k = true) → StoreOk (toldP V ks) ∧ (toldP V ks).length ≤ ks.length ∧ ∀ x, valP (toldP V ks) x = if memB ks x = true then V x else 0
  | [], _ => ⟨storeOk_nil, Nat.le_refl _, fun x => by simp [toldP, valP, memB]⟩
  | k :: ks, h => by
    obtain ⟨h1, h2, h3⟩ := told_ok hV (ks := ks) fun j hj => h j (by simp [hj])
    have hl := with_len (toldP V ks) k (V k)
    refine ⟨storeOk_with h1 (h k (by simp)) (hV k), by rw [toldP, List.length_cons]; omega, fun x => ?_⟩
    rw [toldP, val_with h1.srt, h3 x]
    by_cases e : k = x
    · subst e; rw [if_pos rfl, if_pos (memB_iff.2 (by simp))]
    · have : memB (k :: ks) x = memB ks x := by simp [memB, e]
      rw [if_neg e, this]
/-- the values once the first ones of w have been taken over -/
def overV (V U : Vls) (ks : List ByteArray) : Vls := fun x => if memB ks x = true then U x else V x
theorem over_step (V U : Vls) (ks : List ByteArray) (k : ByteArray) : setV (overV V U ks) k (U k) = overV V U (ks ++ [k]) := by
  funext x
  unfold setV overV
  by_cases e : k = x
  · subst e; rw [if_pos rfl, if_pos (memB_iff.2 (by simp))]
  · have : memB (ks ++ [k]) x = memB ks x := by simp [memB, e]
    rw [if_neg e, this]
theorem over_nil (V U : Vls) : overV V U [] = V := by funext x; simp [overV, memB]
/-- a deed done on what was told makes what it makes on all -/
theorem told_run {V : Vls} {T : Prs} {ks : List ByteArray} {d : Ops} (hT : StoreOk T) (hd : ∀ o ∈ d, OpOk o) (hv : ∀ x, valP T x = if memB ks x = true then V x else 0) (hr : ∀ k ∈ rds d, k ∈ ks) :
    runB T d = okV V d ∧ (runB T d = true → overV V (valP (runS T d)) (sortU (wrs d)) = stepV V d) := by
  obtain ⟨q1, q2, q3⟩ := run_val hT hd
  obtain ⟨s1, s2⟩ := step_agree hd (v := valP T) (u := V) fun k hk => by rw [hv k, if_pos (memB_iff.2 (hr k hk))]
  refine ⟨by rw [q3, s1], fun h => ?_⟩
  rw [q3] at h
  funext x
  unfold overV
  by_cases e : x ∈ wrs d
  · rw [if_pos (memB_iff.2 ((sortU_mem _ _).2 e)), q2, s2 h x e]
  · rw [if_neg fun q => e ((sortU_mem _ _).1 (memB_iff.1 q)), step_keep hd V e]
end Go.Proofs.YtimchedebcoohaaGreat

/- Contracts and lemmas for the proofs of this seat; each theorem states its own conditions. -/
namespace Go.Proofs.YtimchedebcoohaaGreat
open Go.RowKit Go.Maps
/-! Free -/
/-- the table between: its rows of claims told by Cl, its map of keys of at most N entries -/
structure LockG (w : World) (B bt bk bd : Nat) (A : List Ops) (g : Nat → Bool) (F : ByteArray → Option SV) (G : Int → Option SV) (Cl : ByteArray → Clm) (N X : Nat) : Prop where
  hBt : B ≤ bt
  hBk : B ≤ bk
  hBd : B ≤ bd
  ne : bk ≠ bd
  box : w.heap[bt]? = some (.cells #[.map (some bk), .map (some bd), .int .i64 X] 177 (0, 0))
  km : ∃ n D, w.ownsMap Tryz.prog 9 svElem bk n D ∧ n ≤ N ∧ MapF kS okS dV D F
  dm : ∃ n D, w.ownsMap Tryz.prog 3 svElem bd n D ∧ n ≤ A.length ∧ MapF kI okI dV D G ∧ size D = liveN g A.length
  keys : ∀ k, w.ownsRow B 181 2 (svV ((F k).getD none)) (Cl k).length (cK (Cl k))
  apart : ∀ k k' s s', k ≠ k' → F k = some s → F k' = some s' → (svV s).ownBlock = none ∨ (svV s).ownBlock ≠ (svV s').ownBlock
  rows : ∀ n : Nat, n < A.length → g n = false → ∃ s, G (n : Int) = some s ∧ w.ownsRow B 9 1 (svV s) (tkL (A.getD n [])).length (cS (tkL (A.getD n [])))
theorem LockSt.g {w : World} {B bt bk bd : Nat} {A : List Ops} {g : Nat → Bool} {F : ByteArray → Option SV} {G : Int → Option SV} (h : LockSt w B bt bk bd A g F G) : LockG w B bt bk bd A g F G (fun k => clmTo A g k A.length) (32 * (A.length + (A.length - liveN g A.length))) A.length :=
  ⟨h.hBt, h.hBk, h.hBd, h.ne, h.box, h.km, h.dm, h.keys, h.apart, h.rows⟩
theorem LockG.ext {w w' : World} {B bt bk bd : Nat} {A : List Ops} {g : Nat → Bool} {F : ByteArray → Option SV} {G : Int → Option SV} {Cl : ByteArray → Clm} {N X : Nat} (h : LockG w B bt bk bd A g F G Cl N X) (E : Ext w w') : LockG w' B bt bk bd A g F G Cl N X where
  hBt := h.hBt
  hBk := h.hBk
  hBd := h.hBd
  ne := h.ne
  box := E.heap h.box
  km := by obtain ⟨n, D, a, b⟩ := h.km; exact ⟨n, D, ownsMap_ext a E, b⟩
  dm := by obtain ⟨n, D, a, b⟩ := h.dm; exact ⟨n, D, ownsMap_ext a E, b⟩
  keys := fun k => own_ext (h.keys k) E
  apart := h.apart
  rows := fun n a b => by obtain ⟨s, e, o⟩ := h.rows n a b; exact ⟨s, e, own_ext o E⟩
/-- a row of claims is turned in place, then stored anew: what holds between -/
def Mid (w0 : World) (B bt bk bd : Nat) (A : List Ops) (g : Nat → Bool) (F : ByteArray → Option SV) (G : Int → Option SV) (Cl : ByteArray → Clm) (N X : Nat) (key : ByteArray) (l' : Clm) (v : Value) (w : World) : Prop :=
  ∃ w1, LockG w1 B bt bk bd A g F G Cl N X ∧ w1.grownBy w (svV ((F key).getD none)).ownBlock ∧ w.ownsRow B 181 2 v l'.length (cK l') ∧ (v.ownBlock = (svV ((F key).getD none)).ownBlock ∨ ∀ k, v.ownBlock = some k → w1.heap.size ≤ k) ∧ Ext w0 w1
theorem claim_ne_box {w : World} {B bt bk bd : Nat} {A : List Ops} {g : Nat → Bool} {F : ByteArray → Option SV} {G : Int → Option SV} {Cl : ByteArray → Clm} {N X : Nat} (h : LockG w B bt bk bd A g F G Cl N X) (key : ByteArray) : (svV ((F key).getD none)).ownBlock ≠ some bt ∧ (svV ((F key).getD none)).ownBlock ≠ some bk ∧ (svV ((F key).getD none)).ownBlock ≠ some bd := by
  have hk := h.keys key
  refine ⟨own_ne hk h.box (by decide), fun e => ?_, fun e => ?_⟩
  · obtain ⟨n, D, ⟨es, clock, hm, _⟩, _⟩ := h.km
    rcases hk.2 with ⟨hn, _⟩ | ⟨b, cap, cur, hv, hb, hg, rest⟩
    · rw [hn] at e; cases e
    · rw [hv] at e; injection e with e; subst e; rw [hm] at hg; cases hg
  · obtain ⟨n, D, ⟨es, clock, hm, _⟩, _⟩ := h.dm
    rcases hk.2 with ⟨hn, _⟩ | ⟨b, cap, cur, hv, hb, hg, rest⟩
    · rw [hn] at e; cases e
    · rw [hv] at e; injection e with e; subst e; rw [hm] at hg; cases hg
theorem own_not_map {w : World} {B e sz n b : Nat} {v : Value} {xs : List Value} (h : w.ownsRow B e sz v n xs) {es : Array MapEntry} {clock : Nat} (hm : w.heap[b]? = some (.map es clock)) : v.ownBlock ≠ some b := fun e' => by
  rcases h.2 with ⟨hn, _⟩ | ⟨b', cap, cur, hv, hb, hg, rest⟩
  · rw [hn] at e'; cases e'
  · rw [hv] at e'; injection e' with e'; subst e'; rw [hm] at hg; cases hg
theorem kept_ne {w w' : World} {B e sz n b : Nat} {v : Value} {xs : List Value} (hg : w.grownBy w' (some b)) (h : w.ownsRow B e sz v n xs) (hne : v.ownBlock ≠ some b) : w'.ownsRow B e sz v n xs := grown_own hg h (.inr hne)
/-- the store of a turned row -/
theorem mid_store {w0 w w' : World} {B bt bk bd : Nat} {A : List Ops} {g : Nat → Bool} {F : ByteArray → Option SV} {G : Int → Option SV} {Cl : ByteArray → Clm} {N X : Nat} {key : ByteArray} {l' : Clm} {sv : SV} (h : Mid w0 B bt bk bd A g F G Cl N X key l' (svV sv) w) (hk : okS key) {n : Nat} {D : DU}
    (hmap : w.ownsMap Tryz.prog 9 svElem bk n D) (hn : n ≤ N) (hF : MapF kS okS dV D F) (hmap' : w'.ownsMap Tryz.prog 9 svElem bk (n + 1) (D.put (kS key) (dV sv))) (hg' : w.grownBy w' (some bk)) :
    LockG w' B bt bk bd A g (fun k => if k = key then some sv else F k) G (fun k => if k = key then l' else Cl k) (N + 1) X ∧ TFr B bt bk bd w0 w' := by
  obtain ⟨w1, hl, hg1, ho, hb, E⟩ := h
  obtain ⟨c1, c2, c3⟩ := claim_ne_box hl key
  obtain ⟨es, clock, hm, _⟩ := hmap
  have hbk1 : ∃ es clock, w1.heap[bk]? = some (.map es clock) := by
    obtain ⟨_, _, ⟨es, clock, hm, _⟩, _⟩ := hl.km; exact ⟨es, clock, hm⟩
  obtain ⟨es1, clock1, hm1⟩ := hbk1
  have hbt : bt ≠ bk := by rintro rfl; have := hl.box; rw [hm1] at this; cases this
  refine ⟨⟨hl.hBt, hl.hBk, hl.hBd, hl.ne, ?_, ⟨n + 1, _, hmap', by omega, hF.put kS_inj kS_is hk sv⟩, ?_, fun k => ?_, fun k k' s s' hne h1 h2 => ?_, fun m h1 h2 => ?_⟩, ?_⟩
  · exact grown_heap hg' (grown_heap hg1 hl.box c1) (fun e => hbt (by injection e with e; exact e.symm))
  · obtain ⟨m, D', a, b⟩ := hl.dm
    exact ⟨m, D', (a.kept hg1 (fun e => c3 e.symm)).kept hg' (fun e => hl.ne (by injection e with e; exact e.symm)), b⟩
  · by_cases e : k = key
    · subst e
      simp only [if_true, Option.getD_some]
      exact kept_ne hg' ho (own_not_map ho hm)
    · simp only [if_neg e]
      have hk1 := hl.keys k
      have hap : (svV ((F k).getD none)).ownBlock = none ∨ (svV ((F k).getD none)).ownBlock ≠ (svV ((F key).getD none)).ownBlock := by
        cases h1 : F k with
        | none => left; rfl
        | some s1 =>
          cases h2 : F key with
          | none =>
            cases h3 : (svV ((some s1 : Option SV).getD none)).ownBlock with
            | none => left; rfl
            | some b => right; show some b ≠ none; simp
          | some s2 => exact hl.apart k key s1 s2 e h1 h2
      have hk2 := grown_own hg1 hk1 hap
      exact kept_ne hg' hk2 (own_not_map hk2 hm)
  · have hfar : ∀ k' s', k' ≠ key → F k' = some s' → (svV sv).ownBlock = none ∨ (svV sv).ownBlock ≠ (svV s').ownBlock := fun k' s' hne' h2' => by
      rcases hb with hb | hb
      · rw [hb]
        cases h3 : F key with
        | none => left; rfl
        | some s0 => exact hl.apart key k' s0 s' (Ne.symm hne') h3 h2'
      · cases e : (svV sv).ownBlock with
        | none => exact .inl rfl
        | some b =>
          right
          intro e'
          have h5 := hb b e
          have h4 := hl.keys k'
          rw [h2', Option.getD_some] at h4
          have := (h4.lt b e'.symm).2
          omega
    by_cases e : k = key
    · subst e
      simp only [if_true] at h1
      injection h1 with h1; subst h1
      rw [if_neg (Ne.symm hne)] at h2
      exact hfar k' s' (Ne.symm hne) h2
    · rw [if_neg e] at h1
      by_cases e' : k' = key
      · subst e'
        simp only [if_true] at h2
        injection h2 with h2; subst h2
        rcases hfar k s e h1 with h3 | h3
        · cases h4 : (svV s).ownBlock with
          | none => left; rfl
          | some b => right; rw [h3]; simp
        · exact .inr fun e2 => h3 e2.symm
      · rw [if_neg e'] at h2
        exact hl.apart k k' s s' hne h1 h2
  · obtain ⟨s, e, o⟩ := hl.rows m h1 h2
    have o2 := grown_own hg1 o (own_own_ne o (hl.keys key) (by decide))
    exact ⟨s, e, kept_ne hg' o2 (own_not_map o2 hm)⟩
  · refine (TFr.of_ext E).trans ?_
    have t1 : TFr B bt bk bd w1 w := ⟨hg1.os, hg1.tape, hg1.output, hg1.size, fun i hi => by
      by_cases e : (svV ((F key).getD none)).ownBlock = some i
      · right
        have hk1 := hl.keys key
        rcases hk1.2 with ⟨hn, _⟩ | ⟨b, cap, cur, hv, hbb, hgg, rest⟩
        · rw [hn] at e; cases e
        · rw [hv] at e; injection e with e; subst e
          exact ⟨hbb, .inr (.inr (.inr ⟨cur, hgg⟩))⟩
      · exact .inl (hg1.block i hi (fun e' => e e'.symm))⟩
    refine t1.trans ⟨hg'.os, hg'.tape, hg'.output, hg'.size, fun i hi => ?_⟩
    by_cases e : i = bk
    · subst e; exact .inr ⟨hl.hBk, .inr (.inl rfl)⟩
    · exact .inl (hg'.block i hi (fun e' => e (by injection e')))
end Go.Proofs.YtimchedebcoohaaGreat
