/- Contracts and lemmas for the proof of MergeOrder; each theorem states its own conditions. -/
import Derived.Test.YtijcckhkofkenaaQMergeOrderab
import Derived.Test.YtijcckhkofkenaaQMergeOrderaa
import Derived.Test.YtijcckhkofkenaaProg
import Derived.Shelf.Abstract
import Derived.Test.YtijcckhkofkenaaQMergeOrderan
set_option linter.unusedVariables false
set_option linter.unusedSimpArgs false
/- Contracts and lemmas for the proofs of this seat; each theorem states its own conditions. -/
namespace Go.Proofs.Ytijcckhkofkenaa
open Go.RowKit
/-! slices.IndexFunc, slices.ContainsFunc: a closure by its contract -/
def firstI {α : Type} (p : α → Bool) : List α → Nat → Int
  | [], _ => -1
  | x :: l, i => if p x then (i : Int) else firstI p l (i + 1)
theorem firstI_hit {α : Type} {p : α → Bool} : ∀ {l : List α} {i k : Nat} (hk : k < l.length), (∀ j (h : j < k), p (l[j]'(by omega)) = false) → p l[k] = true → firstI p l i = ((i + k : Nat) : Int)
  | [], _, _, hk, _, _ => by simp at hk
  | x :: l, i, 0, _, _, h => by simp at h; simp [firstI, h]
  | x :: l, i, k + 1, hk, hj, h => by
    have h0 := hj 0 (by omega)
    simp at h0
    rw [firstI, if_neg (by simp [h0]), firstI_hit (k := k) (by simpa using hk) (fun j h' => by simpa using hj (j + 1) (by omega)) (by simpa using h)]
    congr 1; omega
theorem firstI_miss {α : Type} {p : α → Bool} : ∀ {l : List α} {i : Nat}, (∀ x ∈ l, p x = false) → firstI p l i = -1
  | [], _, _ => rfl
  | x :: l, i, h => by rw [firstI, if_neg (by simp [h x (by simp)]), firstI_miss fun y hy => h y (by simp [hy])]
theorem firstI_any {α : Type} {p : α → Bool} : ∀ {l : List α} {i : Nat}, (decide (0 ≤ firstI p l i)) = l.any p
  | [], _ => by simp [firstI]
  | x :: l, i => by
    rw [firstI, List.any_cons]
    cases h : p x with
    | true => simp
    | false => simp [firstI_any (l := l)]
theorem cS_at' (l : List ByteArray) (k : Nat) (hk : k < l.length) : (cS l)[k]? = some (.string l[k]) := by simp [cS, hk]
set_option maxRecDepth 10000 in
set_option maxHeartbeats 1000000 in
theorem indexF_Str (fn : Nat) (cs : Array Value) (hen : ∀ args w, (callFunc fn args).run Try.prog w = .ok (.enter fn args) w) (p : ByteArray → Bool) (v : Value) (L : List ByteArray) (w : World) (hv : Seg w v 1 L.length (cS L))
    (hc : ∀ x ∈ L, ∀ w', Ext w w' → Calls Try.prog fn (#[.string x] ++ cs) w' fun e w'' => e = .returned (.bool (p x)) ∧ Ext w' w'') :
    Calls Try.prog 124 #[v, .func (.func fn) #[] cs] w fun e w' => e = .returned (.int .i64 (firstI p L 0)) ∧ Ext w w' := by
  obtain ⟨h0, a, cap, rfl, h1, h2, h3⟩ := hv
  unfold maxLen at h2
  have H3 := hid h3
  have HC := hid hc
  clear h3 hc h0
  go_enter Try.func124, Try.ntmps124
  go_wp2
  go_loopw [5, 8] (fun _ i wr => ∃ k : Nat, k ≤ L.length ∧ i = .int .i64 k ∧ (∀ j (h : j < L.length), j < k → p L[j] = false) ∧ Ext w wr) (fun _ i _ => L.length - (intOf i).toNat)
  case atStart => exact ⟨0, Nat.zero_le _, rfl, fun j _ h => by omega, Ext.refl _⟩
  case round =>
    obtain ⟨k, hk, rfl, hn, E⟩ := hrel
    have HN := hid hn
    clear hn
    by_cases hlt : k < L.length
    · obtain ⟨b, off, rfl, hcell⟩ := H3.out (by omega)
      have x0 := E.cell (hcell k _ (cS_at' L k hlt))
      have C := HC.out L[k] (List.getElem_mem hlt) wr E
      have e0 : (#[Value.string L[k]] ++ cs) = (#[Value.string L[k]] ++ cs) := rfl
      cases hp : p L[k] with
      | true =>
        rw [hp] at C
        have C := hid C
        have hi : firstI p L 0 = (k : Int) := by
          have := firstI_hit (i := 0) hlt (fun j h' => HN.out j (by omega) h') hp
          simpa using this
        have HI := hid hi
        clear hi hcell e0
        go_wp2_with (first | (go_at_fn fn; refine (C.out).mono ?_; rintro e wa ⟨rfl, Ea⟩))
        go_ret
        exact ⟨rI HI.out.symm, E.trans Ea⟩
      | false =>
        rw [hp] at C
        have C := hid C
        have HP := hid hp
        clear hcell e0 hp
        go_wp2_with (first | (go_at_fn fn; refine (C.out).mono ?_; rintro e wa ⟨rfl, Ea⟩))
        go_roundw
        case rel => exact ⟨k + 1, by omega, by go_num, fun j hj h => by
          rcases Nat.lt_or_ge j k with h' | h'
          · exact HN.out j hj h'
          · have : j = k := by omega
            subst this; exact HP.out, E.trans Ea⟩
        case measure => simp [intOf]; omega
    · obtain rfl : k = L.length := by omega
      have hi : firstI p L 0 = -1 := firstI_miss fun x hx => by
        obtain ⟨j, hj, rfl⟩ := List.mem_iff_getElem.1 hx
        exact HN.out j hj hj
      have HI := hid hi
      clear hi
      go_wp2
      go_ret
      exact ⟨rI HI.out.symm, E⟩
set_option maxHeartbeats 1000000 in
theorem containsF_Str (fn : Nat) (cs : Array Value) (hen : ∀ args w, (callFunc fn args).run Try.prog w = .ok (.enter fn args) w) (p : ByteArray → Bool) (v : Value) (L : List ByteArray) (w : World) (hv : Seg w v 1 L.length (cS L))
    (hc : ∀ x ∈ L, ∀ w', Ext w w' → Calls Try.prog fn (#[.string x] ++ cs) w' fun e w'' => e = .returned (.bool (p x)) ∧ Ext w' w'') :
    Calls Try.prog 93 #[v, .func (.func fn) #[] cs] w fun e w' => e = .returned (.bool (L.any p)) ∧ Ext w w' := by
  have C := hid (indexF_Str fn cs hen p v L w hv hc)
  have HA := hid (firstI_any (p := p) (l := L) (i := 0))
  generalize firstI p L 0 = z at C HA
  clear hc hv
  go_enter Try.func93, Try.ntmps93
  go_wp2_with fail
  refine (C.out).mono ?_
  rintro e wa ⟨rfl, Ea⟩
  go_wp2
  go_ret
  exact ⟨rB (by rw [← HA.out]), Ea⟩
end Go.Proofs.Ytijcckhkofkenaa

/- Contracts and lemmas for the proofs of this seat; each theorem states its own conditions. -/
namespace Go.Proofs.Ytijcckhkofkenaa
open Go.RowKit
/-! Scan, Total -/
def inB (f t : ByteArray) (p : ByteArray × Int) : Bool := !(blt p.1 f) && (t.toList.isEmpty || blt p.1 t)
def scanP (l : Prs) (f t : ByteArray) : Prs := l.filter (inB f t)
theorem scan_step {l : Prs} {f t : ByteArray} {k : Nat} (hk : k < l.length) : scanP (l.take (k + 1)) f t = scanP (l.take k) f t ++ (if inB f t l[k] then [l[k]] else []) := by
  unfold scanP
  rw [List.take_succ_eq_append_getElem hk, List.filter_append]
  congr 1
  rw [List.filter_cons]; rfl
theorem scan_len (l : Prs) (f t : ByteArray) (k : Nat) : (scanP (l.take k) f t).length ≤ k := by
  have := List.length_filter_le (inB f t) (l.take k)
  rw [List.length_take] at this
  unfold scanP; omega
theorem cP_one1 (p : ByteArray × Int) : cP [p] = [.string p.1, .int .i64 p.2] := by simp [cP]
set_option maxRecDepth 10000 in
set_option maxHeartbeats 1000000 in
theorem scan_ok (v : Value) (l : Prs) (f t : ByteArray) (w : World) (hv : Seg w v 2 l.length (cP l)) (hk : ∀ p ∈ l, p.1.size ≤ 9223372036854775807) (hlen : l.length ≤ 1000000000) (he : storeErr l = 0) :
    Calls Try.prog 64 #[v, .string f, .string t] w fun e w' => ∃ v', e = .returned (.tuple #[v', .int .i64 0]) ∧ w'.ownsRow w.heap.size 90 2 v' (scanP l f t).length (cP (scanP l f t)) ∧ Ext w w' := by
  obtain ⟨h0, a, cap, rfl, h1, h2, h3⟩ := hv
  have hv : Seg w (.slice a l.length cap) 2 l.length (cP l) := ⟨h0, a, cap, rfl, h1, h2, h3⟩
  unfold maxLen at h2
  have q : (storeErr l != 0) = false := by simp [he]
  have HE := hid he
  clear he
  go_enter Try.func64, Try.ntmps64
  go_wp2_with fail
  refine (scheck_any _ l _ hv hk).mono ?_
  rintro e w1 ⟨rfl, E1⟩
  have hz := E1.size'
  go_wp2_with fail
  go_loopw [9, 11, 19] (fun o _ i wr => ∃ k : Nat, k ≤ l.length ∧ i = .int .i64 k ∧ wr.ownsRow w1.heap.size 90 2 o (scanP (l.take k) f t).length (cP (scanP (l.take k) f t)) ∧ Ext w1 wr) (fun _ _ i _ => l.length - (intOf i).toNat)
  case atStart => exact ⟨0, Nat.zero_le _, rfl, World.ownsRow_nil _ _ _ _, Ext.refl _⟩
  case round =>
    obtain ⟨k, hkl, rfl, ho, E⟩ := hrel
    by_cases hlt : k < l.length
    · obtain ⟨b, off, rfl, hc⟩ := h3 (by omega)
      have c := seg_pair hc hlt
      have c0 := E.cell (E1.cell c.1)
      have c1 := E.cell (E1.cell c.2)
      have hst := scan_step (f := f) (t := t) hlt
      have hsl := scan_len l f t k
      have hsz := E.size'
      clear hc h3 c
      have hin : inB f t l[k] = true ∨ inB f t l[k] = false := by cases inB f t l[k] <;> simp
      have hE2 := ((Ext.refl wr).alloc (.cells #[.string l[k].1, .int .i64 l[k].2] 90)).alloc (.cells #[.string l[k].1, .int .i64 l[k].2] 90)
      have hb2 := heap_2 wr (.cells #[.string l[k].1, .int .i64 l[k].2] 90) (.cells #[.string l[k].1, .int .i64 l[k].2] 90)
      have hsv : Seg ((wr.alloc (.cells #[.string l[k].1, .int .i64 l[k].2] 90)).alloc (.cells #[.string l[k].1, .int .i64 l[k].2] 90)) (.slice (some ⟨wr.heap.size + 1, 0, none⟩) 1 1) 2 1 [.string l[k].1, .int .i64 l[k].2] :=
        ⟨rfl, _, _, rfl, Nat.le_refl _, by simp [maxLen], fun _ => ⟨wr.heap.size + 1, 0, rfl, fun j u hu => by have := seg_vb hb2 j u hu; rwa [addr_add] at this⟩⟩
      have hge := own_ge ho
      have hB : w1.heap.size ≤ ((wr.alloc (.cells #[.string l[k].1, .int .i64 l[k].2] 90)).alloc (.cells #[.string l[k].1, .int .i64 l[k].2] 90)).heap.size := by simp; omega
      obtain ⟨ao, co, rfl⟩ := own_form ho
      have HST := hid hst
      clear hst
      rcases hin with hin | hin
      · have HIN := hid hin
        have hin' := hin
        simp only [inB, Bool.and_eq_true, Bool.or_eq_true, Bool.not_eq_true'] at hin'
        clear hin
        obtain ⟨g1, g2⟩ := hin'
        have g1' : Op.bytesLess l[k].1.toList f.toList = false := g1
        by_cases hte : t.toList = []
        · have hte' : (t.toList.isEmpty) = true := by simp [hte]
          go_wp2_with (first | (at_builtin; refine (wpList_app rfl _ _ 82 rfl w1.heap.size 90 (.agg #[.string ⟨#[]⟩, .int .i64 0]) 2 24 Try.underlying82 infoP rfl (by decide) _ (scanP (l.take k) f t).length (cP (scanP (l.take k) f t)) rfl ((ho.alloc _).alloc _) (.slice (some ⟨wr.heap.size + 1, 0, none⟩) 1 1) 1 [.string l[k].1, .int .i64 l[k].2] rfl hsv (kv_one _ _) (by omega) (by unfold maxLen; omega) hB ?_); intro v' w4 ho' hg))
          go_roundw
          case rel => exact ⟨k + 1, by omega, by go_num, by rw [HST.out, if_pos HIN.out, cP_app, cP_one1, List.length_append]; exact ho', (E.trans hE2).grown hg (fun j e => hge j e)⟩
          case measure => simp [intOf]; omega
        · have hte' : (t.toList.isEmpty) = false := by simp [hte]
          have g2' : Op.bytesLess l[k].1.toList t.toList = true := by rcases g2 with g2 | g2; (rw [hte'] at g2; cases g2); exact g2
          go_wp2_with (first | (at_builtin; refine (wpList_app rfl _ _ 82 rfl w1.heap.size 90 (.agg #[.string ⟨#[]⟩, .int .i64 0]) 2 24 Try.underlying82 infoP rfl (by decide) _ (scanP (l.take k) f t).length (cP (scanP (l.take k) f t)) rfl ((ho.alloc _).alloc _) (.slice (some ⟨wr.heap.size + 1, 0, none⟩) 1 1) 1 [.string l[k].1, .int .i64 l[k].2] rfl hsv (kv_one _ _) (by omega) (by unfold maxLen; omega) hB ?_); intro v' w4 ho' hg))
          go_roundw
          case rel => exact ⟨k + 1, by omega, by go_num, by rw [HST.out, if_pos HIN.out, cP_app, cP_one1, List.length_append]; exact ho', (E.trans hE2).grown hg (fun j e => hge j e)⟩
          case measure => simp [intOf]; omega
      · have HIN := hid hin
        have hin' := hin
        clear hin
        cases g1 : blt l[k].1 f with
        | true =>
          have g1' : Op.bytesLess l[k].1.toList f.toList = true := g1
          clear hin'
          go_wp2
          go_roundw
          case rel => exact ⟨k + 1, by omega, by go_num, by rw [HST.out, if_neg (by rw [HIN.out]; simp), List.append_nil]; exact ho.alloc _, E.alloc _⟩
          case measure => simp [intOf]; omega
        | false =>
          have g1' : Op.bytesLess l[k].1.toList f.toList = false := g1
          have g2 : t.toList.isEmpty = false ∧ blt l[k].1 t = false := by simpa [inB, g1] using hin'
          have hte' := g2.1
          have hte : ¬ t.toList = [] := by simpa using g2.1
          have g2' : Op.bytesLess l[k].1.toList t.toList = false := g2.2
          clear hin' g2
          go_wp2
          go_roundw
          case rel => exact ⟨k + 1, by omega, by go_num, by rw [HST.out, if_neg (by rw [HIN.out]; simp), List.append_nil]; exact ho.alloc _, E.alloc _⟩
          case measure => simp [intOf]; omega
    · obtain rfl : k = l.length := by omega
      go_wp2
      go_ret2
      refine ⟨_, rfl, ?_, E1.trans E⟩
      rw [List.take_of_length_le (Nat.le_refl _)] at ho
      exact own_base ho hz
set_option maxRecDepth 10000 in
theorem scan_bad (v : Value) (l : Prs) (f t : ByteArray) (w : World) (hv : Seg w v 2 l.length (cP l)) (hk : ∀ p ∈ l, p.1.size ≤ 9223372036854775807) (he : storeErr l ≠ 0) :
    Calls Try.prog 64 #[v, .string f, .string t] w fun e w' => e = .returned (.tuple #[.slice none 0 0, .int .i64 (storeErr l)]) ∧ Ext w w' := by
  have q : (storeErr l != 0) = true := by simp [he]
  clear he
  go_enter Try.func64, Try.ntmps64
  go_wp2_with fail
  refine (scheck_any _ l _ hv hk).mono ?_
  rintro e w1 ⟨rfl, E1⟩
  go_wp2
  go_ret2
  exact ⟨rfl, E1⟩
/-- the total, as Go adds it -/
def totTo : Prs → Int
  | [] => 0
  | p :: l => p.2 + totTo l
theorem tot_app (l m : Prs) : totTo (l ++ m) = totTo l + totTo m := by
  induction l with
  | nil => simp [totTo]
  | cons p l ih => simp only [List.cons_append, totTo, ih]; omega
theorem tot_step {l : Prs} {k : Nat} (hk : k < l.length) : totTo (l.take (k + 1)) = totTo (l.take k) + l[k].2 := by
  rw [List.take_succ_eq_append_getElem hk, tot_app]; simp [totTo]
theorem tot_bd {l : Prs} (h : ∀ p ∈ l, -1000000000 ≤ p.2 ∧ p.2 ≤ 1000000000) : ∀ k, k ≤ l.length → -1000000000 * (k : Int) ≤ totTo (l.take k) ∧ totTo (l.take k) ≤ 1000000000 * (k : Int)
  | 0, _ => by simp [totTo]
  | k + 1, hk => by
    have ih := tot_bd h k (by omega)
    have := h l[k] (List.getElem_mem (by omega))
    rw [tot_step (by omega)]
    omega
def totE (l : Prs) : Int := storeErr l
set_option maxRecDepth 10000 in
set_option maxHeartbeats 1000000 in
theorem total_ok (v : Value) (l : Prs) (w : World) (hv : Seg w v 2 l.length (cP l)) (hk : ∀ p ∈ l, p.1.size ≤ 9223372036854775807) (hlen : l.length ≤ 1000000000) (he : storeErr l = 0) :
    Calls Try.prog 63 #[v] w fun e w' => e = .returned (.tuple #[.int .i64 (totTo l), .int .i64 0]) ∧ Ext w w' := by
  have hok := store_ok he
  have hbd := tot_bd (fun p hp => (hok.val p hp).2)
  have HB := hid hbd
  clear hbd
  obtain ⟨h0, a, cap, rfl, h1, h2, h3⟩ := hv
  have hv : Seg w (.slice a l.length cap) 2 l.length (cP l) := ⟨h0, a, cap, rfl, h1, h2, h3⟩
  unfold maxLen at h2
  have q : (storeErr l != 0) = false := by simp [he]
  have HE := hid he
  clear he
  go_enter Try.func63, Try.ntmps63
  go_wp2_with fail
  refine (scheck_any _ l _ hv hk).mono ?_
  rintro e w1 ⟨rfl, E1⟩
  go_wp2_with fail
  go_loopw [5, 7, 15] (fun o _ i wr => ∃ k : Nat, k ≤ l.length ∧ i = .int .i64 k ∧ o = .int .i64 (totTo (l.take k)) ∧ Ext w1 wr) (fun _ _ i _ => l.length - (intOf i).toNat)
  case atStart => exact ⟨0, Nat.zero_le _, rfl, rfl, Ext.refl _⟩
  case round =>
    obtain ⟨k, hkl, rfl, rfl, E⟩ := hrel
    by_cases hlt : k < l.length
    · obtain ⟨b, off, rfl, hc⟩ := h3 (by omega)
      have c := seg_pair hc hlt
      have c0 := E.cell (E1.cell c.1)
      have c1 := E.cell (E1.cell c.2)
      have hb0 := HB.out k hkl
      have hb1 := HB.out (k + 1) (by omega)
      have hst := tot_step hlt
      rw [hst] at hb1
      have HST := hid hst
      clear hc h3 c hst
      go_wp2
      go_roundw
      case rel => exact ⟨k + 1, by omega, by go_num, by rw [HST.out], E.alloc _⟩
      case measure => simp [intOf]; omega
    · obtain rfl : k = l.length := by omega
      have HT := hid (show totTo (l.take l.length) = totTo l by rw [List.take_of_length_le (Nat.le_refl _)])
      go_wp2
      go_ret2
      exact ⟨rT2 (vI HT.out) rfl, E1.trans E⟩
set_option maxRecDepth 10000 in
theorem total_bad (v : Value) (l : Prs) (w : World) (hv : Seg w v 2 l.length (cP l)) (hk : ∀ p ∈ l, p.1.size ≤ 9223372036854775807) (he : storeErr l ≠ 0) :
    Calls Try.prog 63 #[v] w fun e w' => e = .returned (.tuple #[.int .i64 0, .int .i64 (storeErr l)]) ∧ Ext w w' := by
  have q : (storeErr l != 0) = true := by simp [he]
  clear he
  go_enter Try.func63, Try.ntmps63
  go_wp2_with fail
  refine (scheck_any _ l _ hv hk).mono ?_
  rintro e w1 ⟨rfl, E1⟩
  go_wp2
  go_ret2
  exact ⟨rfl, E1⟩
end Go.Proofs.Ytijcckhkofkenaa
