/- Contracts and lemmas for the proof of DeedSays; each theorem states its own conditions. -/
import Derived.Test.YtijcckhkofkenaaDoorQDeedSaysaw
set_option linter.unusedVariables false
set_option linter.unusedSimpArgs false
/- Contracts and lemmas for the proofs of this seat; each theorem states its own conditions. -/
namespace Go.Proofs.YtijcckhkofkenaaDoor
open Go.RowKit
/-! Scan, Total -/
def inB (f t : ByteArray) (p : ByteArray × Int) : Bool := !(blt p.1 f) && (t.toList.isEmpty || blt p.1 t)
def scanP (l : Prs) (f t : ByteArray) : Prs := l.filter (inB f t)
theorem scan_step {l : Prs} {f t : ByteArray} {k : Nat} (hk : k < l.length) : scanP (l.take (k + 1)) f t = scanP (l.take k) f t ++ (if inB f t l[k] then [l[k]] else []) := by
  unfold scanP
  rw [List.take_succ_eq_append_getElem hk, List.filter_append]
  congr 1
  rw [List.filter_cons]; rfl
theorem scan_len (l : Prs) (f t : ByteArray) (k : Nat) : (scanP (l.take k) f t).length ≤ k := by
  have := List.length_filter_le (inB f t) (l.take k)
  rw [List.length_take] at this
  unfold scanP; omega
theorem cP_one1 (p : ByteArray × Int) : cP [p] = [.string p.1, .int .i64 p.2] := by simp [cP]
set_option maxRecDepth 10000 in
set_option maxHeartbeats 1000000 in
theorem scan_ok (v : Value) (l : Prs) (f t : ByteArray) (w : World) (hv : Seg w v 2 l.length (cP l)) (hk : ∀ p ∈ l, p.1.size ≤ 9223372036854775807) (hlen : l.length ≤ 1000000000) (he : storeErr l = 0) :
    Calls Tryd.prog 81 #[v, .string f, .string t] w fun e w' => ∃ v', e = .returned (.tuple #[v', .int .i64 0]) ∧ w'.ownsRow w.heap.size 107 2 v' (scanP l f t).length (cP (scanP l f t)) ∧ Ext w w' := by
  obtain ⟨h0, a, cap, rfl, h1, h2, h3⟩ := hv
  have hv : Seg w (.slice a l.length cap) 2 l.length (cP l) := ⟨h0, a, cap, rfl, h1, h2, h3⟩
  unfold maxLen at h2
  have q : (storeErr l != 0) = false := by simp [he]
  have HE := hid he
  clear he
  go_enter Tryd.func81, Tryd.ntmps81
  go_wp2_with fail
  refine (scheck_any _ l _ hv hk).mono ?_
  rintro e w1 ⟨rfl, E1⟩
  have hz := E1.size'
  go_wp2_with fail
  go_loopw [9, 11, 19] (fun o _ i wr => ∃ k : Nat, k ≤ l.length ∧ i = .int .i64 k ∧ wr.ownsRow w1.heap.size 107 2 o (scanP (l.take k) f t).length (cP (scanP (l.take k) f t)) ∧ Ext w1 wr) (fun _ _ i _ => l.length - (intOf i).toNat)
  case atStart => exact ⟨0, Nat.zero_le _, rfl, World.ownsRow_nil _ _ _ _, Ext.refl _⟩
  case round =>
    obtain ⟨k, hkl, rfl, ho, E⟩ := hrel
    by_cases hlt : k < l.length
    · obtain ⟨b, off, rfl, hc⟩ := h3 (by omega)
      have c := seg_pair hc hlt
      have c0 := E.cell (E1.cell c.1)
      have c1 := E.cell (E1.cell c.2)
      have hst := scan_step (f := f) (t := t) hlt
      have hsl := scan_len l f t k
      have hsz := E.size'
      clear hc h3 c
      have hin : inB f t l[k] = true ∨ inB f t l[k] = false := by cases inB f t l[k] <;> simp
      have hE2 := ((Ext.refl wr).alloc (.cells #[.string l[k].1, .int .i64 l[k].2] 107)).alloc (.cells #[.string l[k].1, .int .i64 l[k].2] 107)
      have hb2 := heap_2 wr (.cells #[.string l[k].1, .int .i64 l[k].2] 107) (.cells #[.string l[k].1, .int .i64 l[k].2] 107)
      have hsv : Seg ((wr.alloc (.cells #[.string l[k].1, .int .i64 l[k].2] 107)).alloc (.cells #[.string l[k].1, .int .i64 l[k].2] 107)) (.slice (some ⟨wr.heap.size + 1, 0, none⟩) 1 1) 2 1 [.string l[k].1, .int .i64 l[k].2] :=
        ⟨rfl, _, _, rfl, Nat.le_refl _, by simp [maxLen], fun _ => ⟨wr.heap.size + 1, 0, rfl, fun j u hu => by have := seg_vb hb2 j u hu; rwa [addr_add] at this⟩⟩
      have hge := own_ge ho
      have hB : w1.heap.size ≤ ((wr.alloc (.cells #[.string l[k].1, .int .i64 l[k].2] 107)).alloc (.cells #[.string l[k].1, .int .i64 l[k].2] 107)).heap.size := by simp; omega
      obtain ⟨ao, co, rfl⟩ := own_form ho
      have HST := hid hst
      clear hst
      rcases hin with hin | hin
      · have HIN := hid hin
        have hin' := hin
        simp only [inB, Bool.and_eq_true, Bool.or_eq_true, Bool.not_eq_true'] at hin'
        clear hin
        obtain ⟨g1, g2⟩ := hin'
        have g1' : Op.bytesLess l[k].1.toList f.toList = false := g1
        by_cases hte : t.toList = []
        · have hte' : (t.toList.isEmpty) = true := by simp [hte]
          go_wp2_with (first | (at_builtin; refine (wpList_app rfl _ _ 98 rfl w1.heap.size 107 (.agg #[.string ⟨#[]⟩, .int .i64 0]) 2 24 Tryd.underlying98 infoP rfl (by decide) _ (scanP (l.take k) f t).length (cP (scanP (l.take k) f t)) rfl ((ho.alloc _).alloc _) (.slice (some ⟨wr.heap.size + 1, 0, none⟩) 1 1) 1 [.string l[k].1, .int .i64 l[k].2] rfl hsv (kv_one _ _) (by omega) (by unfold maxLen; omega) hB ?_); intro v' w4 ho' hg))
          go_roundw
          case rel => exact ⟨k + 1, by omega, by go_num, by rw [HST.out, if_pos HIN.out, cP_app, cP_one1, List.length_append]; exact ho', (E.trans hE2).grown hg (fun j e => hge j e)⟩
          case measure => simp [intOf]; omega
        · have hte' : (t.toList.isEmpty) = false := by simp [hte]
          have g2' : Op.bytesLess l[k].1.toList t.toList = true := by rcases g2 with g2 | g2; (rw [hte'] at g2; cases g2); exact g2
          go_wp2_with (first | (at_builtin; refine (wpList_app rfl _ _ 98 rfl w1.heap.size 107 (.agg #[.string ⟨#[]⟩, .int .i64 0]) 2 24 Tryd.underlying98 infoP rfl (by decide) _ (scanP (l.take k) f t).length (cP (scanP (l.take k) f t)) rfl ((ho.alloc _).alloc _) (.slice (some ⟨wr.heap.size + 1, 0, none⟩) 1 1) 1 [.string l[k].1, .int .i64 l[k].2] rfl hsv (kv_one _ _) (by omega) (by unfold maxLen; omega) hB ?_); intro v' w4 ho' hg))
          go_roundw
          case rel => exact ⟨k + 1, by omega, by go_num, by rw [HST.out, if_pos HIN.out, cP_app, cP_one1, List.length_append]; exact ho', (E.trans hE2).grown hg (fun j e => hge j e)⟩
          case measure => simp [intOf]; omega
      · have HIN := hid hin
        have hin' := hin
        clear hin
        cases g1 : blt l[k].1 f with
        | true =>
          have g1' : Op.bytesLess l[k].1.toList f.toList = true := g1
          clear hin'
          go_wp2
          go_roundw
          case rel => exact ⟨k + 1, by omega, by go_num, by rw [HST.out, if_neg (by rw [HIN.out]; simp), List.append_nil]; exact ho.alloc _, E.alloc _⟩
          case measure => simp [intOf]; omega
        | false =>
          have g1' : Op.bytesLess l[k].1.toList f.toList = false := g1
          have g2 : t.toList.isEmpty = false ∧ blt l[k].1 t = false := by simpa [inB, g1] using hin'
          have hte' := g2.1
          have hte : ¬ t.toList = [] := by simpa using g2.1
          have g2' : Op.bytesLess l[k].1.toList t.toList = false := g2.2
          clear hin' g2
          go_wp2
          go_roundw
          case rel => exact ⟨k + 1, by omega, by go_num, by rw [HST.out, if_neg (by rw [HIN.out]; simp), List.append_nil]; exact ho.alloc _, E.alloc _⟩
          case measure => simp [intOf]; omega
    · obtain rfl : k = l.length := by omega
      go_wp2
      go_ret2
      refine ⟨_, rfl, ?_, E1.trans E⟩
      rw [List.take_of_length_le (Nat.le_refl _)] at ho
      exact own_base ho hz
set_option maxRecDepth 10000 in
theorem scan_bad (v : Value) (l : Prs) (f t : ByteArray) (w : World) (hv : Seg w v 2 l.length (cP l)) (hk : ∀ p ∈ l, p.1.size ≤ 9223372036854775807) (he : storeErr l ≠ 0) :
    Calls Tryd.prog 81 #[v, .string f, .string t] w fun e w' => e = .returned (.tuple #[.slice none 0 0, .int .i64 (storeErr l)]) ∧ Ext w w' := by
  have q : (storeErr l != 0) = true := by simp [he]
  clear he
  go_enter Tryd.func81, Tryd.ntmps81
  go_wp2_with fail
  refine (scheck_any _ l _ hv hk).mono ?_
  rintro e w1 ⟨rfl, E1⟩
  go_wp2
  go_ret2
  exact ⟨rfl, E1⟩
/-- the total, as Go adds it -/
def totTo : Prs → Int
  | [] => 0
  | p :: l => p.2 + totTo l
theorem tot_app (l m : Prs) : totTo (l ++ m) = totTo l + totTo m := by
  induction l with
  | nil => simp [totTo]
  | cons p l ih => simp only [List.cons_append, totTo, ih]; omega
theorem tot_step {l : Prs} {k : Nat} (hk : k < l.length) : totTo (l.take (k + 1)) = totTo (l.take k) + l[k].2 := by
  rw [List.take_succ_eq_append_getElem hk, tot_app]; simp [totTo]
theorem tot_bd {l : Prs} (h : ∀ p ∈ l, -1000000000 ≤ p.2 ∧ p.2 ≤ 1000000000) : ∀ k, k ≤ l.length → -1000000000 * (k : Int) ≤ totTo (l.take k) ∧ totTo (l.take k) ≤ 1000000000 * (k : Int)
  | 0, _ => by simp [totTo]
  | k + 1, hk => by
    have ih := tot_bd h k (by omega)
    have := h l[k] (List.getElem_mem (by omega))
    rw [tot_step (by omega)]
    omega
def totE (l : Prs) : Int := storeErr l
set_option maxRecDepth 10000 in
set_option maxHeartbeats 1000000 in
theorem total_ok (v : Value) (l : Prs) (w : World) (hv : Seg w v 2 l.length (cP l)) (hk : ∀ p ∈ l, p.1.size ≤ 9223372036854775807) (hlen : l.length ≤ 1000000000) (he : storeErr l = 0) :
    Calls Tryd.prog 82 #[v] w fun e w' => e = .returned (.tuple #[.int .i64 (totTo l), .int .i64 0]) ∧ Ext w w' := by
  have hok := store_ok he
  have hbd := tot_bd (fun p hp => (hok.val p hp).2)
  have HB := hid hbd
  clear hbd
  obtain ⟨h0, a, cap, rfl, h1, h2, h3⟩ := hv
  have hv : Seg w (.slice a l.length cap) 2 l.length (cP l) := ⟨h0, a, cap, rfl, h1, h2, h3⟩
  unfold maxLen at h2
  have q : (storeErr l != 0) = false := by simp [he]
  have HE := hid he
  clear he
  go_enter Tryd.func82, Tryd.ntmps82
  go_wp2_with fail
  refine (scheck_any _ l _ hv hk).mono ?_
  rintro e w1 ⟨rfl, E1⟩
  go_wp2_with fail
  go_loopw [5, 7, 15] (fun o _ i wr => ∃ k : Nat, k ≤ l.length ∧ i = .int .i64 k ∧ o = .int .i64 (totTo (l.take k)) ∧ Ext w1 wr) (fun _ _ i _ => l.length - (intOf i).toNat)
  case atStart => exact ⟨0, Nat.zero_le _, rfl, rfl, Ext.refl _⟩
  case round =>
    obtain ⟨k, hkl, rfl, rfl, E⟩ := hrel
    by_cases hlt : k < l.length
    · obtain ⟨b, off, rfl, hc⟩ := h3 (by omega)
      have c := seg_pair hc hlt
      have c0 := E.cell (E1.cell c.1)
      have c1 := E.cell (E1.cell c.2)
      have hb0 := HB.out k hkl
      have hb1 := HB.out (k + 1) (by omega)
      have hst := tot_step hlt
      rw [hst] at hb1
      have HST := hid hst
      clear hc h3 c hst
      go_wp2
      go_roundw
      case rel => exact ⟨k + 1, by omega, by go_num, by rw [HST.out], E.alloc _⟩
      case measure => simp [intOf]; omega
    · obtain rfl : k = l.length := by omega
      have HT := hid (show totTo (l.take l.length) = totTo l by rw [List.take_of_length_le (Nat.le_refl _)])
      go_wp2
      go_ret2
      exact ⟨rT2 (vI HT.out) rfl, E1.trans E⟩
set_option maxRecDepth 10000 in
theorem total_bad (v : Value) (l : Prs) (w : World) (hv : Seg w v 2 l.length (cP l)) (hk : ∀ p ∈ l, p.1.size ≤ 9223372036854775807) (he : storeErr l ≠ 0) :
    Calls Tryd.prog 82 #[v] w fun e w' => e = .returned (.tuple #[.int .i64 0, .int .i64 (storeErr l)]) ∧ Ext w w' := by
  have q : (storeErr l != 0) = true := by simp [he]
  clear he
  go_enter Tryd.func82, Tryd.ntmps82
  go_wp2_with fail
  refine (scheck_any _ l _ hv hk).mono ?_
  rintro e w1 ⟨rfl, E1⟩
  go_wp2
  go_ret2
  exact ⟨rfl, E1⟩
end Go.Proofs.YtijcckhkofkenaaDoor
