/- Contracts and lemmas for the proof of StoreForms; each theorem states its own conditions. -/
import Derived.Test.YtijcckhkofkenaaQStoreFormsak
import Derived.Test.YtijcckhkofkenaaQStoreFormsab
import Derived.Maps.Own
import Derived.Maps.OwnOps
import Derived.Maps.RangeWalk
import Derived.Maps.Views
set_option linter.unusedVariables false
set_option linter.unusedSimpArgs false
/- Contracts and lemmas for the proofs of this seat; each theorem states its own conditions. -/
namespace Go.Proofs.Ytijcckhkofkenaa
open Go.RowKit
/-! Scan, Total -/
def inB (f t : ByteArray) (p : ByteArray × Int) : Bool := !(blt p.1 f) && (t.toList.isEmpty || blt p.1 t)
def scanP (l : Prs) (f t : ByteArray) : Prs := l.filter (inB f t)
theorem scan_step {l : Prs} {f t : ByteArray} {k : Nat} (hk : k < l.length) : scanP (l.take (k + 1)) f t = scanP (l.take k) f t ++ (if inB f t l[k] then [l[k]] else []) := by
  unfold scanP
  rw [List.take_succ_eq_append_getElem hk, List.filter_append]
  congr 1
  rw [List.filter_cons]; rfl
theorem scan_len (l : Prs) (f t : ByteArray) (k : Nat) : (scanP (l.take k) f t).length ≤ k := by
  have := List.length_filter_le (inB f t) (l.take k)
  rw [List.length_take] at this
  unfold scanP; omega
theorem cP_one1 (p : ByteArray × Int) : cP [p] = [.string p.1, .int .i64 p.2] := by simp [cP]
set_option maxRecDepth 10000 in
set_option maxHeartbeats 1000000 in
theorem scan_ok (v : Value) (l : Prs) (f t : ByteArray) (w : World) (hv : Seg w v 2 l.length (cP l)) (hk : ∀ p ∈ l, p.1.size ≤ 9223372036854775807) (hlen : l.length ≤ 1000000000) (he : storeErr l = 0) :
    Calls Try.prog 64 #[v, .string f, .string t] w fun e w' => ∃ v', e = .returned (.tuple #[v', .int .i64 0]) ∧ w'.ownsRow w.heap.size 90 2 v' (scanP l f t).length (cP (scanP l f t)) ∧ Ext w w' := by
  obtain ⟨h0, a, cap, rfl, h1, h2, h3⟩ := hv
  have hv : Seg w (.slice a l.length cap) 2 l.length (cP l) := ⟨h0, a, cap, rfl, h1, h2, h3⟩
  unfold maxLen at h2
  have q : (storeErr l != 0) = false := by simp [he]
  have HE := hid he
  clear he
  go_enter Try.func64, Try.ntmps64
  go_wp2_with fail
  refine (scheck_any _ l _ hv hk).mono ?_
  rintro e w1 ⟨rfl, E1⟩
  have hz := E1.size'
  go_wp2_with fail
  go_loopw [9, 11, 19] (fun o _ i wr => ∃ k : Nat, k ≤ l.length ∧ i = .int .i64 k ∧ wr.ownsRow w1.heap.size 90 2 o (scanP (l.take k) f t).length (cP (scanP (l.take k) f t)) ∧ Ext w1 wr) (fun _ _ i _ => l.length - (intOf i).toNat)
  case atStart => exact ⟨0, Nat.zero_le _, rfl, World.ownsRow_nil _ _ _ _, Ext.refl _⟩
  case round =>
    obtain ⟨k, hkl, rfl, ho, E⟩ := hrel
    by_cases hlt : k < l.length
    · obtain ⟨b, off, rfl, hc⟩ := h3 (by omega)
      have c := seg_pair hc hlt
      have c0 := E.cell (E1.cell c.1)
      have c1 := E.cell (E1.cell c.2)
      have hst := scan_step (f := f) (t := t) hlt
      have hsl := scan_len l f t k
      have hsz := E.size'
      clear hc h3 c
      have hin : inB f t l[k] = true ∨ inB f t l[k] = false := by cases inB f t l[k] <;> simp
      have hE2 := ((Ext.refl wr).alloc (.cells #[.string l[k].1, .int .i64 l[k].2] 90)).alloc (.cells #[.string l[k].1, .int .i64 l[k].2] 90)
      have hb2 := heap_2 wr (.cells #[.string l[k].1, .int .i64 l[k].2] 90) (.cells #[.string l[k].1, .int .i64 l[k].2] 90)
      have hsv : Seg ((wr.alloc (.cells #[.string l[k].1, .int .i64 l[k].2] 90)).alloc (.cells #[.string l[k].1, .int .i64 l[k].2] 90)) (.slice (some ⟨wr.heap.size + 1, 0, none⟩) 1 1) 2 1 [.string l[k].1, .int .i64 l[k].2] :=
        ⟨rfl, _, _, rfl, Nat.le_refl _, by simp [maxLen], fun _ => ⟨wr.heap.size + 1, 0, rfl, fun j u hu => by have := seg_vb hb2 j u hu; rwa [addr_add] at this⟩⟩
      have hge := own_ge ho
      have hB : w1.heap.size ≤ ((wr.alloc (.cells #[.string l[k].1, .int .i64 l[k].2] 90)).alloc (.cells #[.string l[k].1, .int .i64 l[k].2] 90)).heap.size := by simp; omega
      obtain ⟨ao, co, rfl⟩ := own_form ho
      have HST := hid hst
      clear hst
      rcases hin with hin | hin
      · have HIN := hid hin
        have hin' := hin
        simp only [inB, Bool.and_eq_true, Bool.or_eq_true, Bool.not_eq_true'] at hin'
        clear hin
        obtain ⟨g1, g2⟩ := hin'
        have g1' : Op.bytesLess l[k].1.toList f.toList = false := g1
        by_cases hte : t.toList = []
        · have hte' : (t.toList.isEmpty) = true := by simp [hte]
          go_wp2_with (first | (at_builtin; refine (wpList_app rfl _ _ 82 rfl w1.heap.size 90 (.agg #[.string ⟨#[]⟩, .int .i64 0]) 2 24 Try.underlying82 infoP rfl (by decide) _ (scanP (l.take k) f t).length (cP (scanP (l.take k) f t)) rfl ((ho.alloc _).alloc _) (.slice (some ⟨wr.heap.size + 1, 0, none⟩) 1 1) 1 [.string l[k].1, .int .i64 l[k].2] rfl hsv (kv_one _ _) (by omega) (by unfold maxLen; omega) hB ?_); intro v' w4 ho' hg))
          go_roundw
          case rel => exact ⟨k + 1, by omega, by go_num, by rw [HST.out, if_pos HIN.out, cP_app, cP_one1, List.length_append]; exact ho', (E.trans hE2).grown hg (fun j e => hge j e)⟩
          case measure => simp [intOf]; omega
        · have hte' : (t.toList.isEmpty) = false := by simp [hte]
          have g2' : Op.bytesLess l[k].1.toList t.toList = true := by rcases g2 with g2 | g2; (rw [hte'] at g2; cases g2); exact g2
          go_wp2_with (first | (at_builtin; refine (wpList_app rfl _ _ 82 rfl w1.heap.size 90 (.agg #[.string ⟨#[]⟩, .int .i64 0]) 2 24 Try.underlying82 infoP rfl (by decide) _ (scanP (l.take k) f t).length (cP (scanP (l.take k) f t)) rfl ((ho.alloc _).alloc _) (.slice (some ⟨wr.heap.size + 1, 0, none⟩) 1 1) 1 [.string l[k].1, .int .i64 l[k].2] rfl hsv (kv_one _ _) (by omega) (by unfold maxLen; omega) hB ?_); intro v' w4 ho' hg))
          go_roundw
          case rel => exact ⟨k + 1, by omega, by go_num, by rw [HST.out, if_pos HIN.out, cP_app, cP_one1, List.length_append]; exact ho', (E.trans hE2).grown hg (fun j e => hge j e)⟩
          case measure => simp [intOf]; omega
      · have HIN := hid hin
        have hin' := hin
        clear hin
        cases g1 : blt l[k].1 f with
        | true =>
          have g1' : Op.bytesLess l[k].1.toList f.toList = true := g1
          clear hin'
          go_wp2
          go_roundw
          case rel => exact ⟨k + 1, by omega, by go_num, by rw [HST.out, if_neg (by rw [HIN.out]; simp), List.append_nil]; exact ho.alloc _, E.alloc _⟩
          case measure => simp [intOf]; omega
        | false =>
          have g1' : Op.bytesLess l[k].1.toList f.toList = false := g1
          have g2 : t.toList.isEmpty = false ∧ blt l[k].1 t = false := by simpa [inB, g1] using hin'
          have hte' := g2.1
          have hte : ¬ t.toList = [] := by simpa using g2.1
          have g2' : Op.bytesLess l[k].1.toList t.toList = false := g2.2
          clear hin' g2
          go_wp2
          go_roundw
          case rel => exact ⟨k + 1, by omega, by go_num, by rw [HST.out, if_neg (by rw [HIN.out]; simp), List.append_nil]; exact ho.alloc _, E.alloc _⟩
          case measure => simp [intOf]; omega
    · obtain rfl : k = l.length := by omega
      go_wp2
      go_ret2
      refine ⟨_, rfl, ?_, E1.trans E⟩
      rw [List.take_of_length_le (Nat.le_refl _)] at ho
      exact own_base ho hz
set_option maxRecDepth 10000 in
theorem scan_bad (v : Value) (l : Prs) (f t : ByteArray) (w : World) (hv : Seg w v 2 l.length (cP l)) (hk : ∀ p ∈ l, p.1.size ≤ 9223372036854775807) (he : storeErr l ≠ 0) :
    Calls Try.prog 64 #[v, .string f, .string t] w fun e w' => e = .returned (.tuple #[.slice none 0 0, .int .i64 (storeErr l)]) ∧ Ext w w' := by
  have q : (storeErr l != 0) = true := by simp [he]
  clear he
  go_enter Try.func64, Try.ntmps64
  go_wp2_with fail
  refine (scheck_any _ l _ hv hk).mono ?_
  rintro e w1 ⟨rfl, E1⟩
  go_wp2
  go_ret2
  exact ⟨rfl, E1⟩
/-- the total, as Go adds it -/
def totTo : Prs → Int
  | [] => 0
  | p :: l => p.2 + totTo l
theorem tot_app (l m : Prs) : totTo (l ++ m) = totTo l + totTo m := by
  induction l with
  | nil => simp [totTo]
  | cons p l ih => simp only [List.cons_append, totTo, ih]; omega
theorem tot_step {l : Prs} {k : Nat} (hk : k < l.length) : totTo (l.take (k + 1)) = totTo (l.take k) + l[k].2 := by
  rw [List.take_succ_eq_append_getElem hk, tot_app]; simp [totTo]
theorem tot_bd {l : Prs} (h : ∀ p ∈ l, -1000000000 ≤ p.2 ∧ p.2 ≤ 1000000000) : ∀ k, k ≤ l.length → -1000000000 * (k : Int) ≤ totTo (l.take k) ∧ totTo (l.take k) ≤ 1000000000 * (k : Int)
  | 0, _ => by simp [totTo]
  | k + 1, hk => by
    have ih := tot_bd h k (by omega)
    have := h l[k] (List.getElem_mem (by omega))
    rw [tot_step (by omega)]
    omega
def totE (l : Prs) : Int := storeErr l
set_option maxRecDepth 10000 in
set_option maxHeartbeats 1000000 in
theorem total_ok (v : Value) (l : Prs) (w : World) (hv : Seg w v 2 l.length (cP l)) (hk : ∀ p ∈ l, p.1.size ≤ 9223372036854775807) (hlen : l.length ≤ 1000000000) (he : storeErr l = 0) :
    Calls Try.prog 63 #[v] w fun e w' => e = .returned (.tuple #[.int .i64 (totTo l), .int .i64 0]) ∧ Ext w w' := by
  have hok := store_ok he
  have hbd := tot_bd (fun p hp => (hok.val p hp).2)
  have HB := hid hbd
  clear hbd
  obtain ⟨h0, a, cap, rfl, h1, h2, h3⟩ := hv
  have hv : Seg w (.slice a l.length cap) 2 l.length (cP l) := ⟨h0, a, cap, rfl, h1, h2, h3⟩
  unfold maxLen at h2
  have q : (storeErr l != 0) = false := by simp [he]
  have HE := hid he
  clear he
  go_enter Try.func63, Try.ntmps63
  go_wp2_with fail
  refine (scheck_any _ l _ hv hk).mono ?_
  rintro e w1 ⟨rfl, E1⟩
  go_wp2_with fail
  go_loopw [5, 7, 15] (fun o _ i wr => ∃ k : Nat, k ≤ l.length ∧ i = .int .i64 k ∧ o = .int .i64 (totTo (l.take k)) ∧ Ext w1 wr) (fun _ _ i _ => l.length - (intOf i).toNat)
  case atStart => exact ⟨0, Nat.zero_le _, rfl, rfl, Ext.refl _⟩
  case round =>
    obtain ⟨k, hkl, rfl, rfl, E⟩ := hrel
    by_cases hlt : k < l.length
    · obtain ⟨b, off, rfl, hc⟩ := h3 (by omega)
      have c := seg_pair hc hlt
      have c0 := E.cell (E1.cell c.1)
      have c1 := E.cell (E1.cell c.2)
      have hb0 := HB.out k hkl
      have hb1 := HB.out (k + 1) (by omega)
      have hst := tot_step hlt
      rw [hst] at hb1
      have HST := hid hst
      clear hc h3 c hst
      go_wp2
      go_roundw
      case rel => exact ⟨k + 1, by omega, by go_num, by rw [HST.out], E.alloc _⟩
      case measure => simp [intOf]; omega
    · obtain rfl : k = l.length := by omega
      have HT := hid (show totTo (l.take l.length) = totTo l by rw [List.take_of_length_le (Nat.le_refl _)])
      go_wp2
      go_ret2
      exact ⟨rT2 (vI HT.out) rfl, E1.trans E⟩
set_option maxRecDepth 10000 in
theorem total_bad (v : Value) (l : Prs) (w : World) (hv : Seg w v 2 l.length (cP l)) (hk : ∀ p ∈ l, p.1.size ≤ 9223372036854775807) (he : storeErr l ≠ 0) :
    Calls Try.prog 63 #[v] w fun e w' => e = .returned (.tuple #[.int .i64 0, .int .i64 (storeErr l)]) ∧ Ext w w' := by
  have q : (storeErr l != 0) = true := by simp [he]
  clear he
  go_enter Try.func63, Try.ntmps63
  go_wp2_with fail
  refine (scheck_any _ l _ hv hk).mono ?_
  rintro e w1 ⟨rfl, E1⟩
  go_wp2
  go_ret2
  exact ⟨rfl, E1⟩
end Go.Proofs.Ytijcckhkofkenaa

/- Contracts and lemmas for the proofs of this seat; each theorem states its own conditions. -/
namespace Go.Proofs.Ytijcckhkofkenaa
open Go.RowKit Go.Maps
/-! maps of one's own, as plain functions -/
abbrev DU := DataW Unit
def kS (s : ByteArray) : Lit := .string s.data.toList
def kI (n : Int) : Lit := .int .i64 n
def dI (n : Int) : DU := .lit (.int .i64 n)
def dB (b : Bool) : DU := .lit (.bool b)
def okS (s : ByteArray) : Prop := s.size ≤ maxLen
def okI (n : Int) : Prop := (Lit.int .i64 n).wf = true
theorem kS_inj {a b : ByteArray} (h : kS a = kS b) : a = b := by
  unfold kS at h
  injection h with h
  exact toList_inj (by rw [toList_data, toList_data, h])
theorem kI_inj {a b : Int} (h : kI a = kI b) : a = b := by
  unfold kI at h; injection h
theorem dI_inj {a b : Int} (h : dI a = dI b) : a = b := by
  unfold dI at h; injection h with h; injection h
theorem dB_inj {a b : Bool} (h : dB a = dB b) : a = b := by
  unfold dB at h; injection h with h; injection h
theorem kS_is (s : ByteArray) : WideAt.IsKeyLit (kS s) := trivial
theorem kI_is (s : Int) : WideAt.IsKeyLit (kI s) := trivial
/-- D holds what f says -/
def MapF {κ α : Type} (kl : κ → Lit) (ok : κ → Prop) (vd : α → DU) (D : DU) (f : κ → Option α) : Prop :=
  IsMap D ∧ (∀ k a, f k = some a → ok k) ∧ ∀ k, ok k → (f k = none → has D (kl k) = false) ∧ ∀ a, f k = some a → has D (kl k) = true ∧ ∀ z, D.atKey (kl k) z = vd a
section
variable {κ α : Type} {kl : κ → Lit} {ok : κ → Prop} {vd : α → DU} {D : DU} {f : κ → Option α}
theorem MapF.empty : MapF kl ok vd (.map []) (fun _ => none) := ⟨isMap_empty, ⟨fun _ _ h => (by simp at h), fun _ _ => ⟨fun _ => rfl, fun _ h => (by simp at h)⟩⟩⟩
theorem MapF.put [DecidableEq κ] (h : MapF kl ok vd D f) (inj : ∀ {x y}, kl x = kl y → x = y) (is : ∀ x, WideAt.IsKeyLit (kl x)) {k : κ} (hk : ok k) (a : α) : MapF kl ok vd (D.put (kl k) (vd a)) (fun x => if x = k then some a else f x) := by
  obtain ⟨h1, h2, h3⟩ := h
  refine ⟨h1.put _ _, fun x b hb => ?_, fun x hx => ?_⟩
  · dsimp only at hb
    split at hb
    · rename_i e; subst e; exact hk
    · exact h2 x b hb
  · dsimp only
    by_cases e : x = k
    · subst e
      rw [if_pos rfl]
      refine ⟨fun q => (by cases q), fun b hb => ?_⟩
      injection hb with hb; subst hb
      exact ⟨has_put_same h1 (is _) _, fun z => atKey_put_same h1 (is _) _ z⟩
    · rw [if_neg e]
      have hne : kl x ≠ kl k := fun q => e (inj q)
      refine ⟨fun q => ?_, fun b hb => ?_⟩
      · rw [has_put_other hne]; exact (h3 x hx).1 q
      · obtain ⟨q1, q2⟩ := (h3 x hx).2 b hb
        exact ⟨by rw [has_put_other hne]; exact q1, fun z => by rw [atKey_put_other hne]; exact q2 z⟩
theorem MapF.del [DecidableEq κ] (h : MapF kl ok vd D f) (inj : ∀ {x y}, kl x = kl y → x = y) (k : κ) : MapF kl ok vd (D.del (kl k)) (fun x => if x = k then none else f x) := by
  obtain ⟨h1, h2, h3⟩ := h
  refine ⟨h1.del _, fun x b hb => ?_, fun x hx => ?_⟩
  · dsimp only at hb
    split at hb
    · cases hb
    · exact h2 x b hb
  · dsimp only
    by_cases e : x = k
    · subst e
      rw [if_pos rfl]
      exact ⟨fun _ => has_del_same, fun b hb => (by cases hb)⟩
    · rw [if_neg e]
      have hne : kl x ≠ kl k := fun q => e (inj q)
      refine ⟨fun q => ?_, fun b hb => ?_⟩
      · rw [has_del_other hne]; exact (h3 x hx).1 q
      · obtain ⟨q1, q2⟩ := (h3 x hx).2 b hb
        exact ⟨by rw [has_del_other hne]; exact q1, fun z => by rw [atKey_del_other hne]; exact q2 z⟩
theorem MapF.look (h : MapF kl ok vd D f) (vinj : ∀ {x y}, vd x = vd y → x = y) {k : κ} (hk : ok k) {c z : α} (e : D.atKey (kl k) (vd z) = vd c) : c = (f k).getD z := by
  obtain ⟨h1, h2, h3⟩ := h
  cases hf : f k with
  | none =>
    rw [atKey_of_not_has ((h3 k hk).1 hf)] at e
    exact (vinj e).symm
  | some b =>
    rw [((h3 k hk).2 b hf).2] at e
    exact (vinj e).symm
theorem MapF.get (h : MapF kl ok vd D f) (vinj : ∀ {x y}, vd x = vd y → x = y) {k : κ} (hk : ok k) {c : α} (e : ∀ z, D.atKey (kl k) z = vd c) : f k = some c := by
  obtain ⟨h1, h2, h3⟩ := h
  have hh := has_true_of_atKey e
  cases hf : f k with
  | none => rw [(h3 k hk).1 hf] at hh; cases hh
  | some b =>
    have := ((h3 k hk).2 b hf).2 (.map [])
    rw [e] at this
    rw [vinj this]
theorem MapF.has (h : MapF kl ok vd D f) {k : κ} (hk : ok k) : Maps.has D (kl k) = (f k).isSome := by
  obtain ⟨h1, h2, h3⟩ := h
  cases hf : f k with
  | none => exact (h3 k hk).1 hf
  | some b => exact ((h3 k hk).2 b hf).1
end
theorem keyOf_string_inv {P : Program} {k : TypeId} (hk : P.underlying k = some .string) {key : Value} {kl : Lit} (h : keyOf P k key = some kl) : ∃ x, key = .string x ∧ kl = kS x ∧ okS x := by
  cases key <;> simp [keyOf, hk, mapKey] at h
  obtain ⟨h1, rfl⟩ := h
  exact ⟨_, rfl, rfl, h1⟩
theorem plainElem_bool_inv {P : Program} {e : TypeId} (he : P.underlying e = some .bool) {v : Value} {z : DU × List MemPlace} (h : plainElem P e v = some z) : ∃ a, v = .bool a ∧ z = (dB a, []) := by
  unfold plainElem at h
  rw [he] at h
  cases v <;> simp at h
  exact ⟨_, rfl, h.symm⟩
theorem own_size {P : Program} {k : TypeId} {R : Value → Option (DU × List MemPlace)} {w : World} {b n : Nat} {D : DU} (h : w.ownsMap P k R b n D) : size D ≤ n := by
  obtain ⟨es, clock, hb, F, hs, rfl⟩ := h
  rw [size_eq, length_sorted]
  simpa using hs
theorem ownsMap_ext {P : Program} {k : TypeId} {R : Value → Option (DU × List MemPlace)} {w w' : World} {b n : Nat} {D : DU} (h : w.ownsMap P k R b n D) (k' : Ext w w') : w'.ownsMap P k R b n D := by
  obtain ⟨es, clock, hb, rest⟩ := h
  exact ⟨es, clock, k'.heap hb, rest⟩
theorem ranges_ext {P : Program} {k : TypeId} {R : Value → Option (DU × List MemPlace)} {w w' : World} {b r n : Nat} {D : DU} {left : Lit → Bool} {cnt : Nat} (h : w.ranges P k R b r n D left cnt) (k' : Ext w w') : w'.ranges P k R b r n D left cnt := by
  have hb := h.owns.lt
  have hr := h.lt
  exact h.kept (row := none) ⟨k'.os, k'.tape, k'.output, k'.size', fun j hj _ => Below.block k' j hj⟩ (by simp) (by simp)
section
variable {P : Program} (w : World) {ops : Array Oper} {rest : List Oper} {o : Oper} {a : Act} {Q : Exit → Act → World → Prop}
/-- the step of a loop over a map of texts to numbers -/
theorem wpList_next_si (hg : o.guard = none) (it : Operand) (hop : o.op = Op.next it false) (k e : TypeId) (K : Keyed P k) (hk : P.underlying k = some .string) (he : P.underlying e = some (.int .i64))
    (b r n : Nat) (D : DU) (f : ByteArray → Option Int) (hF : MapF kS okS dI D f) (left : Lit → Bool) (cnt : Nat) (hit : a.eval it = .pointer (some ⟨r, 0, none⟩)) (h : w.ranges P k (plainElem P e) b r n D left cnt)
    (hDone : (∀ kl, left kl = false) → wpList P ops Q rest (a.put o.dst (.tuple #[.bool false])) w)
    (hMore : ∀ (x : ByteArray) (c : Int) (w' : World) (cnt' : Nat), okS x → okI c → left (kS x) = true → f x = some c → w'.ranges P k (plainElem P e) b r n D (fun z => left z && !z.sameKey (kS x)) cnt' → cnt' < cnt →
      w.grownBy w' (some r) → w'.heap.size = w.heap.size → (Instr.entry (.pointer (some ⟨r, 0, none⟩))).run P w' = .ok (.tuple #[.string x, .int .i64 c]) w' → wpList P ops Q rest (a.put o.dst (.tuple #[.bool true, .string x, .int .i64 c])) w') :
    wpList P ops Q (o :: rest) a w :=
  wpList_next_ranges w hg it hop k K (plainElem P e) Value.string (Value.int .i64) (fun key kl hkey => by obtain ⟨x, rfl, _⟩ := keyOf_string_inv hk hkey; exact ⟨x, rfl⟩) (fun v y hv => by obtain ⟨c, rfl, _⟩ := plainElem_int_inv he hv; exact ⟨c, rfl⟩)
    b r n D left cnt hit h (fun _ => hDone) (fun x c kl y w' cnt' hkey hlk hv hat hrg hlt hgr hsz hen => by
      obtain ⟨x', ex, rfl, hwx⟩ := keyOf_string_inv hk hkey
      cases ex
      obtain ⟨c', ec, rfl, hwc⟩ := plainElem_int_inv he hv
      cases ec
      exact hMore x c w' cnt' hwx hwc hlk (hF.get dI_inj hwx hat) hrg hlt hgr hsz hen)
/-- the step of a loop over a map of texts to truths -/
theorem wpList_next_sb (hg : o.guard = none) (it : Operand) (hop : o.op = Op.next it false) (k e : TypeId) (K : Keyed P k) (hk : P.underlying k = some .string) (he : P.underlying e = some .bool)
    (b r n : Nat) (D : DU) (f : ByteArray → Option Bool) (hF : MapF kS okS dB D f) (left : Lit → Bool) (cnt : Nat) (hit : a.eval it = .pointer (some ⟨r, 0, none⟩)) (h : w.ranges P k (plainElem P e) b r n D left cnt)
    (hDone : (∀ kl, left kl = false) → wpList P ops Q rest (a.put o.dst (.tuple #[.bool false])) w)
    (hMore : ∀ (x : ByteArray) (c : Bool) (w' : World) (cnt' : Nat), okS x → left (kS x) = true → f x = some c → w'.ranges P k (plainElem P e) b r n D (fun z => left z && !z.sameKey (kS x)) cnt' → cnt' < cnt →
      w.grownBy w' (some r) → w'.heap.size = w.heap.size → (Instr.entry (.pointer (some ⟨r, 0, none⟩))).run P w' = .ok (.tuple #[.string x, .bool c]) w' → wpList P ops Q rest (a.put o.dst (.tuple #[.bool true, .string x, .bool c])) w') :
    wpList P ops Q (o :: rest) a w :=
  wpList_next_ranges w hg it hop k K (plainElem P e) Value.string Value.bool (fun key kl hkey => by obtain ⟨x, rfl, _⟩ := keyOf_string_inv hk hkey; exact ⟨x, rfl⟩) (fun v y hv => by obtain ⟨c, rfl, _⟩ := plainElem_bool_inv he hv; exact ⟨c, rfl⟩)
    b r n D left cnt hit h (fun _ => hDone) (fun x c kl y w' cnt' hkey hlk hv hat hrg hlt hgr hsz hen => by
      obtain ⟨x', ex, rfl, hwx⟩ := keyOf_string_inv hk hkey
      cases ex
      obtain ⟨c', ec, rfl⟩ := plainElem_bool_inv he hv
      cases ec
      exact hMore x c w' cnt' hwx hlk (hF.get dB_inj hwx hat) hrg hlt hgr hsz hen)
end
/-! what a loop over a map has gathered -/
/-- the pairs gathered of f so far -/
def Gath (f : ByteArray → Option Int) (left : Lit → Bool) (l : List (ByteArray × Int)) : Prop :=
  (l.map (·.1)).Nodup ∧ (∀ p ∈ l, okS p.1) ∧ ∀ k c, okS k → ((k, c) ∈ l ↔ f k = some c ∧ c ≠ 0 ∧ left (kS k) = false)
theorem sameKey_kS {a b : ByteArray} (h : a ≠ b) : (kS a).sameKey (kS b) = false := sameKey_ne fun e => h (kS_inj e)
theorem sameKey_self (a : ByteArray) : (kS a).sameKey (kS a) = true := by simp [kS, Lit.sameKey]
theorem gath_start {D : DU} {f : ByteArray → Option Int} (hF : MapF kS okS dI D f) : Gath f (has D) [] := by
  refine ⟨List.nodup_nil, by simp, fun k c hk => ?_⟩
  rw [hF.has hk]
  simp
  intro h; simp [h]
theorem gath_keep {f : ByteArray → Option Int} {left : Lit → Bool} {l : List (ByteArray × Int)} (h : Gath f left l) {x : ByteArray} {c : Int} (hx : okS x) (hl : left (kS x) = true) (hf : f x = some c) (hc : c ≠ 0) : Gath f (fun z => left z && !z.sameKey (kS x)) (l ++ [(x, c)]) := by
  obtain ⟨h1, h2, h3⟩ := h
  have hn : ∀ d, (x, d) ∉ l := fun d hd => by have := ((h3 x d hx).1 hd).2.2; rw [hl] at this; cases this
  refine ⟨?_, fun p hp => ?_, fun k d hk => ?_⟩
  · rw [List.map_append, List.nodup_append]
    refine ⟨h1, by simp, fun a ha b hb => ?_⟩
    simp at hb; subst hb
    rintro rfl
    obtain ⟨p, hp, e⟩ := List.mem_map.1 ha
    exact hn p.2 (by rw [← e]; exact hp)
  · rcases List.mem_append.1 hp with hp | hp
    · exact h2 p hp
    · simp at hp; subst hp; exact hx
  · by_cases e : k = x
    · subst e
      simp [sameKey_self, hf]
      constructor
      · rintro (h | h)
        · exact absurd h (hn d)
        · subst h; exact ⟨rfl, hc⟩
      · rintro ⟨rfl, _⟩; exact .inr rfl
    · simp only [List.mem_append, h3 k d hk, sameKey_kS e]
      simp [e]
theorem gath_drop {f : ByteArray → Option Int} {left : Lit → Bool} {l : List (ByteArray × Int)} (h : Gath f left l) {x : ByteArray} (hx : okS x) (hl : left (kS x) = true) (hf : f x = some 0) : Gath f (fun z => left z && !z.sameKey (kS x)) l := by
  obtain ⟨h1, h2, h3⟩ := h
  refine ⟨h1, h2, fun k d hk => ?_⟩
  by_cases e : k = x
  · subst e
    simp [h3 k d hk, hf, hl]
    rintro rfl h; exact absurd rfl h
  · simp only [h3 k d hk, sameKey_kS e]
    simp
end Go.Proofs.Ytijcckhkofkenaa
