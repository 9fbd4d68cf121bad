/- Contracts and lemmas for the proof of PlanSays; each theorem states its own conditions. -/
import Derived.Test.YtomgeolmfpijoaaDoorQPlanSaysaj
import Derived.Test.YtomgeolmfpijoaaDoorQPlanSaysab
import Derived.Maps.Own
import Derived.Maps.OwnOps
import Derived.Maps.RangeWalk
import Derived.Maps.Views
set_option linter.unusedVariables false
set_option linter.unusedSimpArgs false
/- Contracts and lemmas for the proofs of this seat; each theorem states its own conditions. -/
namespace Go.Proofs.YtomgeolmfpijoaaDoor
open Go.RowKit
theorem insP_any (B c : Nat) (a : Option Addr) (l : Prs) (i : Nat) (k : ByteArray) (n : Int) (vb : Nat) (w : World) (h : w.ownsRow B 98 2 (.slice a l.length c) l.length (cP l)) (hB : B ≤ w.heap.size) (hi : i ≤ l.length)
    (hv : w.heap[vb]? = some (.cells #[.string k, .int .i64 n] 98 (0, 0))) (hne : (Value.slice a l.length c).ownBlock ≠ some vb) (hlen : l.length ≤ 1000000) :
    Calls Tryd.prog 205 #[.slice a l.length c, .int .i64 i, .slice (some ⟨vb, 0, none⟩) 1 1] w fun e w' =>
      ∃ v', e = .returned v' ∧ Seg w' v' 2 (l.length + 1) (cP (l.take i ++ [(k, n)] ++ l.drop i)) ∧ Below B w w' := by
  by_cases hil : i < l.length
  · obtain ⟨g, cur, rfl, h1, h2, h3, h4, h5, h6, h7⟩ := own_row h (by omega)
    have hg : vb ≠ g := fun e => hne (by simp [Value.ownBlock, e])
    by_cases hr : l.length + 1 ≤ c
    · exact insP_room B c g l i k n vb w cur h3 h1 hr h5 h6 h7 hil hv hg hB hlen
    · exact insP_grow B c g l i k n vb w cur h3 h4 (by omega) h5 h6 h7 hil hv hB hlen
  · obtain rfl : i = l.length := by omega
    have := insP_end B c a l k n vb w h hB hv hlen
    rw [List.take_of_length_le (Nat.le_refl _), List.drop_of_length_le (Nat.le_refl _), List.append_nil]
    exact this
theorem cP_set (l : Prs) (i : Nat) (hi : i < l.length) (n : Int) : (cP l).set (i * 2 + 1) (.int .i64 n) = cP (l.take i ++ [(l[i].1, n)] ++ l.drop (i + 1)) := by
  induction l generalizing i with
  | nil => simp at hi
  | cons p l ih =>
    cases i with
    | zero => simp [cP]
    | succ i =>
      have := ih i (by simpa using hi)
      rw [show (i + 1) * 2 + 1 = i * 2 + 1 + 1 + 1 from by omega]
      simp only [cP, List.flatMap_cons, List.cons_append, List.nil_append, List.set_cons_succ, List.take_succ_cons, List.getElem_cons_succ, List.drop_succ_cons] at this ⊢
      rw [this]
theorem own_store {w : World} {B c : Nat} {a : Option Addr} {l : Prs} (h : w.ownsRow B 98 2 (.slice a l.length c) l.length (cP l)) (i : Nat) (hi : i < l.length) (n : Int) :
    ∃ g, a = some ⟨g, 0, none⟩ ∧ B ≤ g ∧ g < w.heap.size ∧ l.length ≤ c ∧ c ≤ maxLen ∧ (∃ u, w.cell? ⟨g, i * 2 + 1, none⟩ = some u) ∧ w.frozen? ⟨g, i * 2 + 1, none⟩ = false ∧
      (w.setCell ⟨g, i * 2 + 1, none⟩ (.int .i64 n)).ownsRow B 98 2 (.slice (some ⟨g, 0, none⟩) l.length c) l.length (cP (l.take i ++ [(l[i].1, n)] ++ l.drop (i + 1))) := by
  obtain ⟨g, cur, rfl, h1, h2, h3, h4, h5, h6, h7⟩ := own_row h (by omega)
  have hlt : i * 2 + 1 < cur.length := by omega
  have hset : w.setCell ⟨g, i * 2 + 1, none⟩ (.int .i64 n) = w.setRow g (cur.set (i * 2 + 1) (.int .i64 n)).toArray := by
    rw [setCell_eq_setRow w g (i * 2 + 1) cur.toArray 98 (0, 0) _ h3]; simp
  refine ⟨g, rfl, h1, h2, h4, h5, ⟨cur[i * 2 + 1], h3.cell (by simp [hlt])⟩, by unfold RowB at h3; simp [World.frozen?, h3], ?_⟩
  rw [hset]
  refine own_of_row (h3.set _) h1 h4 h5 (by simpa using h6) ?_ ?_
  · rw [cP_len, List.length_append, List.length_append, List.length_take, List.length_drop]; simp; omega
  · rw [← cP_set l i hi, List.take_set, h7]
set_option maxRecDepth 100000 in
set_option maxHeartbeats 1000000 in
theorem with_any (v : Value) (l : Prs) (key : ByteArray) (n : Int) (w : World) (hv : Seg w v 2 l.length (cP l)) (hs : srtP l) (hlen : l.length ≤ 1000000) :
    Calls Tryd.prog 164 #[v, .string key, .int .i64 n] w fun e w' => ∃ v', e = .returned v' ∧ w'.ownsRow w.heap.size 98 2 v' (withP l key n).length (cP (withP l key n)) ∧ Ext w w' := by
  go_enter Tryd.func164, Tryd.ntmps164
  go_wp2_with fail
  refine (sfind_any _ l key _ hv hs (by omega)).mono ?_
  rintro e w1 ⟨i, hc, rfl, E1⟩
  have hw := with_cut (n := n) hs hc
  have hi := hc.1
  have HC := hid hc
  clear hc
  go_wp2_with fail
  refine (clone_Pair _ _ _ _ (hv.ext E1) (cP_one _) (by omega)).mono ?_
  rintro e w2 ⟨a, c, rfl, ho, E2⟩
  cases hh : hitS (keysP l) key i with
  | true =>
    have hil := hit_lt hh
    rw [keysP_len] at hil
    have hk : l[i].1 = key := by
      rw [hitS_eq (by rw [keysP_len]; exact hil), keysP_get] at hh
      exact toList_inj (by simpa using hh)
    have HW := hid (hw.1 hh)
    have HK := hid hk
    clear hw hk
    by_cases hn : n = 0
    · have hn' : (n == 0) = true := by simp [hn]
      have HN := hid hn
      clear hn
      obtain ⟨g, cur, rfl, h1, h2, h3, h4, h5, h6, h7⟩ := own_row ho (by omega)
      go_wp2_with fail
      refine (delP_any w1.heap.size c g l i _ cur h3 h1 h4 h5 h6 h7 hil hlen).mono ?_
      rintro e w3 ⟨v3, rfl, hsg, hB3⟩
      go_wp2_with fail
      refine (clone_Pair _ _ _ _ hsg (cP_one _) (by omega)).mono ?_
      rintro e w4 ⟨a4, c4, rfl, ho4, E4⟩
      go_wp2
      go_ret
      have hE : withP l key n = l.take i ++ l.drop (i + 1) := by rw [HW.out, if_pos HN.out, List.append_nil]
      have hL : (withP l key n).length = l.length - 1 := by rw [hE, List.length_append, List.length_take, List.length_drop]; omega
      have hE3 : Ext w1 w3 := Below.trans E2 hB3
      refine ⟨_, rfl, ?_, E1.trans (hE3.trans E4)⟩
      rw [hL, hE]
      exact own_base ho4 (by have := E1.size'; have := hE3.size'; omega)
    · have hn' : (n == 0) = false := by simp [hn]
      have HN := hid hn
      clear hn
      obtain ⟨g, rfl, h1, h2, h3, h4, ⟨u, h5⟩, h6, h7⟩ := own_store ho i hil n
      unfold maxLen at h4
      have q1 : (0 : Int) ≤ (i : Int) := by omega
      have q2 : (i : Int) < (l.length : Int) := by omega
      have hE3 := E2.setCell (p := ⟨g, i * 2 + 1, none⟩) h1 (.int .i64 n)
      go_wp2
      go_ret
      have hE : withP l key n = l.take i ++ [(l[i].1, n)] ++ l.drop (i + 1) := by rw [HW.out, if_neg HN.out, HK.out]
      have hL : (withP l key n).length = l.length := by rw [hE]; simp; omega
      refine ⟨_, rfl, ?_, E1.trans hE3⟩
      rw [hL, hE]
      exact own_base h7 (by have := E1.size'; omega)
  | false =>
    have HW := hid (hw.2 hh)
    clear hw
    by_cases hn : n = 0
    · have hn' : (n == 0) = true := by simp [hn]
      have HN := hid hn
      clear hn
      go_wp2
      go_ret
      have hE : withP l key n = l := by rw [HW.out, if_pos HN.out, List.append_nil, List.take_append_drop]
      refine ⟨_, rfl, ?_, E1.trans E2⟩
      rw [hE]
      exact own_base ho (by have := E1.size'; omega)
    · have hn' : (n == 0) = false := by simp [hn]
      have HN := hid hn
      clear hn
      have hvb := heap_alloc_new w2 (.cells #[.string key, .int .i64 n] 98)
      have hlt := ho.lt
      go_wp2_with fail
      refine (insP_any w1.heap.size c a l i key n w2.heap.size _ (ho.alloc _) (by have := E2.size'; simp; omega) hi hvb (fun e => by have := (hlt _ e).2; omega) hlen).mono ?_
      rintro e w3 ⟨v3, rfl, hsg, hB3⟩
      go_wp2_with fail
      refine (clone_Pair _ _ _ _ hsg (cP_one _) (by omega)).mono ?_
      rintro e w4 ⟨a4, c4, rfl, ho4, E4⟩
      go_wp2
      go_ret
      have hE : withP l key n = l.take i ++ [(key, n)] ++ l.drop i := by rw [HW.out, if_neg HN.out]
      have hL : (withP l key n).length = l.length + 1 := by rw [hE]; simp; omega
      have hE3 : Ext w1 w3 := Below.trans (E2.alloc _) hB3
      refine ⟨_, rfl, ?_, E1.trans (hE3.trans E4)⟩
      rw [hL, hE]
      exact own_base ho4 (by have := E1.size'; have := hE3.size'; omega)
end Go.Proofs.YtomgeolmfpijoaaDoor

/- Contracts and lemmas for the proofs of this seat; each theorem states its own conditions. -/
namespace Go.Proofs.YtomgeolmfpijoaaDoor
open Go.RowKit
def getE (l : Prs) (key : ByteArray) : Int := if storeErr l ≠ 0 then storeErr l else if keyB key then 0 else 3
def getV (l : Prs) (key : ByteArray) : Int := if storeErr l = 0 ∧ keyB key = true then valP l key else 0
def putE (l : Prs) (key : ByteArray) (n : Int) : Int := if storeErr l ≠ 0 then storeErr l else if keyB key = false then 3 else if valB n then 0 else 1
end Go.Proofs.YtomgeolmfpijoaaDoor

/- Contracts and lemmas for the proofs of this seat; each theorem states its own conditions. -/
namespace Go.Proofs.YtomgeolmfpijoaaDoor
open Go.RowKit
/-! Scan, Total -/
def inB (f t : ByteArray) (p : ByteArray × Int) : Bool := !(blt p.1 f) && (t.toList.isEmpty || blt p.1 t)
def scanP (l : Prs) (f t : ByteArray) : Prs := l.filter (inB f t)
theorem scan_step {l : Prs} {f t : ByteArray} {k : Nat} (hk : k < l.length) : scanP (l.take (k + 1)) f t = scanP (l.take k) f t ++ (if inB f t l[k] then [l[k]] else []) := by
  unfold scanP
  rw [List.take_succ_eq_append_getElem hk, List.filter_append]
  congr 1
  rw [List.filter_cons]; rfl
theorem scan_len (l : Prs) (f t : ByteArray) (k : Nat) : (scanP (l.take k) f t).length ≤ k := by
  have := List.length_filter_le (inB f t) (l.take k)
  rw [List.length_take] at this
  unfold scanP; omega
theorem cP_one1 (p : ByteArray × Int) : cP [p] = [.string p.1, .int .i64 p.2] := by simp [cP]
/-- the total, as Go adds it -/
def totTo : Prs → Int
  | [] => 0
  | p :: l => p.2 + totTo l
theorem tot_app (l m : Prs) : totTo (l ++ m) = totTo l + totTo m := by
  induction l with
  | nil => simp [totTo]
  | cons p l ih => simp only [List.cons_append, totTo, ih]; omega
theorem tot_step {l : Prs} {k : Nat} (hk : k < l.length) : totTo (l.take (k + 1)) = totTo (l.take k) + l[k].2 := by
  rw [List.take_succ_eq_append_getElem hk, tot_app]; simp [totTo]
theorem tot_bd {l : Prs} (h : ∀ p ∈ l, -1000000000 ≤ p.2 ∧ p.2 ≤ 1000000000) : ∀ k, k ≤ l.length → -1000000000 * (k : Int) ≤ totTo (l.take k) ∧ totTo (l.take k) ≤ 1000000000 * (k : Int)
  | 0, _ => by simp [totTo]
  | k + 1, hk => by
    have ih := tot_bd h k (by omega)
    have := h l[k] (List.getElem_mem (by omega))
    rw [tot_step (by omega)]
    omega
def totE (l : Prs) : Int := storeErr l
end Go.Proofs.YtomgeolmfpijoaaDoor

/- Contracts and lemmas for the proofs of this seat; each theorem states its own conditions. -/
namespace Go.Proofs.YtomgeolmfpijoaaDoor
open Go.RowKit Go.Maps
/-! maps of one's own, as plain functions -/
abbrev DU := DataW Unit
def kS (s : ByteArray) : Lit := .string s.data.toList
def kI (n : Int) : Lit := .int .i64 n
def dI (n : Int) : DU := .lit (.int .i64 n)
def dB (b : Bool) : DU := .lit (.bool b)
def okS (s : ByteArray) : Prop := s.size ≤ maxLen
def okI (n : Int) : Prop := (Lit.int .i64 n).wf = true
theorem kS_inj {a b : ByteArray} (h : kS a = kS b) : a = b := by
  unfold kS at h
  injection h with h
  exact toList_inj (by rw [toList_data, toList_data, h])
theorem kI_inj {a b : Int} (h : kI a = kI b) : a = b := by
  unfold kI at h; injection h
theorem dI_inj {a b : Int} (h : dI a = dI b) : a = b := by
  unfold dI at h; injection h with h; injection h
theorem dB_inj {a b : Bool} (h : dB a = dB b) : a = b := by
  unfold dB at h; injection h with h; injection h
theorem kS_is (s : ByteArray) : WideAt.IsKeyLit (kS s) := trivial
theorem kI_is (s : Int) : WideAt.IsKeyLit (kI s) := trivial
/-- D holds what f says -/
def MapF {κ α : Type} (kl : κ → Lit) (ok : κ → Prop) (vd : α → DU) (D : DU) (f : κ → Option α) : Prop :=
  _root_.Go.Maps.IsMap D ∧ (∀ k a, f k = some a → ok k) ∧ ∀ k, ok k → (f k = none → has D (kl k) = false) ∧ ∀ a, f k = some a → has D (kl k) = true ∧ ∀ z, D.atKey (kl k) z = vd a
section
variable {κ α : Type} {kl : κ → Lit} {ok : κ → Prop} {vd : α → DU} {D : DU} {f : κ → Option α}
theorem MapF.empty : MapF kl ok vd (.map []) (fun _ => none) := ⟨isMap_empty, ⟨fun _ _ h => (by simp at h), fun _ _ => ⟨fun _ => rfl, fun _ h => (by simp at h)⟩⟩⟩
theorem MapF.put [DecidableEq κ] (h : MapF kl ok vd D f) (inj : ∀ {x y}, kl x = kl y → x = y) (is : ∀ x, WideAt.IsKeyLit (kl x)) {k : κ} (hk : ok k) (a : α) : MapF kl ok vd (D.put (kl k) (vd a)) (fun x => if x = k then some a else f x) := by
  obtain ⟨h1, h2, h3⟩ := h
  refine ⟨h1.put _ _, fun x b hb => ?_, fun x hx => ?_⟩
  · dsimp only at hb
    split at hb
    · rename_i e; subst e; exact hk
    · exact h2 x b hb
  · dsimp only
    by_cases e : x = k
    · subst e
      rw [if_pos rfl]
      refine ⟨fun q => (by cases q), fun b hb => ?_⟩
      injection hb with hb; subst hb
      exact ⟨has_put_same h1 (is _) _, fun z => atKey_put_same h1 (is _) _ z⟩
    · rw [if_neg e]
      have hne : kl x ≠ kl k := fun q => e (inj q)
      refine ⟨fun q => ?_, fun b hb => ?_⟩
      · rw [has_put_other hne]; exact (h3 x hx).1 q
      · obtain ⟨q1, q2⟩ := (h3 x hx).2 b hb
        exact ⟨by rw [has_put_other hne]; exact q1, fun z => by rw [atKey_put_other hne]; exact q2 z⟩
theorem MapF.del [DecidableEq κ] (h : MapF kl ok vd D f) (inj : ∀ {x y}, kl x = kl y → x = y) (k : κ) : MapF kl ok vd (D.del (kl k)) (fun x => if x = k then none else f x) := by
  obtain ⟨h1, h2, h3⟩ := h
  refine ⟨h1.del _, fun x b hb => ?_, fun x hx => ?_⟩
  · dsimp only at hb
    split at hb
    · cases hb
    · exact h2 x b hb
  · dsimp only
    by_cases e : x = k
    · subst e
      rw [if_pos rfl]
      exact ⟨fun _ => has_del_same, fun b hb => (by cases hb)⟩
    · rw [if_neg e]
      have hne : kl x ≠ kl k := fun q => e (inj q)
      refine ⟨fun q => ?_, fun b hb => ?_⟩
      · rw [has_del_other hne]; exact (h3 x hx).1 q
      · obtain ⟨q1, q2⟩ := (h3 x hx).2 b hb
        exact ⟨by rw [has_del_other hne]; exact q1, fun z => by rw [atKey_del_other hne]; exact q2 z⟩
theorem MapF.look (h : MapF kl ok vd D f) (vinj : ∀ {x y}, vd x = vd y → x = y) {k : κ} (hk : ok k) {c z : α} (e : D.atKey (kl k) (vd z) = vd c) : c = (f k).getD z := by
  obtain ⟨h1, h2, h3⟩ := h
  cases hf : f k with
  | none =>
    rw [atKey_of_not_has ((h3 k hk).1 hf)] at e
    exact (vinj e).symm
  | some b =>
    rw [((h3 k hk).2 b hf).2] at e
    exact (vinj e).symm
theorem MapF.get (h : MapF kl ok vd D f) (vinj : ∀ {x y}, vd x = vd y → x = y) {k : κ} (hk : ok k) {c : α} (e : ∀ z, D.atKey (kl k) z = vd c) : f k = some c := by
  obtain ⟨h1, h2, h3⟩ := h
  have hh := has_true_of_atKey e
  cases hf : f k with
  | none => rw [(h3 k hk).1 hf] at hh; cases hh
  | some b =>
    have := ((h3 k hk).2 b hf).2 (.map [])
    rw [e] at this
    rw [vinj this]
theorem MapF.has (h : MapF kl ok vd D f) {k : κ} (hk : ok k) : Maps.has D (kl k) = (f k).isSome := by
  obtain ⟨h1, h2, h3⟩ := h
  cases hf : f k with
  | none => exact (h3 k hk).1 hf
  | some b => exact ((h3 k hk).2 b hf).1
end
theorem keyOf_string_inv {P : Program} {k : TypeId} (hk : P.underlying k = some .string) {key : Value} {kl : Lit} (h : Go.keyOf P k key = some kl) : ∃ x, key = .string x ∧ kl = kS x ∧ okS x := by
  cases key <;> simp [Go.keyOf, hk, mapKey] at h
  obtain ⟨h1, rfl⟩ := h
  exact ⟨_, rfl, rfl, h1⟩
theorem plainElem_bool_inv {P : Program} {e : TypeId} (he : P.underlying e = some .bool) {v : Value} {z : DU × List MemPlace} (h : plainElem P e v = some z) : ∃ a, v = .bool a ∧ z = (dB a, []) := by
  unfold plainElem at h
  rw [he] at h
  cases v <;> simp at h
  exact ⟨_, rfl, h.symm⟩
theorem own_size {P : Program} {k : TypeId} {R : Value → Option (DU × List MemPlace)} {w : World} {b n : Nat} {D : DU} (h : w.ownsMap P k R b n D) : size D ≤ n := by
  obtain ⟨es, clock, hb, F, hs, rfl⟩ := h
  rw [size_eq, length_sorted]
  simpa using hs
theorem ownsMap_ext {P : Program} {k : TypeId} {R : Value → Option (DU × List MemPlace)} {w w' : World} {b n : Nat} {D : DU} (h : w.ownsMap P k R b n D) (k' : Ext w w') : w'.ownsMap P k R b n D := by
  obtain ⟨es, clock, hb, rest⟩ := h
  exact ⟨es, clock, k'.heap hb, rest⟩
theorem ranges_ext {P : Program} {k : TypeId} {R : Value → Option (DU × List MemPlace)} {w w' : World} {b r n : Nat} {D : DU} {left : Lit → Bool} {cnt : Nat} (h : w.ranges P k R b r n D left cnt) (k' : Ext w w') : w'.ranges P k R b r n D left cnt := by
  have hb := h.owns.lt
  have hr := h.lt
  exact h.kept (row := none) ⟨k'.os, k'.tape, k'.output, k'.size', fun j hj _ => Below.block k' j hj⟩ (by simp) (by simp)
section
variable {P : Program} (w : World) {ops : Array Oper} {rest : List Oper} {o : Oper} {a : Act} {Q : Exit → Act → World → Prop}
/-- the step of a loop over a map of texts to numbers -/
theorem wpList_next_si (hg : o.guard = none) (it : Operand) (hop : o.op = Op.next it false) (k e : TypeId) (K : Keyed P k) (hk : P.underlying k = some .string) (he : P.underlying e = some (.int .i64))
    (b r n : Nat) (D : DU) (f : ByteArray → Option Int) (hF : MapF kS okS dI D f) (left : Lit → Bool) (cnt : Nat) (hit : a.eval it = .pointer (some ⟨r, 0, none⟩)) (h : w.ranges P k (plainElem P e) b r n D left cnt)
    (hDone : (∀ kl, left kl = false) → wpList P ops Q rest (a.put o.dst (.tuple #[.bool false])) w)
    (hMore : ∀ (x : ByteArray) (c : Int) (w' : World) (cnt' : Nat), okS x → okI c → left (kS x) = true → f x = some c → w'.ranges P k (plainElem P e) b r n D (fun z => left z && !z.sameKey (kS x)) cnt' → cnt' < cnt →
      w.grownBy w' (some r) → w'.heap.size = w.heap.size → (Instr.entry (.pointer (some ⟨r, 0, none⟩))).run P w' = .ok (.tuple #[.string x, .int .i64 c]) w' → wpList P ops Q rest (a.put o.dst (.tuple #[.bool true, .string x, .int .i64 c])) w') :
    wpList P ops Q (o :: rest) a w :=
  wpList_next_ranges w hg it hop k K (plainElem P e) Value.string (Value.int .i64) (fun key kl hkey => by obtain ⟨x, rfl, _⟩ := keyOf_string_inv hk hkey; exact ⟨x, rfl⟩) (fun v y hv => by obtain ⟨c, rfl, _⟩ := plainElem_int_inv he hv; exact ⟨c, rfl⟩)
    b r n D left cnt hit h (fun _ => hDone) (fun x c kl y w' cnt' hkey hlk hv hat hrg hlt hgr hsz hen => by
      obtain ⟨x', ex, rfl, hwx⟩ := keyOf_string_inv hk hkey
      cases ex
      obtain ⟨c', ec, rfl, hwc⟩ := plainElem_int_inv he hv
      cases ec
      exact hMore x c w' cnt' hwx hwc hlk (hF.get dI_inj hwx hat) hrg hlt hgr hsz hen)
/-- the step of a loop over a map of texts to truths -/
theorem wpList_next_sb (hg : o.guard = none) (it : Operand) (hop : o.op = Op.next it false) (k e : TypeId) (K : Keyed P k) (hk : P.underlying k = some .string) (he : P.underlying e = some .bool)
    (b r n : Nat) (D : DU) (f : ByteArray → Option Bool) (hF : MapF kS okS dB D f) (left : Lit → Bool) (cnt : Nat) (hit : a.eval it = .pointer (some ⟨r, 0, none⟩)) (h : w.ranges P k (plainElem P e) b r n D left cnt)
    (hDone : (∀ kl, left kl = false) → wpList P ops Q rest (a.put o.dst (.tuple #[.bool false])) w)
    (hMore : ∀ (x : ByteArray) (c : Bool) (w' : World) (cnt' : Nat), okS x → left (kS x) = true → f x = some c → w'.ranges P k (plainElem P e) b r n D (fun z => left z && !z.sameKey (kS x)) cnt' → cnt' < cnt →
      w.grownBy w' (some r) → w'.heap.size = w.heap.size → (Instr.entry (.pointer (some ⟨r, 0, none⟩))).run P w' = .ok (.tuple #[.string x, .bool c]) w' → wpList P ops Q rest (a.put o.dst (.tuple #[.bool true, .string x, .bool c])) w') :
    wpList P ops Q (o :: rest) a w :=
  wpList_next_ranges w hg it hop k K (plainElem P e) Value.string Value.bool (fun key kl hkey => by obtain ⟨x, rfl, _⟩ := keyOf_string_inv hk hkey; exact ⟨x, rfl⟩) (fun v y hv => by obtain ⟨c, rfl, _⟩ := plainElem_bool_inv he hv; exact ⟨c, rfl⟩)
    b r n D left cnt hit h (fun _ => hDone) (fun x c kl y w' cnt' hkey hlk hv hat hrg hlt hgr hsz hen => by
      obtain ⟨x', ex, rfl, hwx⟩ := keyOf_string_inv hk hkey
      cases ex
      obtain ⟨c', ec, rfl⟩ := plainElem_bool_inv he hv
      cases ec
      exact hMore x c w' cnt' hwx hlk (hF.get dB_inj hwx hat) hrg hlt hgr hsz hen)
end
/-! what a loop over a map has gathered -/
/-- the pairs gathered of f so far -/
def Gath (f : ByteArray → Option Int) (left : Lit → Bool) (l : List (ByteArray × Int)) : Prop :=
  (l.map (·.1)).Nodup ∧ (∀ p ∈ l, okS p.1) ∧ ∀ k c, okS k → ((k, c) ∈ l ↔ f k = some c ∧ c ≠ 0 ∧ left (kS k) = false)
theorem sameKey_kS {a b : ByteArray} (h : a ≠ b) : (kS a).sameKey (kS b) = false := sameKey_ne fun e => h (kS_inj e)
theorem sameKey_self (a : ByteArray) : (kS a).sameKey (kS a) = true := by simp [kS, Lit.sameKey]
theorem gath_start {D : DU} {f : ByteArray → Option Int} (hF : MapF kS okS dI D f) : Gath f (has D) [] := by
  refine ⟨List.nodup_nil, by simp, fun k c hk => ?_⟩
  rw [hF.has hk]
  simp
  intro h; simp [h]
theorem gath_keep {f : ByteArray → Option Int} {left : Lit → Bool} {l : List (ByteArray × Int)} (h : Gath f left l) {x : ByteArray} {c : Int} (hx : okS x) (hl : left (kS x) = true) (hf : f x = some c) (hc : c ≠ 0) : Gath f (fun z => left z && !z.sameKey (kS x)) (l ++ [(x, c)]) := by
  obtain ⟨h1, h2, h3⟩ := h
  have hn : ∀ d, (x, d) ∉ l := fun d hd => by have := ((h3 x d hx).1 hd).2.2; rw [hl] at this; cases this
  refine ⟨?_, fun p hp => ?_, fun k d hk => ?_⟩
  · rw [List.map_append, List.nodup_append]
    refine ⟨h1, by simp, fun a ha b hb => ?_⟩
    simp at hb; subst hb
    rintro rfl
    obtain ⟨p, hp, e⟩ := List.mem_map.1 ha
    exact hn p.2 (by rw [← e]; exact hp)
  · rcases List.mem_append.1 hp with hp | hp
    · exact h2 p hp
    · simp at hp; subst hp; exact hx
  · by_cases e : k = x
    · subst e
      simp [sameKey_self, hf]
      constructor
      · rintro (h | h)
        · exact absurd h (hn d)
        · subst h; exact ⟨rfl, hc⟩
      · rintro ⟨rfl, _⟩; exact .inr rfl
    · simp only [List.mem_append, h3 k d hk, sameKey_kS e]
      simp [e]
theorem gath_drop {f : ByteArray → Option Int} {left : Lit → Bool} {l : List (ByteArray × Int)} (h : Gath f left l) {x : ByteArray} (hx : okS x) (hl : left (kS x) = true) (hf : f x = some 0) : Gath f (fun z => left z && !z.sameKey (kS x)) l := by
  obtain ⟨h1, h2, h3⟩ := h
  refine ⟨h1, h2, fun k d hk => ?_⟩
  by_cases e : k = x
  · subst e
    simp [h3 k d hk, hf, hl]
    rintro rfl h; exact absurd rfl h
  · simp only [h3 k d hk, sameKey_kS e]
    simp
end Go.Proofs.YtomgeolmfpijoaaDoor
