/- Contracts and lemmas for the proof of PlanPlays; each theorem states its own conditions. -/
import Derived.Test.YtghemmmkbpfdhaaGreatDoorQPlanPlaysak
set_option linter.unusedVariables false
set_option linter.unusedSimpArgs false
/- Contracts and lemmas for the proofs of this seat; each theorem states its own conditions. -/
namespace Go.Proofs.YtghemmmkbpfdhaaGreatDoor
open Go.RowKit
theorem insP_any (B c : Nat) (a : Option Addr) (l : Prs) (i : Nat) (k : ByteArray) (n : Int) (vb : Nat) (w : World) (h : w.ownsRow B 45 2 (.slice a l.length c) l.length (cP l)) (hB : B ≤ w.heap.size) (hi : i ≤ l.length)
    (hv : w.heap[vb]? = some (.cells #[.string k, .int .i64 n] 45 (0, 0))) (hne : (Value.slice a l.length c).ownBlock ≠ some vb) (hlen : l.length ≤ 1000000) :
    Calls Tryz.prog 87 #[.slice a l.length c, .int .i64 i, .slice (some ⟨vb, 0, none⟩) 1 1] w fun e w' =>
      ∃ v', e = .returned v' ∧ Seg w' v' 2 (l.length + 1) (cP (l.take i ++ [(k, n)] ++ l.drop i)) ∧ Below B w w' := by
  by_cases hil : i < l.length
  · obtain ⟨g, cur, rfl, h1, h2, h3, h4, h5, h6, h7⟩ := own_row h (by omega)
    have hg : vb ≠ g := fun e => hne (by simp [Value.ownBlock, e])
    by_cases hr : l.length + 1 ≤ c
    · exact insP_room B c g l i k n vb w cur h3 h1 hr h5 h6 h7 hil hv hg hB hlen
    · exact insP_grow B c g l i k n vb w cur h3 h4 (by omega) h5 h6 h7 hil hv hB hlen
  · obtain rfl : i = l.length := by omega
    have := insP_end B c a l k n vb w h hB hv hlen
    rw [List.take_of_length_le (Nat.le_refl _), List.drop_of_length_le (Nat.le_refl _), List.append_nil]
    exact this
theorem cP_set (l : Prs) (i : Nat) (hi : i < l.length) (n : Int) : (cP l).set (i * 2 + 1) (.int .i64 n) = cP (l.take i ++ [(l[i].1, n)] ++ l.drop (i + 1)) := by
  induction l generalizing i with
  | nil => simp at hi
  | cons p l ih =>
    cases i with
    | zero => simp [cP]
    | succ i =>
      have := ih i (by simpa using hi)
      rw [show (i + 1) * 2 + 1 = i * 2 + 1 + 1 + 1 from by omega]
      simp only [cP, List.flatMap_cons, List.cons_append, List.nil_append, List.set_cons_succ, List.take_succ_cons, List.getElem_cons_succ, List.drop_succ_cons] at this ⊢
      rw [this]
theorem own_store {w : World} {B c : Nat} {a : Option Addr} {l : Prs} (h : w.ownsRow B 45 2 (.slice a l.length c) l.length (cP l)) (i : Nat) (hi : i < l.length) (n : Int) :
    ∃ g, a = some ⟨g, 0, none⟩ ∧ B ≤ g ∧ g < w.heap.size ∧ l.length ≤ c ∧ c ≤ maxLen ∧ (∃ u, w.cell? ⟨g, i * 2 + 1, none⟩ = some u) ∧ w.frozen? ⟨g, i * 2 + 1, none⟩ = false ∧
      (w.setCell ⟨g, i * 2 + 1, none⟩ (.int .i64 n)).ownsRow B 45 2 (.slice (some ⟨g, 0, none⟩) l.length c) l.length (cP (l.take i ++ [(l[i].1, n)] ++ l.drop (i + 1))) := by
  obtain ⟨g, cur, rfl, h1, h2, h3, h4, h5, h6, h7⟩ := own_row h (by omega)
  have hlt : i * 2 + 1 < cur.length := by omega
  have hset : w.setCell ⟨g, i * 2 + 1, none⟩ (.int .i64 n) = w.setRow g (cur.set (i * 2 + 1) (.int .i64 n)).toArray := by
    rw [setCell_eq_setRow w g (i * 2 + 1) cur.toArray 45 (0, 0) _ h3]; simp
  refine ⟨g, rfl, h1, h2, h4, h5, ⟨cur[i * 2 + 1], h3.cell (by simp [hlt])⟩, by unfold RowB at h3; simp [World.frozen?, h3], ?_⟩
  rw [hset]
  refine own_of_row (h3.set _) h1 h4 h5 (by simpa using h6) ?_ ?_
  · rw [cP_len, List.length_append, List.length_append, List.length_take, List.length_drop]; simp; omega
  · rw [← cP_set l i hi, List.take_set, h7]
set_option maxRecDepth 100000 in
set_option maxHeartbeats 1000000 in
theorem with_any (v : Value) (l : Prs) (key : ByteArray) (n : Int) (w : World) (hv : Seg w v 2 l.length (cP l)) (hs : srtP l) (hlen : l.length ≤ 1000000) :
    Calls Tryz.prog 53 #[v, .string key, .int .i64 n] w fun e w' => ∃ v', e = .returned v' ∧ w'.ownsRow w.heap.size 45 2 v' (withP l key n).length (cP (withP l key n)) ∧ Ext w w' := by
  go_enter Tryz.func53, Tryz.ntmps53
  go_wp2_with fail
  refine (sfind_any _ l key _ hv hs (by omega)).mono ?_
  rintro e w1 ⟨i, hc, rfl, E1⟩
  have hw := with_cut (n := n) hs hc
  have hi := hc.1
  have HC := hid hc
  clear hc
  go_wp2_with fail
  refine (clone_Pair _ _ _ _ (hv.ext E1) (cP_one _) (by omega)).mono ?_
  rintro e w2 ⟨a, c, rfl, ho, E2⟩
  cases hh : hitS (keysP l) key i with
  | true =>
    have hil := hit_lt hh
    rw [keysP_len] at hil
    have hk : l[i].1 = key := by
      rw [hitS_eq (by rw [keysP_len]; exact hil), keysP_get] at hh
      exact toList_inj (by simpa using hh)
    have HW := hid (hw.1 hh)
    have HK := hid hk
    clear hw hk
    by_cases hn : n = 0
    · have hn' : (n == 0) = true := by simp [hn]
      have HN := hid hn
      clear hn
      obtain ⟨g, cur, rfl, h1, h2, h3, h4, h5, h6, h7⟩ := own_row ho (by omega)
      go_wp2_with fail
      refine (delP_any w1.heap.size c g l i _ cur h3 h1 h4 h5 h6 h7 hil hlen).mono ?_
      rintro e w3 ⟨v3, rfl, hsg, hB3⟩
      go_wp2_with fail
      refine (clone_Pair _ _ _ _ hsg (cP_one _) (by omega)).mono ?_
      rintro e w4 ⟨a4, c4, rfl, ho4, E4⟩
      go_wp2
      go_ret
      have hE : withP l key n = l.take i ++ l.drop (i + 1) := by rw [HW.out, if_pos HN.out, List.append_nil]
      have hL : (withP l key n).length = l.length - 1 := by rw [hE, List.length_append, List.length_take, List.length_drop]; omega
      have hE3 : Ext w1 w3 := Below.trans E2 hB3
      refine ⟨_, rfl, ?_, E1.trans (hE3.trans E4)⟩
      rw [hL, hE]
      exact own_base ho4 (by have := E1.size'; have := hE3.size'; omega)
    · have hn' : (n == 0) = false := by simp [hn]
      have HN := hid hn
      clear hn
      obtain ⟨g, rfl, h1, h2, h3, h4, ⟨u, h5⟩, h6, h7⟩ := own_store ho i hil n
      unfold maxLen at h4
      have q1 : (0 : Int) ≤ (i : Int) := by omega
      have q2 : (i : Int) < (l.length : Int) := by omega
      have hE3 := E2.setCell (p := ⟨g, i * 2 + 1, none⟩) h1 (.int .i64 n)
      go_wp2
      go_ret
      have hE : withP l key n = l.take i ++ [(l[i].1, n)] ++ l.drop (i + 1) := by rw [HW.out, if_neg HN.out, HK.out]
      have hL : (withP l key n).length = l.length := by rw [hE]; simp; omega
      refine ⟨_, rfl, ?_, E1.trans hE3⟩
      rw [hL, hE]
      exact own_base h7 (by have := E1.size'; omega)
  | false =>
    have HW := hid (hw.2 hh)
    clear hw
    by_cases hn : n = 0
    · have hn' : (n == 0) = true := by simp [hn]
      have HN := hid hn
      clear hn
      go_wp2
      go_ret
      have hE : withP l key n = l := by rw [HW.out, if_pos HN.out, List.append_nil, List.take_append_drop]
      refine ⟨_, rfl, ?_, E1.trans E2⟩
      rw [hE]
      exact own_base ho (by have := E1.size'; omega)
    · have hn' : (n == 0) = false := by simp [hn]
      have HN := hid hn
      clear hn
      have hvb := heap_alloc_new w2 (.cells #[.string key, .int .i64 n] 45)
      have hlt := ho.lt
      go_wp2_with fail
      refine (insP_any w1.heap.size c a l i key n w2.heap.size _ (ho.alloc _) (by have := E2.size'; simp; omega) hi hvb (fun e => by have := (hlt _ e).2; omega) hlen).mono ?_
      rintro e w3 ⟨v3, rfl, hsg, hB3⟩
      go_wp2_with fail
      refine (clone_Pair _ _ _ _ hsg (cP_one _) (by omega)).mono ?_
      rintro e w4 ⟨a4, c4, rfl, ho4, E4⟩
      go_wp2
      go_ret
      have hE : withP l key n = l.take i ++ [(key, n)] ++ l.drop i := by rw [HW.out, if_neg HN.out]
      have hL : (withP l key n).length = l.length + 1 := by rw [hE]; simp; omega
      have hE3 : Ext w1 w3 := Below.trans (E2.alloc _) hB3
      refine ⟨_, rfl, ?_, E1.trans (hE3.trans E4)⟩
      rw [hL, hE]
      exact own_base ho4 (by have := E1.size'; have := hE3.size'; omega)
end Go.Proofs.YtghemmmkbpfdhaaGreatDoor

/- Contracts and lemmas for the proofs of this seat; each theorem states its own conditions. -/
namespace Go.Proofs.YtghemmmkbpfdhaaGreatDoor
open Go.RowKit
def getE (l : Prs) (key : ByteArray) : Int := if storeErr l ≠ 0 then storeErr l else if keyB key then 0 else 3
def getV (l : Prs) (key : ByteArray) : Int := if storeErr l = 0 ∧ keyB key = true then valP l key else 0
def putE (l : Prs) (key : ByteArray) (n : Int) : Int := if storeErr l ≠ 0 then storeErr l else if keyB key = false then 3 else if valB n then 0 else 1
end Go.Proofs.YtghemmmkbpfdhaaGreatDoor

/- Contracts and lemmas for the proofs of this seat; each theorem states its own conditions. -/
namespace Go.Proofs.YtghemmmkbpfdhaaGreatDoor
open Go.RowKit
/-! Scan, Total -/
def inB (f t : ByteArray) (p : ByteArray × Int) : Bool := !(blt p.1 f) && (t.toList.isEmpty || blt p.1 t)
def scanP (l : Prs) (f t : ByteArray) : Prs := l.filter (inB f t)
theorem scan_step {l : Prs} {f t : ByteArray} {k : Nat} (hk : k < l.length) : scanP (l.take (k + 1)) f t = scanP (l.take k) f t ++ (if inB f t l[k] then [l[k]] else []) := by
  unfold scanP
  rw [List.take_succ_eq_append_getElem hk, List.filter_append]
  congr 1
  rw [List.filter_cons]; rfl
theorem scan_len (l : Prs) (f t : ByteArray) (k : Nat) : (scanP (l.take k) f t).length ≤ k := by
  have := List.length_filter_le (inB f t) (l.take k)
  rw [List.length_take] at this
  unfold scanP; omega
theorem cP_one1 (p : ByteArray × Int) : cP [p] = [.string p.1, .int .i64 p.2] := by simp [cP]
/-- the total, as Go adds it -/
def totTo : Prs → Int
  | [] => 0
  | p :: l => p.2 + totTo l
theorem tot_app (l m : Prs) : totTo (l ++ m) = totTo l + totTo m := by
  induction l with
  | nil => simp [totTo]
  | cons p l ih => simp only [List.cons_append, totTo, ih]; omega
theorem tot_step {l : Prs} {k : Nat} (hk : k < l.length) : totTo (l.take (k + 1)) = totTo (l.take k) + l[k].2 := by
  rw [List.take_succ_eq_append_getElem hk, tot_app]; simp [totTo]
theorem tot_bd {l : Prs} (h : ∀ p ∈ l, -1000000000 ≤ p.2 ∧ p.2 ≤ 1000000000) : ∀ k, k ≤ l.length → -1000000000 * (k : Int) ≤ totTo (l.take k) ∧ totTo (l.take k) ≤ 1000000000 * (k : Int)
  | 0, _ => by simp [totTo]
  | k + 1, hk => by
    have ih := tot_bd h k (by omega)
    have := h l[k] (List.getElem_mem (by omega))
    rw [tot_step (by omega)]
    omega
def totE (l : Prs) : Int := storeErr l
end Go.Proofs.YtghemmmkbpfdhaaGreatDoor
