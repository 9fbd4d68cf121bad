/- Contracts and lemmas for the proof of MergePlays; each theorem states its own conditions. -/
import Derived.Test.YtddghaoejnbkaaaDoorQMergePlaysbg
set_option linter.unusedVariables false
set_option linter.unusedSimpArgs false
/- Contracts and lemmas for the proofs of this seat; each theorem states its own conditions. -/
namespace Go.Proofs.YtddghaoejnbkaaaDoor
open Go.RowKit
/-! roref.Merge: Log -/
/-- entries laid in a row of one's own; what they hold lies where it lay -/
def LogS (w : World) (X : List Ent) (v : Value) (wr : World) : Prop := ∃ es : List EV, es.length = X.length ∧ wr.ownsRow w.heap.size 41 4 v X.length (cEn es) ∧ (∀ (j : Nat) (e : EV) (x : Ent), es[j]? = some e → X[j]? = some x → EntSeg w e x) ∧ Ext w wr
theorem LogS.form {w wr : World} {X : List Ent} {v : Value} (h : LogS w X v wr) : ∃ a c, v = .slice a X.length c := by
  obtain ⟨es, h1, h2, h3, h4⟩ := h
  exact own_form h2
theorem LogS.seg {w wr : World} {X : List Ent} {v : Value} (h : LogS w X v wr) : EntsSeg wr v X := by
  obtain ⟨es, h1, h2, h3, h4⟩ := h
  exact ⟨es, h1, own_seg h2, fun j e x a b => (h3 j e x a b).ext h4⟩
theorem entSeg_one {w : World} {e : EV} {x : Ent} (h : EntSeg w e x) : ∀ u ∈ evC e, u.oneCell' = true := by
  obtain ⟨v1, b, v2, v3⟩ := e
  obtain ⟨h1, hb, h2, h3⟩ := h
  dsimp only at h1 hb h2 h3
  obtain ⟨a1, k1, rfl⟩ := seg_form h1
  obtain ⟨a2, k2, rfl⟩ := seg_form h2
  obtain ⟨a3, k3, rfl⟩ := seg_form h3
  intro u hu
  simp [evC] at hu
  rcases hu with rfl | rfl | rfl | rfl <;> rfl
theorem ents_one {w : World} {es : List EV} {X : List Ent} (hl : es.length = X.length) (h : ∀ (j : Nat) (e : EV) (x : Ent), es[j]? = some e → X[j]? = some x → EntSeg w e x) : ∀ u ∈ cEn es, u.oneCell' = true := by
  intro u hu
  obtain ⟨e, he, hu⟩ := List.mem_flatMap.1 hu
  obtain ⟨j, hj, rfl⟩ := List.mem_iff_getElem.1 he
  exact entSeg_one (h j es[j] (X[j]'(by omega)) (List.getElem?_eq_getElem hj) (List.getElem?_eq_getElem (by omega))) u hu
theorem LogS.more {w w1 w9 : World} {X Y : List Ent} {es fs : List EV} {v v' : Value} (h1 : es.length = X.length) (h3 : ∀ (j : Nat) (e : EV) (x : Ent), es[j]? = some e → X[j]? = some x → EntSeg w e x) (hE : Ext w w1)
    (g1 : fs.length = Y.length) (g3 : ∀ (j : Nat) (e : EV) (x : Ent), fs[j]? = some e → Y[j]? = some x → EntSeg w e x) (ho : w9.ownsRow w.heap.size 41 4 v' (X.length + Y.length) (cEn es ++ cEn fs)) (h2 : w1.ownsRow w.heap.size 41 4 v X.length (cEn es)) (hg : w1.grownBy w9 v.ownBlock) : LogS w (X ++ Y) v' w9 := by
  refine ⟨es ++ fs, by rw [List.length_append, List.length_append, h1, g1], ?_, ?_, hE.grown hg (fun k hk => own_ge h2 k hk)⟩
  · rw [List.length_append, cEn_app]
    exact ho
  · intro j e x a b
    by_cases hj : j < es.length
    · rw [List.getElem?_append_left hj] at a
      rw [List.getElem?_append_left (by omega)] at b
      exact h3 j e x a b
    · rw [List.getElem?_append_right (by omega)] at a
      rw [List.getElem?_append_right (by omega)] at b
      rw [← h1] at b
      exact g3 _ e x a b
set_option maxRecDepth 100000 in
set_option maxHeartbeats 4000000 in
theorem rmlog_any {w : World} {S P : Nat → Prop} {bm : Nat} {bs : List (List Bat)} (h : RMS w S P bm bs) (hlen : ∀ r i, r < rrTo bs bs.length → i < bs.length → (logTo bs r).length + (rowTo bs r i).length + ((bs.getD i []).getD r []).length ≤ 100000) :
    Calls Tryd.prog 19 #[.pointer (some ⟨bm, 0, none⟩)] w fun e w' => ∃ v', e = .returned v' ∧ LogS w (logTo bs (rrTo bs bs.length)) v' w' := by
  have MR := hid (rmrounds_any h)
  obtain ⟨vB, us, h⟩ := h
  have hb := blk1 h.box
  have h4 := h.n4
  have H := hid h
  obtain ⟨a, c, rfl⟩ := own_form h.outer
  obtain ⟨b, off, rfl, _, p1, p2, hcs⟩ := seg_cells (own_seg h.outer) (by have := h.ln; have := h.n0; omega)
  unfold maxLen at p2
  have HC := hid hcs
  have hl := h.ln
  rw [hl] at hb p1
  have HLN := hid hl
  have HRL := hid (fun i (hi : i < bs.length) => rrTo_le bs hi)
  obtain ⟨R, hR⟩ : ∃ R, rrTo bs bs.length = R := ⟨_, rfl⟩
  rw [hR] at MR hlen HRL ⊢
  have HLEN := hid hlen
  have hR60 : R ≤ 60 := by
    have : ∀ k, rrTo bs k ≤ 60 := fun k => by
      induction k with
      | zero => exact Nat.le_refl _
      | succ k ih => rw [rrTo]; omega
    rw [← hR]; exact this _
  clear h hl hcs hR hlen
  go_enter Tryd.func19, Tryd.ntmps19
  go_wp2_with fail
  refine (MR.out).mono ?_
  clear MR
  rintro e w1 ⟨rfl, rfl⟩
  go_wp2_with fail
  go_loopw [3, 4, 6, 9, 17] (fun ov _ _ rv _ wr => ∃ r : Nat, r ≤ R ∧ rv = .int .i64 r ∧ LogS w1 (logTo bs r) ov wr) (fun _ _ _ rv _ _ => R - (intOf rv).toNat)
  case atStart => exact ⟨0, Nat.zero_le _, rfl, [], rfl, World.ownsRow_nil _ _ _ _, fun j e x a _ => by simp at a, Ext.refl _⟩
  case round =>
    obtain ⟨wq, rfl⟩ : ∃ wq : World, wq = wr := ⟨_, rfl⟩
    obtain ⟨r, hr, rfl, hlog⟩ := hrel
    obtain ⟨av, kv, rfl⟩ := hlog.form
    by_cases hrl : r < R
    · obtain ⟨_, _, _, _, hEq⟩ := id hlog
      have hbq := And.intro (hEq.cell hb.1) trivial
      have hb1 := hbq.1
      have HLG := hid hlog
      clear hbq hEq hlog
      go_wp2_with fail
      go_loopw [3, 6, 17] (fun ov _ iv wr => ∃ i : Nat, i ≤ bs.length ∧ iv = .int .i64 i ∧ LogS w1 (logTo bs r ++ rowTo bs r i) ov wr) (fun _ _ iv _ => bs.length - (intOf iv).toNat)
      case atStart => exact ⟨0, Nat.zero_le _, rfl, by rw [show rowTo bs r 0 = [] from rfl, List.append_nil]; exact HLG.out⟩
      case round =>
        obtain ⟨wz, rfl⟩ : ∃ wz : World, wz = wr := ⟨_, rfl⟩
        obtain ⟨i, hi, rfl, hlog⟩ := hrel
        obtain ⟨ao, ko, rfl⟩ := hlog.form
        by_cases hil : i < bs.length
        · have hiu : i < us.length := by have := HLN.out; omega
          obtain ⟨es, e1, e2, e3, e4⟩ := hlog
          have c1 := e4.cell (HC.out i us[i] (List.getElem?_eq_getElem hiu))
          obtain ⟨ts, t1, t2, t3, t4, _⟩ := H.out.rows i us[i] bs[i] (List.getElem?_eq_getElem hiu) (List.getElem?_eq_getElem hil)
          have hg : bs.getD i [] = bs[i] := by simp [hil]
          have hrlen := HRL.out i hil
          have hle := HLEN.out r i hrl hil
          rw [hg] at hrlen hle
          have HST := hid (show logTo bs r ++ rowTo bs r (i + 1) = (logTo bs r ++ rowTo bs r i) ++ bs[i].getD r [] by rw [rowTo, hg, List.append_assoc])
          generalize us[i] = u at c1 t1
          generalize bs[i] = l at *
          have hrb : r < l.length := by omega
          obtain ⟨a2, c2, rfl⟩ := own_form t1
          obtain ⟨b2, o2, rfl, _, q1, q2, hcr⟩ := seg_cells (own_seg t1) (by omega)
          unfold maxLen at q2
          have htl : ts.length = l.length := by have := t1.1; omega
          have c3 := e4.cell (hcr r (ts[r]'(by omega)) (List.getElem?_eq_getElem (by omega)))
          have hseg := (t2 r (ts[r]'(by omega)) l[r] (List.getElem?_eq_getElem (by omega)) (List.getElem?_eq_getElem hrb)).seg
          have hlr : l.getD r [] = l[r] := by simp [hrb]
          rw [hlr] at hle HST
          generalize ts[r]'(by omega) = t at c3 hseg
          generalize l[r] = Y at hle HST hseg
          obtain ⟨fs, f1, f2, f3⟩ := hseg
          obtain ⟨a3, c3', rfl⟩ := seg_form f2
          have f2q := f2.ext e4
          have hfo := ents_one f1 f3
          have hXl : (logTo bs r ++ rowTo bs r i).length = (logTo bs r).length + (rowTo bs r i).length := List.length_append
          generalize logTo bs r ++ rowTo bs r i = X at *
          have hXY : X.length + Y.length ≤ 100000 := by omega
          have hsz : w1.heap.size ≤ wz.heap.size := e4.size'
          have HS := hid (And.intro e1 (And.intro e3 (And.intro f1 f3)))
          have E2 := hid e2
          have E4 := hid e4
          clear e1 e3 f1 f3 hcr t1 t2 hg hlr hXl hle
          go_wp2_with (first | (at_builtin; refine (wpList_app rfl _ _ 23 rfl w1.heap.size 41 (.agg #[.slice none 0 0, .bool false, .slice none 0 0, .slice none 0 0]) 4 80 Tryd.underlying23 infoEn rfl (by decide) _ X.length (cEn es) rfl e2 _ Y.length (cEn fs) rfl f2q hfo (by omega) (by unfold maxLen; omega) hsz ?_); intro v' w9 ho' hg))
          have HN := hid (LogS.more HS.out.1 HS.out.2.1 E4.out HS.out.2.2.1 HS.out.2.2.2 ho' E2.out hg)
          go_roundw
          case rel => exact ⟨i + 1, by omega, by go_num, by rw [HST.out]; exact HN.out⟩
          case measure => simp [intOf] <;> omega
        · obtain rfl : i = bs.length := by omega
          have hL2 := hid (show LogS w1 (logTo bs (r + 1)) _ wz from hlog)
          clear hlog
          go_wp2
          go_roundw
          case rel => exact ⟨r + 1, by omega, by go_num, hL2.out⟩
          case measure => simp [intOf] <;> omega
    · obtain rfl : r = R := by omega
      go_wp2
      go_ret
      exact ⟨_, rfl, hlog⟩
end Go.Proofs.YtddghaoejnbkaaaDoor
