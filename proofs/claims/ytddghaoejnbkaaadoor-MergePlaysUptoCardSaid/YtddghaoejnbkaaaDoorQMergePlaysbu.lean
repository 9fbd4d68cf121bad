/- Contracts and lemmas for the proof of MergePlays; each theorem states its own conditions. -/
import Derived.Test.YtddghaoejnbkaaaDoorQMergePlaysbt
set_option linter.unusedVariables false
set_option linter.unusedSimpArgs false
/- Contracts and lemmas for the proofs of this seat; each theorem states its own conditions. -/
namespace Go.Proofs.YtddghaoejnbkaaaDoor
open Go.RowKit
/-! what is asked of both merges, one behind the other -/
theorem EntP.at {w wr : World} {S1 S2 P : Nat → Prop} {bm br : Nat} {cl : List (List Bat)} {op : List Bat} {bs : List (List Bat)} (h : MPG w wr S1 S2 P bm br cl op bs) {e : EV} {x : Ent} (hx : EntSeg w e x) : EntP wr P e x :=
  ((hx.inP.same (SameP.of_ext h.E)).mono h.P0)
/-- an entry comes in at both -/
theorem mp_add {w : World} {n : Nat} (n0 : 0 < n) {bm br : Nat} {cl : List (List Bat)} {op : List Bat} (l : MPL n cl op) (z : Int) (e : EV) (x : Ent) (hx : EntSeg w e x) (sz : EntSz x) :
    ∃ (r : Int) (cl' : List (List Bat)) (op' : List Bat), MPL n cl' op' ∧
      (∀ (wr : World) (S1 S2 P : Nat → Prop), MPG w wr S1 S2 P bm br cl op (batM cl op) → Calls Tryd.prog 10 #[.pointer (some ⟨bm, 0, none⟩), .int .i64 z, evV e] wr fun q w' => q = .returned (.int .i64 r) ∧ ∃ S1', MPG w w' S1' S2 P bm br cl' op' (batM cl op) ∧ Kp S1 wr w' S1') ∧
      ∀ (wr : World) (S1 S2 P : Nat → Prop), MPG w wr S1 S2 P bm br cl' op' (batM cl op) → Calls Tryd.prog 11 #[.pointer (some ⟨br, 0, none⟩), .int .i64 z, evV e] wr fun q w' => q = .returned (.int .i64 r) ∧ ∃ S2' P', MPG w w' S1 S2' P' bm br cl' op' (batM cl' op') ∧ Kp S2 wr w' S2' := by
  have lb : (batM cl op).length = n := by rw [batM_len]; exact l.lc
  by_cases hz : 0 ≤ z ∧ z < (n : Int)
  · obtain ⟨i, rfl⟩ : ∃ i : Nat, z = (i : Int) := ⟨z.toNat, by omega⟩
    have hi : i < n := by omega
    by_cases hok : entE x = 0
    · by_cases hm : manyM cl op < 60
      · refine ⟨0, cl, addM op i (plainE x), l.add hi hm (sm_of_ok hok), fun wr S1 S2 P h => ?_, fun wr S1 S2 P h => ?_⟩
        · have hop := op_many (cl := cl) (op := op) (i := i) (by rw [l.lc]; exact hi)
          refine (madd_any h.mer i (by rw [l.lc]; exact hi) e x (hx.ext h.E) (sm_of_ok hok) sz hok hm (fun j hj => by have := l.few j hj; omega) (by omega)).mono ?_
          rintro q w' ⟨rfl, S1', hM, k⟩
          exact ⟨rfl, S1', h.turnM hM k, k⟩
        · have hc := cnt_eq cl op
          refine (rmadd_ok h.ref i (by rw [lb]; exact hi) e x (EntP.at h hx) sz hok (by rw [hc]; have := l.many; omega)).mono ?_
          rintro q w' hR
          rcases hR with ⟨a, _, _⟩ | ⟨_, rfl, P', hr, k, hP, hN⟩
          · rw [hc] at a; omega
          · rw [bat_addR (by rw [l.lc]; exact hi) (by rw [l.lc, l.lo])] at hr
            exact ⟨rfl, S2, P', h.turnR hr k hP hN, k⟩
      · have hm : manyM cl op = 60 := by have := l.many; omega
        refine ⟨2, cl, op, l, fun wr S1 S2 P h => ?_, fun wr S1 S2 P h => ?_⟩
        · refine (madd_full h.mer i (by rw [l.lc]; exact hi) e x (hx.ext h.E) sz hok hm (fun j hj => by have := l.few j hj; omega)).mono ?_
          rintro q w' ⟨rfl, E⟩
          exact ⟨rfl, S1, h.ext E, Kp.of_ext E⟩
        · have hc := cnt_eq cl op
          refine (rmadd_ok h.ref i (by rw [lb]; exact hi) e x (EntP.at h hx) sz hok (by rw [hc]; have := l.many; omega)).mono ?_
          rintro q w' hR
          rcases hR with ⟨_, rfl, E⟩ | ⟨a, _⟩
          · exact ⟨rfl, S2, P, h.ext E, Kp.of_ext E⟩
          · rw [hc] at a; omega
    · refine ⟨entE x, cl, op, l, fun wr S1 S2 P h => ?_, fun wr S1 S2 P h => ?_⟩
      · refine (madd_bad h.mer i (by rw [l.lc]; exact hi) e x (hx.ext h.E) sz hok).mono ?_
        rintro q w' ⟨rfl, E⟩
        exact ⟨rfl, S1, h.ext E, Kp.of_ext E⟩
      · refine (rmadd_bad h.ref i (by rw [lb]; exact hi) e x (hx.ext h.E) sz hok).mono ?_
        rintro q w' ⟨rfl, E⟩
        exact ⟨rfl, S2, P, h.ext E, Kp.of_ext E⟩
  · refine ⟨4, cl, op, l, fun wr S1 S2 P h => ?_, fun wr S1 S2 P h => ?_⟩
    · refine (madd_no h.mer z (by rw [l.lc]; exact hz) e).mono ?_
      rintro q w' ⟨rfl, E⟩
      exact ⟨rfl, S1, h.ext E, Kp.of_ext E⟩
    · refine (rmadd_no h.ref z (by rw [lb]; exact hz) e x (hx.ext h.E)).mono ?_
      rintro q w' ⟨rfl, E⟩
      exact ⟨rfl, S2, P, h.ext E, Kp.of_ext E⟩
/-- an input closed at both -/
theorem mp_cls {w : World} {n : Nat} (n0 : 0 < n) {bm br : Nat} {cl : List (List Bat)} {op : List Bat} (l : MPL n cl op) (z : Int) :
    ∃ (a r : Int) (cl' : List (List Bat)) (op' : List Bat), MPL n cl' op' ∧
      (∀ (wr : World) (S1 S2 P : Nat → Prop), MPG w wr S1 S2 P bm br cl op (batM cl op) → Calls Tryd.prog 12 #[.pointer (some ⟨bm, 0, none⟩), .int .i64 z] wr fun q w' => q = .returned (.tuple #[.int .i64 a, .int .i64 r]) ∧ ∃ S1', MPG w w' S1' S2 P bm br cl' op' (batM cl op)) ∧
      ∀ (wr : World) (S1 S2 P : Nat → Prop), MPG w wr S1 S2 P bm br cl' op' (batM cl op) → Calls Tryd.prog 13 #[.pointer (some ⟨br, 0, none⟩), .int .i64 z] wr fun q w' => q = .returned (.tuple #[.int .i64 a, .int .i64 r]) ∧ ∃ S2', MPG w w' S1 S2' P bm br cl' op' (batM cl' op') := by
  have lb : (batM cl op).length = n := by rw [batM_len]; exact l.lc
  by_cases hz : 0 ≤ z ∧ z < (n : Int)
  · obtain ⟨i, rfl⟩ : ∃ i : Nat, z = (i : Int) := ⟨z.toNat, by omega⟩
    have hi : i < n := by omega
    have hf60 := l.few i (by rw [l.lc]; exact hi)
    have hbl : ((batM cl op).getD i []).length = (cl.getD i []).length + 1 := by rw [batM_at op (by rw [l.lc]; exact hi), batR_len]
    by_cases hf : (cl.getD i []).length < 60
    · refine ⟨(((cl.getD i []).length + 1 : Nat) : Int), 0, _, _, l.cls hi hf, fun wr S1 S2 P h => ?_, fun wr S1 S2 P h => ?_⟩
      · refine (mclose_ok h.mer i (by rw [l.lc]; exact hi) hf).mono ?_
        rintro q w' ⟨rfl, S1', hM, k⟩
        exact ⟨rfl, S1', h.turnM hM k⟩
      · refine (rmclose_ok h.ref i (by rw [lb]; exact hi) (by rw [hbl]; omega)).mono ?_
        rintro q w' ⟨rfl, S2', hR, k⟩
        rw [bat_clsR (by rw [l.lc]; exact hi) (by rw [l.lc, l.lo])] at hR
        exact ⟨by rw [hbl], S2', h.turnR hR k (fun _ h => h) (fun _ h => .inl h)⟩
    · refine ⟨0, 2, cl, op, l, fun wr S1 S2 P h => ?_, fun wr S1 S2 P h => ?_⟩
      · refine (mclose_full h.mer i (by rw [l.lc]; exact hi) (by omega)).mono ?_
        rintro q w' ⟨rfl, rfl⟩
        exact ⟨rfl, S1, h⟩
      · refine (rmclose_full h.ref i (by rw [lb]; exact hi) (by rw [hbl]; omega)).mono ?_
        rintro q w' ⟨rfl, rfl⟩
        exact ⟨rfl, S2, h⟩
  · refine ⟨0, 4, cl, op, l, fun wr S1 S2 P h => ?_, fun wr S1 S2 P h => ?_⟩
    · refine (mclose_no h.mer z (by rw [l.lc]; exact hz)).mono ?_
      rintro q w' ⟨rfl, rfl⟩
      exact ⟨rfl, S1, h⟩
    · refine (rmclose_no h.ref z (by rw [lb]; exact hz)).mono ?_
      rintro q w' ⟨rfl, rfl⟩
      exact ⟨rfl, S2, h⟩
/-- both, wherever they lie -/
def MPI (w : World) (n bm br : Nat) (wr : World) : Prop := ∃ S1 S2 P cl op, MPG w wr S1 S2 P bm br cl op (batM cl op) ∧ MPL n cl op
theorem MPI.ext {w : World} {n bm br : Nat} {wr w' : World} (h : MPI w n bm br wr) (E : Ext wr w') : MPI w n bm br w' := by
  obtain ⟨S1, S2, P, cl, op, h, l⟩ := h
  exact ⟨S1, S2, P, cl, op, h.ext E, l⟩
theorem MPI.E {w : World} {n bm br : Nat} {wr : World} (h : MPI w n bm br wr) : Ext w wr := by
  obtain ⟨S1, S2, P, cl, op, h, l⟩ := h
  exact h.E
/-- both, beside the box of an entry -/
def MPB (w : World) (bm br bb : Nat) (cs : Array Value) (cl : List (List Bat)) (op : List Bat) (bs : List (List Bat)) (wr : World) : Prop := ∃ S1 S2 P, MPG w wr S1 S2 P bm br cl op bs ∧ ¬ S1 bb ∧ ¬ S2 bb ∧ wr.heap[bb]? = some (.cells cs 41 (0, 0))
theorem MPB.ext {w : World} {bm br bb : Nat} {cs : Array Value} {cl : List (List Bat)} {op : List Bat} {bs : List (List Bat)} {wr w' : World} (h : MPB w bm br bb cs cl op bs wr) (E : Ext wr w') : MPB w bm br bb cs cl op bs w' := by
  obtain ⟨S1, S2, P, h, h1, h2, h3⟩ := h
  exact ⟨S1, S2, P, h.ext E, h1, h2, E.heap h3⟩
end Go.Proofs.YtddghaoejnbkaaaDoor
