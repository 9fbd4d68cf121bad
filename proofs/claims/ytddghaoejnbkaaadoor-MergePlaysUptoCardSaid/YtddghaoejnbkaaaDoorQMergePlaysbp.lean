/- Contracts and lemmas for the proof of MergePlays; each theorem states its own conditions. -/
import Derived.Test.YtddghaoejnbkaaaDoorQMergePlaysbl
import Derived.Test.YtddghaoejnbkaaaDoorQMergePlaysbm
import Derived.Test.YtddghaoejnbkaaaDoorQMergePlaysbo
import Derived.Test.YtddghaoejnbkaaaDoorQMergePlaysbn
set_option linter.unusedVariables false
set_option linter.unusedSimpArgs false
/- Contracts and lemmas for the proofs of this seat; each theorem states its own conditions. -/
namespace Go.Proofs.YtddghaoejnbkaaaDoor
open Go.RowKit
/-! roref.Entry; how many entries came in -/
set_option maxRecDepth 100000 in
set_option maxHeartbeats 2000000 in
theorem rentry_any (e : EV) (x : Ent) (w : World) (h : EntSeg w e x) (sz : EntSz x) :
    Calls Tryd.prog 25 #[evV e] w fun r w' => r = .returned (.int .i64 (entE x)) ∧ Ext w w' := by
  obtain ⟨v1, b, v2, v3⟩ := e
  obtain ⟨h1, hb, h2, h3⟩ := h
  dsimp only at h1 hb h2 h3
  have b0 := heap_alloc_new w (.cells #[v1, .bool b, v2, v3] 41)
  have E0 := (Ext.refl w).alloc (.cells #[v1, .bool b, v2, v3] 41)
  have k0 := blk4 b0
  have C1 := hid (rmap_any (.agg #[v2, v3]) x.cuts x.own _ ⟨v2, v3, rfl, h2.ext E0, h3.ext E0⟩ sz.cuts)
  have C2 := hid (rdeed_any v1 x.ops _ (h1.ext E0) sz.ops)
  show Calls _ _ #[.agg #[v1, .bool b, v2, v3]] _ _
  have hE : entE x = if b = true then mapErr x.cuts x.own else deedE x.ops := by rw [hb]; rfl
  rw [hE]
  clear h1 h2 h3 hb hE sz
  cases b with
  | true =>
    rw [if_pos rfl]
    go_enter Tryd.func25, Tryd.ntmps25
    go_wp2_with fail
    refine (C1.out).mono ?_
    rintro r w1 ⟨rfl, E1⟩
    go_wp2
    go_ret
    exact ⟨rfl, E0.trans E1⟩
  | false =>
    rw [if_neg (by decide)]
    go_enter Tryd.func25, Tryd.ntmps25
    go_wp2_with fail
    refine (C2.out).mono ?_
    rintro r w1 ⟨rfl, E1⟩
    go_wp2
    go_ret
    exact ⟨rfl, E0.trans E1⟩
/-- entries of some batches -/
def cntB (l : List Bat) : Nat := (l.map List.length).sum
def cntTo (bs : List (List Bat)) : Nat → Nat
  | 0 => 0
  | k + 1 => cntTo bs k + cntB (bs.getD k [])
theorem cntTo_le (bs : List (List Bat)) : ∀ {j k : Nat}, j ≤ k → cntTo bs j ≤ cntTo bs k
  | j, 0, h => by have : j = 0 := by omega
                  subst this; exact Nat.le_refl _
  | j, k + 1, h => by
    by_cases e : j = k + 1
    · subst e; exact Nat.le_refl _
    · have := cntTo_le bs (j := j) (k := k) (by omega)
      rw [cntTo]; omega
theorem cnt_to {cl : List (List Bat)} (op : List Bat) : ∀ {k : Nat}, k ≤ cl.length → cntTo (batM cl op) k = manyTo cl op k
  | 0, _ => rfl
  | k + 1, h => by
    have ih := cnt_to (cl := cl) op (k := k) (by omega)
    rw [cntTo, manyTo, ih, batM_at op (show k < cl.length by omega)]
    unfold batR cntB
    simp
    omega
theorem cnt_eq (cl : List (List Bat)) (op : List Bat) : cntTo (batM cl op) (batM cl op).length = manyM cl op := by
  rw [batM_len]; exact cnt_to op (Nat.le_refl _)
theorem ents_lists {w : World} {P : Nat → Prop} : ∀ (ts : List Value) (l : List Bat), ts.length = l.length → (∀ (k : Nat) (t : Value) (X : Bat), ts[k]? = some t → l[k]? = some X → EntsP w P t X) →
    ∃ L : List (Nat × List Value), L.length = ts.length ∧ (∀ (k : Nat) (t : Value) (p : Nat × List Value), ts[k]? = some t → L[k]? = some p → Seg w t 4 p.1 p.2) ∧ (∀ p ∈ L, ∀ u ∈ p.2, u.oneCell' = true) ∧ totN L = cntB l
  | [], [], _, _ => ⟨[], rfl, fun k t p h => by simp at h, fun p h => by simp at h, rfl⟩
  | t :: ts, X :: l, hl, h => by
    obtain ⟨L, h1, h2, h3, h4⟩ := ents_lists ts l (by simpa using hl) fun k t' X' a b => h (k + 1) t' X' (by simpa using a) (by simpa using b)
    obtain ⟨es, e1, e2, _, e4⟩ := h 0 t X rfl rfl
    refine ⟨(X.length, cEn es) :: L, by simp [h1], fun k t' p a b => ?_, fun p hp => ?_, ?_⟩
    · cases k with
      | zero => simp at a b; subst a; subst b; exact e2
      | succ k => exact h2 k t' p (by simpa using a) (by simpa using b)
    · rcases List.mem_cons.1 hp with rfl | hp
      · exact ents_one e1 fun j e x a b => (e4 j e x a b).seg
      · exact h3 p hp
    · simp [totN, cntB] at h4 ⊢
      omega
theorem bareV_P {w : World} {P : Nat → Prop} {e : EV} {x : Ent} (h : EntP w P e x) : EntP w P (bareV e) (halfE x) := by
  refine ⟨bareV_seg h.seg, ?_, ?_, ?_⟩
  · unfold bareV; split
    · exact InP.nil P
    · exact h.o
  · unfold bareV; split
    · exact h.c
    · exact InP.nil P
  · unfold bareV; split
    · exact h.w
    · exact InP.nil P
/-- a row of entries that has been copied -/
def NewR (w : World) (n : Nat) (es : List EV) (v : Value) (w' : World) : Prop := ∃ a c, v = .slice a n c ∧ w'.ownsRow w.heap.size 41 4 (.slice a n c) n (cEn es)
theorem NewR.ext {w : World} {n : Nat} {es : List EV} {v : Value} {a b : World} (h : NewR w n es v a) (E : Ext a b) : NewR w n es v b := by
  obtain ⟨p, c, h1, h2⟩ := h
  exact ⟨p, c, h1, own_ext h2 E⟩
/-- one more behind it -/
def AddM (w : World) (n : Nat) (es : List EV) (e : EV) (v : Value) (w' : World) : Prop := w'.ownsRow w.heap.size 41 4 v (n + 1) (cEn es ++ evC e) ∧ Ext w w'
theorem AddM.ext {w : World} {n : Nat} {es : List EV} {e : EV} {v : Value} {a b : World} (h : AddM w n es e v a) (E : Ext a b) : AddM w n es e v b := ⟨own_ext h.1 E, h.2.trans E⟩
def StoA (w : World) (n : Nat) (es : List EV) (e : EV) (b k : Nat) (w' : World) : Prop := ∃ v w1, AddM w n es e v w1 ∧ Ext (w1.setCell ⟨b, k, none⟩ v) w'
/-- what Add leaves -/
def AddR (w : World) (S P : Nat → Prop) (bm : Nat) (bs : List (List Bat)) (i N : Nat) (x : Ent) (r : Ending) (w' : World) : Prop :=
  (59 < N ∧ r = .returned (.int .i64 2) ∧ Ext w w') ∨
  (¬ 59 < N ∧ r = .returned (.int .i64 0) ∧ ∃ P', RMS w' S P' bm (bs.set i ((bs.getD i []).set ((bs.getD i []).length - 1) ((bs.getD i []).getD ((bs.getD i []).length - 1) [] ++ [halfE x]))) ∧ Kp S w w' S ∧ (∀ q, P q → P' q) ∧ ∀ q, P' q → P q ∨ w.heap.size ≤ q)
set_option maxRecDepth 10000 in
theorem rmadd_no {w : World} {S P : Nat → Prop} {bm : Nat} {bs : List (List Bat)} (h : RMS w S P bm bs) (i : Int) (hi : ¬ (0 ≤ i ∧ i < (bs.length : Int))) (e : EV) (x : Ent) (hx : EntSeg w e x) :
    Calls Tryd.prog 11 #[.pointer (some ⟨bm, 0, none⟩), .int .i64 i, evV e] w fun r w' => r = .returned (.int .i64 4) ∧ Ext w w' := by
  obtain ⟨v1, b, v2, v3⟩ := e
  have EA := (Ext.refl w).alloc (.cells #[v1, .bool b, v2, v3] 41)
  have IS := rmis_any (h.ext EA) i
  rw [show (decide (0 ≤ i) && decide (i ≤ (bs.length : Int) - 1)) = false by
    rw [Bool.and_eq_false_iff]
    by_cases h0 : 0 ≤ i
    · right; simp; omega
    · left; simp; omega] at IS
  have IS := hid IS
  have HEA := hid EA
  clear h hi EA
  show Calls _ _ #[.pointer (some ⟨bm, 0, none⟩), .int .i64 i, .agg #[v1, .bool b, v2, v3]] _ _
  go_enter Tryd.func11, Tryd.ntmps11
  go_wp2_with fail
  refine (IS.out).mono ?_
  rintro r w1 ⟨rfl, rfl⟩
  go_wp2
  go_ret
  exact ⟨rfl, HEA.out⟩
set_option maxRecDepth 10000 in
theorem rmadd_bad {w : World} {S P : Nat → Prop} {bm : Nat} {bs : List (List Bat)} (h : RMS w S P bm bs) (i : Nat) (hi : i < bs.length) (e : EV) (x : Ent) (hx : EntSeg w e x) (sz : EntSz x) (hbad : entE x ≠ 0) :
    Calls Tryd.prog 11 #[.pointer (some ⟨bm, 0, none⟩), .int .i64 i, evV e] w fun r w' => r = .returned (.int .i64 (entE x)) ∧ Ext w w' := by
  have EN := hid (fun w' (q : Ext w w') => rentry_any e x w' (hx.ext q) sz)
  obtain ⟨v1, b, v2, v3⟩ := e
  have EA := (Ext.refl w).alloc (.cells #[v1, .bool b, v2, v3] 41)
  have bx := blk4 (heap_alloc_new w (.cells #[v1, .bool b, v2, v3] 41))
  have IS := rmis_any (h.ext EA) i
  rw [show (decide ((0 : Int) ≤ (i : Int)) && decide ((i : Int) ≤ (bs.length : Int) - 1)) = true by
    rw [Bool.and_eq_true]; exact ⟨by simp, by simp; omega⟩] at IS
  have IS := hid IS
  have EN1 := hid (EN.out _ EA)
  have HEA := hid EA
  generalize entE x = er at *
  have q : (er != 0) = true := by simp [hbad]
  clear h hi EA EN hx hbad
  show Calls _ _ #[.pointer (some ⟨bm, 0, none⟩), .int .i64 i, .agg #[v1, .bool b, v2, v3]] _ _
  go_enter Tryd.func11, Tryd.ntmps11
  go_wp2_with fail
  refine (IS.out).mono ?_
  rintro r w1 ⟨rfl, rfl⟩
  go_wp2_with fail
  refine (EN1.out).mono ?_
  rintro r w2 ⟨rfl, E2⟩
  go_wp2
  go_ret
  exact ⟨rfl, HEA.out.trans E2⟩
end Go.Proofs.YtddghaoejnbkaaaDoor
