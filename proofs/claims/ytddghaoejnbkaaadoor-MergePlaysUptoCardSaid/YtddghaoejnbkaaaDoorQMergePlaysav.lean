/- Contracts and lemmas for the proof of MergePlays; each theorem states its own conditions. -/
import Derived.Test.YtddghaoejnbkaaaDoorQMergePlaysau
set_option linter.unusedVariables false
set_option linter.unusedSimpArgs false
/- Contracts and lemmas for the proofs of this seat; each theorem states its own conditions. -/
namespace Go.Proofs.YtddghaoejnbkaaaDoor
open Go.RowKit
/-! a region that draws its order, of the form a[i] = append(a[i], f(x)): p calls, q makes a block of what p gave, m turns, z (the last one) stores -/
def edgeB (l : List Oper) (a b : Nat) : Bool := match l[b]? with
  | none => false
  | some o => o.after.any fun e => Region.binds .any e && e.on == a
theorem edge_on {l : List Oper} {a b : Nat} (h : edgeB l a b = true) {o : Oper} (ho : l[b]? = some o) : ∃ e ∈ o.after, Region.binds .any e = true ∧ e.on = a := by
  unfold edgeB at h
  rw [ho] at h
  obtain ⟨e1, e2, e3⟩ := Array.any_eq_true'.1 h
  simp only [Bool.and_eq_true, beq_iff_eq] at e3
  exact ⟨e1, e2, e3.1, e3.2⟩
def PStep (P : Program) (l : List Oper) (t0 : Array Value) (ds : List Deferred) (c : Nat → Option Value) (p q m z : Nat) (K S0 : World → Prop) (SP : Value → World → Prop) (SQ : Value → Value → World → Prop) (S1 : Value → World → Prop) (S2 : World → Prop) (i : Nat) (o : Oper) : Prop :=
  ∀ (x : Nat → Value) (w : World), (∀ e ∈ o.after, Region.binds .any e = true → ∀ v, c e.on = some v → x e.on = v) →
    (i ≠ p → i ≠ q → i ≠ m → i ≠ z → K w → TPost P l t0 ds x o (fun v w' => (∀ u, c i = some u → v = u) ∧ Ext w w') w) ∧
    (i = p → S0 w → TPost P l t0 ds x o (fun v w' => (∀ u, c i = some u → v = u) ∧ Ext w w' ∧ SP v w') w) ∧
    (i = q → S0 w → SP (x p) w → TPost P l t0 ds x o (fun v w' => (∀ u, c i = some u → v = u) ∧ Ext w w' ∧ SQ (x p) v w') w) ∧
    (i = m → S0 w → SQ (x p) (x q) w → TPost P l t0 ds x o (fun v w' => (∀ u, c i = some u → v = u) ∧ S1 v w') w) ∧
    (i = z → S1 (x m) w → TPost P l t0 ds x o (fun v w' => (∀ u, c i = some u → v = u) ∧ S2 w') w)
theorem wp_region_pq {P : Program} {l : List Oper} {id : Nat} {Q : Exit → Act → World → Prop} {t0 : Array Value} {ds : List Deferred} {w : World} (hm : P.follows .mixedOrders = true) (hB : regB l.toArray = true)
    (c : Nat → Option Value) (p q m z : Nat) (hne : p ≠ q ∧ p ≠ m ∧ p ≠ z ∧ q ≠ m ∧ q ≠ z ∧ m ≠ z) (hmo : decide (m < l.length) = true) (hqo : decide (q < l.length) = true) (hpq : edgeB l p q = true) (hqm : edgeB l q m = true) (hl : lastB l z = true)
    (K S0 : World → Prop) (SP : Value → World → Prop) (SQ : Value → Value → World → Prop) (S1 : Value → World → Prop) (S2 : World → Prop)
    (st0 : ∀ {a b}, Ext a b → S0 a → S0 b) (stp : ∀ {v a b}, Ext a b → SP v a → SP v b) (stq : ∀ {u v a b}, Ext a b → SQ u v a → SQ u v b) (st1 : ∀ {v a b}, Ext a b → S1 v a → S1 v b) (k0 : ∀ {a}, S0 a → K a) (k1 : ∀ {v a}, S1 v a → K a)
    (h0 : S0 w.drew) (hs : AllFrom (PStep P l t0 ds c p q m z K S0 SP SQ S1 S2) l 0)
    (hend : ∀ x w', (∀ i, i < l.length → ∀ v, c i = some v → x i = v) → S2 w' → Q .normal ⟨frL x l 0 t0, ds⟩ w') : (Code.region id l.toArray true).wp P Q ⟨t0, ds⟩ w := by
  have hmo : m < l.length := of_decide_eq_true hmo
  have hqo : q < l.length := of_decide_eq_true hqo
  obtain ⟨npq, npm, npz, nqm, nqz, nmz⟩ := hne
  obtain ⟨oz, hoz, hzl, hza⟩ : ∃ oz, l[z]? = some oz ∧ z < l.length ∧ ∀ i, i < l.length → i ≠ z → ∃ e ∈ oz.after, Region.binds .any e = true ∧ e.on = i := by
    unfold lastB at hl
    split at hl
    · cases hl
    · rename_i oz hoz
      simp only [Bool.and_eq_true, decide_eq_true_eq, List.all_eq_true, List.mem_range, Bool.or_eq_true, beq_iff_eq] at hl
      refine ⟨oz, hoz, hl.1, fun i hi hne => ?_⟩
      rcases hl.2 i hi with e | e
      · exact absurd e hne
      · obtain ⟨e1, e2, e3⟩ := Array.any_eq_true'.1 e
        simp only [Bool.and_eq_true, beq_iff_eq] at e3
        exact ⟨e1, e2, e3.1, e3.2⟩
  have toM : ∀ {L : Nat → Bool}, Closed l.toArray L → L m = true → L q = true := fun {L} hcl h => by
    obtain ⟨e, e1, e2, e3⟩ := edge_on hqm (List.getElem?_eq_getElem hmo)
    have := hcl m l[m] (by simp) h e e1 e2
    rwa [e3] at this
  have toQ : ∀ {L : Nat → Bool}, Closed l.toArray L → L q = true → L p = true := fun {L} hcl h => by
    obtain ⟨e, e1, e2, e3⟩ := edge_on hpq (List.getElem?_eq_getElem hqo)
    have := hcl q l[q] (by simp) h e e1 e2
    rwa [e3] at this
  refine wp_region_lit_inv hm hB c (fun L x w' => (L m = false → S0 w' ∧ (L p = true → SP (x p) w') ∧ (L q = true → SQ (x p) (x q) w')) ∧ (L m = true → L z = false → S1 (x m) w') ∧ (L z = true → S2 w')) ⟨fun _ => ⟨h0, fun h => (by cases h), fun h => (by cases h)⟩, fun h => (by cases h), fun h => (by cases h)⟩ ?_ ?_
  · have : ∀ (r : List Oper) (k : Nat), (∀ i o, r[i]? = some o → l[k + i]? = some o) → AllFrom (Step P l t0 ds c (fun L x w' => (L m = false → S0 w' ∧ (L p = true → SP (x p) w') ∧ (L q = true → SQ (x p) (x q) w')) ∧ (L m = true → L z = false → S1 (x m) w') ∧ (L z = true → S2 w'))) r k := by
      intro r
      induction r with
      | nil => intro k _; exact trivial
      | cons o r ih =>
        intro k hk
        refine ⟨?_, ih (k + 1) fun i o' ho' => by
          have := hk (i + 1) o' (by simpa using ho')
          rwa [show k + (i + 1) = k + 1 + i from by omega] at this⟩
        intro L x w' hLk hcl hd hG
        have hok : l[k]? = some o := by simpa using hk 0 o rfl
        have ht := hs.get k o hok
        rw [Nat.zero_add] at ht
        obtain ⟨t1, tp, tq, t2, t3⟩ := ht x w' fun e he hb v hv => (hd e he hb).2 v hv
        obtain ⟨g1, g2, g3⟩ := hG
        have dep : ∀ {a : Nat}, edgeB l a k = true → L a = true := fun {a} h => by
          obtain ⟨e, e1, e2, e3⟩ := edge_on h hok
          have := (hd e e1 e2).1
          rwa [e3] at this
        show TPost P l t0 ds x o (fun v w'' => (∀ u, c k = some u → v = u) ∧ _) w'
        by_cases hkz : k = z
        · subst hkz
          have hLm : L m = true := by
            obtain ⟨e, e1, e2, e3⟩ := hza m hmo nmz
            have ho : o = oz := by rw [hok] at hoz; injection hoz
            rw [← ho] at e1
            have := (hd e e1 e2).1
            rwa [e3] at this
          refine (t3 rfl (g2 hLm hLk)).mono fun v w'' h => ⟨h.1, fun h' => ?_, fun _ h' => ?_, fun _ => h.2⟩
          · rw [upd_ne _ _ nmz, hLm] at h'; cases h'
          · rw [upd_same] at h'; cases h'
        · have hLz : L z = false := by
            cases e : L z with
            | false => rfl
            | true =>
              obtain ⟨e', e1, e2, e3⟩ := hza k (List.getElem?_eq_some_iff.1 hok).1 hkz
              have := hcl z oz (by simpa using hoz) e e' e1 e2
              rw [e3, hLk] at this; cases this
          have hz0 : ∀ v, upd L k true z = true → S2 v := fun v h' => by rw [upd_ne _ _ (Ne.symm hkz), hLz] at h'; cases h'
          by_cases hkm : k = m
          · subst hkm
            have hLq := dep hqm
            refine (t2 rfl (g1 hLk).1 ((g1 hLk).2.2 hLq)).mono fun v w'' h => ⟨h.1, fun h' => ?_, fun _ _ => ?_, hz0 w''⟩
            · rw [upd_same] at h'; cases h'
            · rw [upd_same]; exact h.2
          · by_cases hkp : k = p
            · subst hkp
              have hLm : L m = false := by
                cases e : L m with
                | false => rfl
                | true => rw [toQ hcl (toM hcl e)] at hLk; cases hLk
              have hLq : L q = false := by
                cases e : L q with
                | false => rfl
                | true => rw [toQ hcl e] at hLk; cases hLk
              refine (tp rfl (g1 hLm).1).mono fun v w'' h => ⟨h.1, fun _ => ⟨st0 h.2.1 (g1 hLm).1, fun _ => by rw [upd_same]; exact h.2.2, fun h' => ?_⟩, fun h' => ?_, hz0 w''⟩
              · rw [upd_ne _ _ (Ne.symm npq), hLq] at h'; cases h'
              · rw [upd_ne _ _ (Ne.symm hkm), hLm] at h'; cases h'
            · by_cases hkq : k = q
              · subst hkq
                have hLm : L m = false := by
                  cases e : L m with
                  | false => rfl
                  | true => rw [toM hcl e] at hLk; cases hLk
                have hLp := dep hpq
                refine (tq rfl (g1 hLm).1 ((g1 hLm).2.1 hLp)).mono fun v w'' h => ⟨h.1, fun _ => ⟨st0 h.2.1 (g1 hLm).1, fun _ => ?_, fun _ => ?_⟩, fun h' => ?_, hz0 w''⟩
                · rw [upd_ne _ _ npq]; exact stp h.2.1 ((g1 hLm).2.1 hLp)
                · rw [upd_ne _ _ npq, upd_same]; exact h.2.2
                · rw [upd_ne _ _ (Ne.symm hkm), hLm] at h'; cases h'
              · have hK : K w' := by
                  cases e : L m with
                  | false => exact k0 (g1 e).1
                  | true => exact k1 (g2 e hLz)
                refine (t1 hkp hkq hkm hkz hK).mono fun v w'' h => ⟨h.1, fun h' => ?_, fun h' _ => ?_, hz0 w''⟩
                · rw [upd_ne _ _ (Ne.symm hkm)] at h'
                  rw [upd_ne _ _ (Ne.symm hkp), upd_ne _ _ (Ne.symm hkq), upd_ne _ _ (Ne.symm hkp), upd_ne _ _ (Ne.symm hkq)]
                  exact ⟨st0 h.2 (g1 h').1, fun a => stp h.2 ((g1 h').2.1 a), fun a => stq h.2 ((g1 h').2.2 a)⟩
                · rw [upd_ne _ _ (Ne.symm hkm)] at h' ⊢; exact st1 h.2 (g2 h' hLz)
    exact this l 0 fun i o ho => by rw [Nat.zero_add]; exact ho
  · intro L x w' hall hG
    exact hend x w' (fun i hi v hv => (hall i hi).2 v hv) (hG.2.2 (hall z hzl).1)
end Go.Proofs.YtddghaoejnbkaaaDoor
