/- Contracts and lemmas for the proof of PartsPlay; each theorem states its own conditions. -/
import Derived.Test.YtimchedebcoohaaGreatDoorQPartsPlayaj
import Derived.Test.YtimchedebcoohaaGreatDoorQPartsPlayaa
import Derived.Test.YtimchedebcoohaaGreatDoorQPartsPlaybb
set_option linter.unusedVariables false
set_option linter.unusedSimpArgs false
/- Contracts and lemmas for the proofs of this seat; each theorem states its own conditions. -/
namespace Go.Proofs.YtimchedebcoohaaGreatDoor
open Go.RowKit
/-! a region that draws its order, in which one operation (m) turns what lies there and the last one (z) stores: all others only read and make -/
/-- the last one waits for all -/
def lastB (l : List Oper) (z : Nat) : Bool := match l[z]? with
  | none => false
  | some o => decide (z < l.length) && (List.range l.length).all fun i => i == z || o.after.any fun e => Region.binds .any e && e.on == i
def TPost (P : Program) (l : List Oper) (t0 : Array Value) (ds : List Deferred) (x : Nat → Value) (o : Oper) (R : Value → World → Prop) (w : World) : Prop :=
  wpList P l.toArray (fun e a' w' => e = .normal ∧ ∃ v, a' = (⟨frL x l 0 t0, ds⟩ : Act).put o.dst v ∧ R v w') [o] ⟨frL x l 0 t0, ds⟩ w
def TStep (P : Program) (l : List Oper) (t0 : Array Value) (ds : List Deferred) (c : Nat → Option Value) (m z : Nat) (K S0 : World → Prop) (S1 : Value → World → Prop) (S2 : World → Prop) (i : Nat) (o : Oper) : Prop :=
  ∀ (x : Nat → Value) (w : World), (∀ e ∈ o.after, Region.binds .any e = true → ∀ v, c e.on = some v → x e.on = v) →
    (i ≠ m → i ≠ z → K w → TPost P l t0 ds x o (fun v w' => (∀ u, c i = some u → v = u) ∧ Ext w w') w) ∧
    (i = m → S0 w → TPost P l t0 ds x o (fun v w' => (∀ u, c i = some u → v = u) ∧ S1 v w') w) ∧
    (i = z → S1 (x m) w → TPost P l t0 ds x o (fun v w' => (∀ u, c i = some u → v = u) ∧ S2 w') w)
theorem TPost.mono {P : Program} {l : List Oper} {t0 : Array Value} {ds : List Deferred} {x : Nat → Value} {o : Oper} {R R' : Value → World → Prop} {w : World} (h : TPost P l t0 ds x o R w) (k : ∀ v w', R v w' → R' v w') : TPost P l t0 ds x o R' w := by
  unfold TPost wpList at *
  split
  · rename_i hw
    rw [if_pos hw] at h
    rcases h with h | ⟨_, h⟩
    · left
      refine Oper.upon_both (fun a' w'' hh => ?_) (fun e a' w'' hne hh => ?_) h
      · obtain ⟨h1, v, h2, h3⟩ := hh
        exact ⟨h1, v, h2, k _ _ h3⟩
      · exact absurd hh.1 hne
    · obtain ⟨a', w'', he, _⟩ := h; cases he
  · rename_i hw
    rw [if_neg hw] at h
    obtain ⟨h1, v, h2, h3⟩ := h
    exact ⟨h1, v, h2, k _ _ h3⟩
theorem wp_region_turn {P : Program} {l : List Oper} {id : Nat} {Q : Exit → Act → World → Prop} {t0 : Array Value} {ds : List Deferred} {w : World} (hm : P.follows .mixedOrders = true) (hB : regB l.toArray = true)
    (c : Nat → Option Value) (m z : Nat) (hmz : m ≠ z) (hmo : decide (m < l.length) = true) (hl : lastB l z = true) (K S0 : World → Prop) (S1 : Value → World → Prop) (S2 : World → Prop)
    (st0 : ∀ {a b}, Ext a b → S0 a → S0 b) (st1 : ∀ {v a b}, Ext a b → S1 v a → S1 v b) (k0 : ∀ {a}, S0 a → K a) (k1 : ∀ {v a}, S1 v a → K a)
    (h0 : S0 w.drew) (hs : AllFrom (TStep P l t0 ds c m z K S0 S1 S2) l 0)
    (hend : ∀ x w', (∀ i, i < l.length → ∀ v, c i = some v → x i = v) → S2 w' → Q .normal ⟨frL x l 0 t0, ds⟩ w') : (Code.region id l.toArray true).wp P Q ⟨t0, ds⟩ w := by
  have hmo : m < l.length := of_decide_eq_true hmo
  obtain ⟨oz, hoz, hzl, hza⟩ : ∃ oz, l[z]? = some oz ∧ z < l.length ∧ ∀ i, i < l.length → i ≠ z → ∃ e ∈ oz.after, Region.binds .any e = true ∧ e.on = i := by
    unfold lastB at hl
    split at hl
    · cases hl
    · rename_i oz hoz
      simp only [Bool.and_eq_true, decide_eq_true_eq, List.all_eq_true, List.mem_range, Bool.or_eq_true, beq_iff_eq] at hl
      refine ⟨oz, hoz, hl.1, fun i hi hne => ?_⟩
      rcases hl.2 i hi with e | e
      · exact absurd e hne
      · obtain ⟨e1, e2, e3⟩ := Array.any_eq_true'.1 e
        simp only [Bool.and_eq_true, beq_iff_eq] at e3
        exact ⟨e1, e2, e3.1, e3.2⟩
  refine wp_region_lit_inv hm hB c (fun L x w' => (L m = false → S0 w') ∧ (L m = true → L z = false → S1 (x m) w') ∧ (L z = true → S2 w')) ⟨fun _ => h0, fun h => (by cases h), fun h => (by cases h)⟩ ?_ ?_
  · have : ∀ (r : List Oper) (k : Nat), (∀ i o, r[i]? = some o → l[k + i]? = some o) → AllFrom (Step P l t0 ds c (fun L x w' => (L m = false → S0 w') ∧ (L m = true → L z = false → S1 (x m) w') ∧ (L z = true → S2 w'))) r k := by
      intro r
      induction r with
      | nil => intro k _; exact trivial
      | cons o r ih =>
        intro k hk
        refine ⟨?_, ih (k + 1) fun i o' ho' => by
          have := hk (i + 1) o' (by simpa using ho')
          rwa [show k + (i + 1) = k + 1 + i from by omega] at this⟩
        intro L x w' hLk hcl hd hG
        have hok : l[k]? = some o := by simpa using hk 0 o rfl
        have ht := hs.get k o hok
        rw [Nat.zero_add] at ht
        obtain ⟨t1, t2, t3⟩ := ht x w' fun e he hb v hv => (hd e he hb).2 v hv
        obtain ⟨g1, g2, g3⟩ := hG
        show TPost P l t0 ds x o (fun v w'' => (∀ u, c k = some u → v = u) ∧ _) w'
        by_cases hkz : k = z
        · subst hkz
          have hLm : L m = true := by
            obtain ⟨e, e1, e2, e3⟩ := hza m hmo hmz
            have ho : o = oz := by rw [hok] at hoz; injection hoz
            rw [← ho] at e1
            have := (hd e e1 e2).1
            rwa [e3] at this
          refine (t3 rfl (g2 hLm hLk)).mono fun v w'' h => ⟨h.1, fun h' => ?_, fun _ h' => ?_, fun _ => h.2⟩
          · rw [upd_ne _ _ hmz, hLm] at h'; cases h'
          · rw [upd_same] at h'; cases h'
        · have hLz : L z = false := by
            cases e : L z with
            | false => rfl
            | true =>
              obtain ⟨e', e1, e2, e3⟩ := hza k (List.getElem?_eq_some_iff.1 hok).1 hkz
              have := hcl z oz (by simpa using hoz) e e' e1 e2
              rw [e3, hLk] at this; cases this
          by_cases hkm : k = m
          · subst hkm
            refine (t2 rfl (g1 hLk)).mono fun v w'' h => ⟨h.1, fun h' => ?_, fun _ _ => ?_, fun h' => ?_⟩
            · rw [upd_same] at h'; cases h'
            · rw [upd_same]; exact h.2
            · rw [upd_ne _ _ (Ne.symm hkz), hLz] at h'; cases h'
          · have hK : K w' := by
              cases e : L m with
              | false => exact k0 (g1 e)
              | true => exact k1 (g2 e hLz)
            refine (t1 hkm hkz hK).mono fun v w'' h => ⟨h.1, fun h' => ?_, fun h' _ => ?_, fun h' => ?_⟩
            · rw [upd_ne _ _ (Ne.symm hkm)] at h'; exact st0 h.2 (g1 h')
            · rw [upd_ne _ _ (Ne.symm hkm)] at h' ⊢; exact st1 h.2 (g2 h' hLz)
            · rw [upd_ne _ _ (Ne.symm hkz), hLz] at h'; cases h'
    exact this l 0 fun i o ho => by rw [Nat.zero_add]; exact ho
  · intro L x w' hall hG
    exact hend x w' (fun i hi v hv => (hall i hi).2 v hv) (hG.2.2 (hall z hzl).1)
end Go.Proofs.YtimchedebcoohaaGreatDoor

/- Contracts and lemmas for the proofs of this seat; each theorem states its own conditions. -/
namespace Go.Proofs.YtimchedebcoohaaGreatDoor
open Go.RowKit Go.Maps
/-! Free -/
theorem own_not_map {w : World} {B e sz n b : Nat} {v : Value} {xs : List Value} (h : w.ownsRow B e sz v n xs) {es : Array MapEntry} {clock : Nat} (hm : w.heap[b]? = some (.map es clock)) : v.ownBlock ≠ some b := fun e' => by
  rcases h.2 with ⟨hn, _⟩ | ⟨b', cap, cur, hv, hb, hg, rest⟩
  · rw [hn] at e'; cases e'
  · rw [hv] at e'; injection e' with e'; subst e'; rw [hm] at hg; cases hg
theorem kept_ne {w w' : World} {B e sz n b : Nat} {v : Value} {xs : List Value} (hg : w.grownBy w' (some b)) (h : w.ownsRow B e sz v n xs) (hne : v.ownBlock ≠ some b) : w'.ownsRow B e sz v n xs := grown_own hg h (.inr hne)
end Go.Proofs.YtimchedebcoohaaGreatDoor

/- Contracts and lemmas for the proofs of this seat; each theorem states its own conditions. -/
namespace Go.Proofs.YtimchedebcoohaaGreatDoor
open Go.RowKit Go.Maps
/-! the table's steps, in memory -/
theorem grown_then_ext {a b c : World} {row : Option Nat} (h : a.grownBy b row) (k : Ext b c) : a.grownBy c row := h.trans (grown_of_ext k)
theorem not_map_row {w : World} {B e sz n b : Nat} {v : Value} {xs : List Value} (h : w.ownsRow B e sz v n xs) {R : Value → Option (DU × List MemPlace)} {k : TypeId} {m : Nat} {D : DU} (hm : w.ownsMap Tryz.prog k R b m D) : v.ownBlock ≠ some b := by
  obtain ⟨es, clock, hm, _⟩ := hm
  exact own_not_map h hm
theorem G_none {A : List Ops} {g : Nat → Bool} {G : Int → Option SV} (h : ∀ z : Int, (∀ n : Nat, z = (n : Int) → n < A.length → g n = false → False) → G z = none) : G (A.length : Int) = none :=
  h _ fun n e h1 _ => by omega
theorem grown_cell (w : World) (g i : Nat) (u : Value) : w.grownBy (w.setCell ⟨g, i, none⟩ u) (some g) := ⟨rfl, rfl, rfl, by simp [World.setCell], fun j hj hne => by
    have : g ≠ j := fun e => hne (by rw [e])
    simp [World.setCell, Array.getElem?_modify, this]⟩
end Go.Proofs.YtimchedebcoohaaGreatDoor
