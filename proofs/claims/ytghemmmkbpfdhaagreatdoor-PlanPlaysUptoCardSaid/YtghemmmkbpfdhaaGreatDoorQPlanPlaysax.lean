/- Contracts and lemmas for the proof of PlanPlays; each theorem states its own conditions. -/
import Derived.Test.YtghemmmkbpfdhaaGreatDoorQPlanPlaysah
import Derived.Test.YtghemmmkbpfdhaaGreatDoorQPlanPlaysaa
import Derived.Test.YtghemmmkbpfdhaaGreatDoorQPlanPlaysaw
set_option linter.unusedVariables false
set_option linter.unusedSimpArgs false
/- Contracts and lemmas for the proofs of this seat; each theorem states its own conditions. -/
namespace Go.Proofs.YtghemmmkbpfdhaaGreatDoor
open Go.RowKit
/-! a region that draws its order, in which one operation (m) turns what lies there and the last one (z) stores: all others only read and make -/
/-- the last one waits for all -/
def lastB (l : List Oper) (z : Nat) : Bool := match l[z]? with
  | none => false
  | some o => decide (z < l.length) && (List.range l.length).all fun i => i == z || o.after.any fun e => Region.binds .any e && e.on == i
def TPost (P : Program) (l : List Oper) (t0 : Array Value) (ds : List Deferred) (x : Nat → Value) (o : Oper) (R : Value → World → Prop) (w : World) : Prop :=
  wpList P l.toArray (fun e a' w' => e = .normal ∧ ∃ v, a' = (⟨frL x l 0 t0, ds⟩ : Act).put o.dst v ∧ R v w') [o] ⟨frL x l 0 t0, ds⟩ w
def TStep (P : Program) (l : List Oper) (t0 : Array Value) (ds : List Deferred) (c : Nat → Option Value) (m z : Nat) (K S0 : World → Prop) (S1 : Value → World → Prop) (S2 : World → Prop) (i : Nat) (o : Oper) : Prop :=
  ∀ (x : Nat → Value) (w : World), (∀ e ∈ o.after, Region.binds .any e = true → ∀ v, c e.on = some v → x e.on = v) →
    (i ≠ m → i ≠ z → K w → TPost P l t0 ds x o (fun v w' => (∀ u, c i = some u → v = u) ∧ Ext w w') w) ∧
    (i = m → S0 w → TPost P l t0 ds x o (fun v w' => (∀ u, c i = some u → v = u) ∧ S1 v w') w) ∧
    (i = z → S1 (x m) w → TPost P l t0 ds x o (fun v w' => (∀ u, c i = some u → v = u) ∧ S2 w') w)
theorem TPost.mono {P : Program} {l : List Oper} {t0 : Array Value} {ds : List Deferred} {x : Nat → Value} {o : Oper} {R R' : Value → World → Prop} {w : World} (h : TPost P l t0 ds x o R w) (k : ∀ v w', R v w' → R' v w') : TPost P l t0 ds x o R' w := by
  unfold TPost wpList at *
  split
  · rename_i hw
    rw [if_pos hw] at h
    rcases h with h | ⟨_, h⟩
    · left
      refine Oper.upon_both (fun a' w'' hh => ?_) (fun e a' w'' hne hh => ?_) h
      · obtain ⟨h1, v, h2, h3⟩ := hh
        exact ⟨h1, v, h2, k _ _ h3⟩
      · exact absurd hh.1 hne
    · obtain ⟨a', w'', he, _⟩ := h; cases he
  · rename_i hw
    rw [if_neg hw] at h
    obtain ⟨h1, v, h2, h3⟩ := h
    exact ⟨h1, v, h2, k _ _ h3⟩
theorem wp_region_turn {P : Program} {l : List Oper} {id : Nat} {Q : Exit → Act → World → Prop} {t0 : Array Value} {ds : List Deferred} {w : World} (hm : P.follows .mixedOrders = true) (hB : regB l.toArray = true)
    (c : Nat → Option Value) (m z : Nat) (hmz : m ≠ z) (hmo : decide (m < l.length) = true) (hl : lastB l z = true) (K S0 : World → Prop) (S1 : Value → World → Prop) (S2 : World → Prop)
    (st0 : ∀ {a b}, Ext a b → S0 a → S0 b) (st1 : ∀ {v a b}, Ext a b → S1 v a → S1 v b) (k0 : ∀ {a}, S0 a → K a) (k1 : ∀ {v a}, S1 v a → K a)
    (h0 : S0 w.drew) (hs : AllFrom (TStep P l t0 ds c m z K S0 S1 S2) l 0)
    (hend : ∀ x w', (∀ i, i < l.length → ∀ v, c i = some v → x i = v) → S2 w' → Q .normal ⟨frL x l 0 t0, ds⟩ w') : (Code.region id l.toArray true).wp P Q ⟨t0, ds⟩ w := by
  have hmo : m < l.length := of_decide_eq_true hmo
  obtain ⟨oz, hoz, hzl, hza⟩ : ∃ oz, l[z]? = some oz ∧ z < l.length ∧ ∀ i, i < l.length → i ≠ z → ∃ e ∈ oz.after, Region.binds .any e = true ∧ e.on = i := by
    unfold lastB at hl
    split at hl
    · cases hl
    · rename_i oz hoz
      simp only [Bool.and_eq_true, decide_eq_true_eq, List.all_eq_true, List.mem_range, Bool.or_eq_true, beq_iff_eq] at hl
      refine ⟨oz, hoz, hl.1, fun i hi hne => ?_⟩
      rcases hl.2 i hi with e | e
      · exact absurd e hne
      · obtain ⟨e1, e2, e3⟩ := Array.any_eq_true'.1 e
        simp only [Bool.and_eq_true, beq_iff_eq] at e3
        exact ⟨e1, e2, e3.1, e3.2⟩
  refine wp_region_lit_inv hm hB c (fun L x w' => (L m = false → S0 w') ∧ (L m = true → L z = false → S1 (x m) w') ∧ (L z = true → S2 w')) ⟨fun _ => h0, fun h => (by cases h), fun h => (by cases h)⟩ ?_ ?_
  · have : ∀ (r : List Oper) (k : Nat), (∀ i o, r[i]? = some o → l[k + i]? = some o) → AllFrom (Step P l t0 ds c (fun L x w' => (L m = false → S0 w') ∧ (L m = true → L z = false → S1 (x m) w') ∧ (L z = true → S2 w'))) r k := by
      intro r
      induction r with
      | nil => intro k _; exact trivial
      | cons o r ih =>
        intro k hk
        refine ⟨?_, ih (k + 1) fun i o' ho' => by
          have := hk (i + 1) o' (by simpa using ho')
          rwa [show k + (i + 1) = k + 1 + i from by omega] at this⟩
        intro L x w' hLk hcl hd hG
        have hok : l[k]? = some o := by simpa using hk 0 o rfl
        have ht := hs.get k o hok
        rw [Nat.zero_add] at ht
        obtain ⟨t1, t2, t3⟩ := ht x w' fun e he hb v hv => (hd e he hb).2 v hv
        obtain ⟨g1, g2, g3⟩ := hG
        show TPost P l t0 ds x o (fun v w'' => (∀ u, c k = some u → v = u) ∧ _) w'
        by_cases hkz : k = z
        · subst hkz
          have hLm : L m = true := by
            obtain ⟨e, e1, e2, e3⟩ := hza m hmo hmz
            have ho : o = oz := by rw [hok] at hoz; injection hoz
            rw [← ho] at e1
            have := (hd e e1 e2).1
            rwa [e3] at this
          refine (t3 rfl (g2 hLm hLk)).mono fun v w'' h => ⟨h.1, fun h' => ?_, fun _ h' => ?_, fun _ => h.2⟩
          · rw [upd_ne _ _ hmz, hLm] at h'; cases h'
          · rw [upd_same] at h'; cases h'
        · have hLz : L z = false := by
            cases e : L z with
            | false => rfl
            | true =>
              obtain ⟨e', e1, e2, e3⟩ := hza k (List.getElem?_eq_some_iff.1 hok).1 hkz
              have := hcl z oz (by simpa using hoz) e e' e1 e2
              rw [e3, hLk] at this; cases this
          by_cases hkm : k = m
          · subst hkm
            refine (t2 rfl (g1 hLk)).mono fun v w'' h => ⟨h.1, fun h' => ?_, fun _ _ => ?_, fun h' => ?_⟩
            · rw [upd_same] at h'; cases h'
            · rw [upd_same]; exact h.2
            · rw [upd_ne _ _ (Ne.symm hkz), hLz] at h'; cases h'
          · have hK : K w' := by
              cases e : L m with
              | false => exact k0 (g1 e)
              | true => exact k1 (g2 e hLz)
            refine (t1 hkm hkz hK).mono fun v w'' h => ⟨h.1, fun h' => ?_, fun h' _ => ?_, fun h' => ?_⟩
            · rw [upd_ne _ _ (Ne.symm hkm)] at h'; exact st0 h.2 (g1 h')
            · rw [upd_ne _ _ (Ne.symm hkm)] at h' ⊢; exact st1 h.2 (g2 h' hLz)
            · rw [upd_ne _ _ (Ne.symm hkz), hLz] at h'; cases h'
    exact this l 0 fun i o ho => by rw [Nat.zero_add]; exact ho
  · intro L x w' hall hG
    exact hend x w' (fun i hi v hv => (hall i hi).2 v hv) (hG.2.2 (hall z hzl).1)
end Go.Proofs.YtghemmmkbpfdhaaGreatDoor

/- Contracts and lemmas for the proofs of this seat; each theorem states its own conditions. -/
namespace Go.Proofs.YtghemmmkbpfdhaaGreatDoor
open Go.RowKit Go.Maps
/-! Free -/
/-- the table between: its rows of claims told by Cl, its map of keys of at most N entries -/
structure LockG (w : World) (B bt bk bd : Nat) (A : List Ops) (g : Nat → Bool) (F : ByteArray → Option SV) (G : Int → Option SV) (Cl : ByteArray → Clm) (N X : Nat) : Prop where
  hBt : B ≤ bt
  hBk : B ≤ bk
  hBd : B ≤ bd
  ne : bk ≠ bd
  box : w.heap[bt]? = some (.cells #[.map (some bk), .map (some bd), .int .i64 X] 123 (0, 0))
  km : ∃ n D, w.ownsMap Tryz.prog 9 svElem bk n D ∧ n ≤ N ∧ MapF kS okS dV D F
  dm : ∃ n D, w.ownsMap Tryz.prog 3 svElem bd n D ∧ n ≤ A.length ∧ MapF kI okI dV D G ∧ size D = liveN g A.length
  keys : ∀ k, w.ownsRow B 130 2 (svV ((F k).getD none)) (Cl k).length (cK (Cl k))
  apart : ∀ k k' s s', k ≠ k' → F k = some s → F k' = some s' → (svV s).ownBlock = none ∨ (svV s).ownBlock ≠ (svV s').ownBlock
  rows : ∀ n : Nat, n < A.length → g n = false → ∃ s, G (n : Int) = some s ∧ w.ownsRow B 9 1 (svV s) (tkL (A.getD n [])).length (cS (tkL (A.getD n [])))
theorem LockSt.g {w : World} {B bt bk bd : Nat} {A : List Ops} {g : Nat → Bool} {F : ByteArray → Option SV} {G : Int → Option SV} (h : LockSt w B bt bk bd A g F G) : LockG w B bt bk bd A g F G (fun k => clmTo A g k A.length) (32 * (A.length + (A.length - liveN g A.length))) A.length :=
  ⟨h.hBt, h.hBk, h.hBd, h.ne, h.box, h.km, h.dm, h.keys, h.apart, h.rows⟩
theorem LockG.ext {w w' : World} {B bt bk bd : Nat} {A : List Ops} {g : Nat → Bool} {F : ByteArray → Option SV} {G : Int → Option SV} {Cl : ByteArray → Clm} {N X : Nat} (h : LockG w B bt bk bd A g F G Cl N X) (E : Ext w w') : LockG w' B bt bk bd A g F G Cl N X where
  hBt := h.hBt
  hBk := h.hBk
  hBd := h.hBd
  ne := h.ne
  box := E.heap h.box
  km := by obtain ⟨n, D, a, b⟩ := h.km; exact ⟨n, D, ownsMap_ext a E, b⟩
  dm := by obtain ⟨n, D, a, b⟩ := h.dm; exact ⟨n, D, ownsMap_ext a E, b⟩
  keys := fun k => own_ext (h.keys k) E
  apart := h.apart
  rows := fun n a b => by obtain ⟨s, e, o⟩ := h.rows n a b; exact ⟨s, e, own_ext o E⟩
/-- a row of claims is turned in place, then stored anew: what holds between -/
def Mid (w0 : World) (B bt bk bd : Nat) (A : List Ops) (g : Nat → Bool) (F : ByteArray → Option SV) (G : Int → Option SV) (Cl : ByteArray → Clm) (N X : Nat) (key : ByteArray) (l' : Clm) (v : Value) (w : World) : Prop :=
  ∃ w1, LockG w1 B bt bk bd A g F G Cl N X ∧ w1.grownBy w (svV ((F key).getD none)).ownBlock ∧ w.ownsRow B 130 2 v l'.length (cK l') ∧ (v.ownBlock = (svV ((F key).getD none)).ownBlock ∨ ∀ k, v.ownBlock = some k → w1.heap.size ≤ k) ∧ Ext w0 w1
theorem claim_ne_box {w : World} {B bt bk bd : Nat} {A : List Ops} {g : Nat → Bool} {F : ByteArray → Option SV} {G : Int → Option SV} {Cl : ByteArray → Clm} {N X : Nat} (h : LockG w B bt bk bd A g F G Cl N X) (key : ByteArray) : (svV ((F key).getD none)).ownBlock ≠ some bt ∧ (svV ((F key).getD none)).ownBlock ≠ some bk ∧ (svV ((F key).getD none)).ownBlock ≠ some bd := by
  have hk := h.keys key
  refine ⟨own_ne hk h.box (by decide), fun e => ?_, fun e => ?_⟩
  · obtain ⟨n, D, ⟨es, clock, hm, _⟩, _⟩ := h.km
    rcases hk.2 with ⟨hn, _⟩ | ⟨b, cap, cur, hv, hb, hg, rest⟩
    · rw [hn] at e; cases e
    · rw [hv] at e; injection e with e; subst e; rw [hm] at hg; cases hg
  · obtain ⟨n, D, ⟨es, clock, hm, _⟩, _⟩ := h.dm
    rcases hk.2 with ⟨hn, _⟩ | ⟨b, cap, cur, hv, hb, hg, rest⟩
    · rw [hn] at e; cases e
    · rw [hv] at e; injection e with e; subst e; rw [hm] at hg; cases hg
theorem own_not_map {w : World} {B e sz n b : Nat} {v : Value} {xs : List Value} (h : w.ownsRow B e sz v n xs) {es : Array MapEntry} {clock : Nat} (hm : w.heap[b]? = some (.map es clock)) : v.ownBlock ≠ some b := fun e' => by
  rcases h.2 with ⟨hn, _⟩ | ⟨b', cap, cur, hv, hb, hg, rest⟩
  · rw [hn] at e'; cases e'
  · rw [hv] at e'; injection e' with e'; subst e'; rw [hm] at hg; cases hg
theorem kept_ne {w w' : World} {B e sz n b : Nat} {v : Value} {xs : List Value} (hg : w.grownBy w' (some b)) (h : w.ownsRow B e sz v n xs) (hne : v.ownBlock ≠ some b) : w'.ownsRow B e sz v n xs := grown_own hg h (.inr hne)
/-- the store of a turned row -/
theorem mid_store {w0 w w' : World} {B bt bk bd : Nat} {A : List Ops} {g : Nat → Bool} {F : ByteArray → Option SV} {G : Int → Option SV} {Cl : ByteArray → Clm} {N X : Nat} {key : ByteArray} {l' : Clm} {sv : SV} (h : Mid w0 B bt bk bd A g F G Cl N X key l' (svV sv) w) (hk : okS key) {n : Nat} {D : DU}
    (hmap : w.ownsMap Tryz.prog 9 svElem bk n D) (hn : n ≤ N) (hF : MapF kS okS dV D F) (hmap' : w'.ownsMap Tryz.prog 9 svElem bk (n + 1) (D.put (kS key) (dV sv))) (hg' : w.grownBy w' (some bk)) :
    LockG w' B bt bk bd A g (fun k => if k = key then some sv else F k) G (fun k => if k = key then l' else Cl k) (N + 1) X ∧ TFr B bt bk bd w0 w' := by
  obtain ⟨w1, hl, hg1, ho, hb, E⟩ := h
  obtain ⟨c1, c2, c3⟩ := claim_ne_box hl key
  obtain ⟨es, clock, hm, _⟩ := hmap
  have hbk1 : ∃ es clock, w1.heap[bk]? = some (.map es clock) := by
    obtain ⟨_, _, ⟨es, clock, hm, _⟩, _⟩ := hl.km; exact ⟨es, clock, hm⟩
  obtain ⟨es1, clock1, hm1⟩ := hbk1
  have hbt : bt ≠ bk := by rintro rfl; have := hl.box; rw [hm1] at this; cases this
  refine ⟨⟨hl.hBt, hl.hBk, hl.hBd, hl.ne, ?_, ⟨n + 1, _, hmap', by omega, hF.put kS_inj kS_is hk sv⟩, ?_, fun k => ?_, fun k k' s s' hne h1 h2 => ?_, fun m h1 h2 => ?_⟩, ?_⟩
  · exact grown_heap hg' (grown_heap hg1 hl.box c1) (fun e => hbt (by injection e with e; exact e.symm))
  · obtain ⟨m, D', a, b⟩ := hl.dm
    exact ⟨m, D', (a.kept hg1 (fun e => c3 e.symm)).kept hg' (fun e => hl.ne (by injection e with e; exact e.symm)), b⟩
  · by_cases e : k = key
    · subst e
      simp only [if_true, Option.getD_some]
      exact kept_ne hg' ho (own_not_map ho hm)
    · simp only [if_neg e]
      have hk1 := hl.keys k
      have hap : (svV ((F k).getD none)).ownBlock = none ∨ (svV ((F k).getD none)).ownBlock ≠ (svV ((F key).getD none)).ownBlock := by
        cases h1 : F k with
        | none => left; rfl
        | some s1 =>
          cases h2 : F key with
          | none =>
            cases h3 : (svV ((some s1 : Option SV).getD none)).ownBlock with
            | none => left; rfl
            | some b => right; show some b ≠ none; simp
          | some s2 => exact hl.apart k key s1 s2 e h1 h2
      have hk2 := grown_own hg1 hk1 hap
      exact kept_ne hg' hk2 (own_not_map hk2 hm)
  · have hfar : ∀ k' s', k' ≠ key → F k' = some s' → (svV sv).ownBlock = none ∨ (svV sv).ownBlock ≠ (svV s').ownBlock := fun k' s' hne' h2' => by
      rcases hb with hb | hb
      · rw [hb]
        cases h3 : F key with
        | none => left; rfl
        | some s0 => exact hl.apart key k' s0 s' (Ne.symm hne') h3 h2'
      · cases e : (svV sv).ownBlock with
        | none => exact .inl rfl
        | some b =>
          right
          intro e'
          have h5 := hb b e
          have h4 := hl.keys k'
          rw [h2', Option.getD_some] at h4
          have := (h4.lt b e'.symm).2
          omega
    by_cases e : k = key
    · subst e
      simp only [if_true] at h1
      injection h1 with h1; subst h1
      rw [if_neg (Ne.symm hne)] at h2
      exact hfar k' s' (Ne.symm hne) h2
    · rw [if_neg e] at h1
      by_cases e' : k' = key
      · subst e'
        simp only [if_true] at h2
        injection h2 with h2; subst h2
        rcases hfar k s e h1 with h3 | h3
        · cases h4 : (svV s).ownBlock with
          | none => left; rfl
          | some b => right; rw [h3]; simp
        · exact .inr fun e2 => h3 e2.symm
      · rw [if_neg e'] at h2
        exact hl.apart k k' s s' hne h1 h2
  · obtain ⟨s, e, o⟩ := hl.rows m h1 h2
    have o2 := grown_own hg1 o (own_own_ne o (hl.keys key) (by decide))
    exact ⟨s, e, kept_ne hg' o2 (own_not_map o2 hm)⟩
  · refine (TFr.of_ext E).trans ?_
    have t1 : TFr B bt bk bd w1 w := ⟨hg1.os, hg1.tape, hg1.output, hg1.size, fun i hi => by
      by_cases e : (svV ((F key).getD none)).ownBlock = some i
      · right
        have hk1 := hl.keys key
        rcases hk1.2 with ⟨hn, _⟩ | ⟨b, cap, cur, hv, hbb, hgg, rest⟩
        · rw [hn] at e; cases e
        · rw [hv] at e; injection e with e; subst e
          exact ⟨hbb, .inr (.inr (.inr ⟨cur, hgg⟩))⟩
      · exact .inl (hg1.block i hi (fun e' => e e'.symm))⟩
    refine t1.trans ⟨hg'.os, hg'.tape, hg'.output, hg'.size, fun i hi => ?_⟩
    by_cases e : i = bk
    · subst e; exact .inr ⟨hl.hBk, .inr (.inl rfl)⟩
    · exact .inl (hg'.block i hi (fun e' => e (by injection e')))
end Go.Proofs.YtghemmmkbpfdhaaGreatDoor
