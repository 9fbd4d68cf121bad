/- Contracts and lemmas for the proof of MergePlays; each theorem states its own conditions. -/
import Derived.Test.YtddghaoejnbkaaaDoorQMergePlaysaz
import Derived.Test.YtddghaoejnbkaaaDoorQMergePlaysav
set_option linter.unusedVariables false
set_option linter.unusedSimpArgs false
/- Contracts and lemmas for the proofs of this seat; each theorem states its own conditions. -/
namespace Go.Proofs.YtddghaoejnbkaaaDoor
open Go.RowKit
variable {eB : Nat}
/-! merge: what may not be -/
theorem mnew_bad (z : Int) (h : z < 1 ∨ 4 < z) (w : World) : Calls Tryd.prog 4 #[.int .i64 z] w fun e w' => e = .returned (.tuple #[.pointer none, .int .i64 1]) ∧ w' = w := by
  by_cases h1 : z < 1
  · clear h
    go_enter Tryd.func4, Tryd.ntmps4
    go_wp2
    go_ret2
    exact ⟨rfl, rfl⟩
  · have h4 : z > 4 := by omega
    clear h
    go_enter Tryd.func4, Tryd.ntmps4
    go_wp2
    go_ret2
    exact ⟨rfl, rfl⟩
set_option maxRecDepth 10000 in
theorem madd_no {w : World} {S : Nat → Prop} {bm : Nat} {cl : List (List Bat)} {op : List Bat} (h : MergeSt eB w S bm cl op) (z : Int) (hz : ¬ (0 ≤ z ∧ z < (cl.length : Int))) (e : EV) :
    Calls Tryd.prog 10 #[.pointer (some ⟨bm, 0, none⟩), .int .i64 z, evV e] w fun r w' => r = .returned (.int .i64 4) ∧ Ext w w' := by
  obtain ⟨v1, b, v2, v3⟩ := e
  have E0 := (Ext.refl w).alloc (.cells #[v1, .bool b, v2, v3] 41)
  obtain ⟨bc, bo, vc, vo, h⟩ := h
  have n4 := h.n4
  have cb := E0.cell h.cells.2
  have HE := hid E0
  clear h E0
  show Calls _ _ #[_, _, .agg #[v1, .bool b, v2, v3]] _ _
  by_cases h0 : z < 0
  · clear hz
    go_enter Tryd.func10, Tryd.ntmps10
    go_wp2
    go_ret
    exact ⟨rfl, HE.out⟩
  · have h1 : z ≥ (cl.length : Int) := by omega
    clear hz
    go_enter Tryd.func10, Tryd.ntmps10
    go_wp2
    go_ret
    exact ⟨rfl, HE.out⟩
set_option maxRecDepth 10000 in
theorem madd_bad {w : World} {S : Nat → Prop} {bm : Nat} {cl : List (List Bat)} {op : List Bat} (h : MergeSt eB w S bm cl op) (i : Nat) (hi : i < cl.length) (e : EV) (x : Ent) (hx : EntSeg w e x) (sz : EntSz x) (hbad : entE x ≠ 0) :
    Calls Tryd.prog 10 #[.pointer (some ⟨bm, 0, none⟩), .int .i64 i, evV e] w fun r w' => r = .returned (.int .i64 (entE x)) ∧ Ext w w' := by
  have EC := hid (fun w' (E : Ext w w') => echeck_any e x w' (hx.ext E) sz)
  obtain ⟨v1, b, v2, v3⟩ := e
  have E0 := (Ext.refl w).alloc (.cells #[v1, .bool b, v2, v3] 41)
  have k0 := blk4 (heap_alloc_new w (.cells #[v1, .bool b, v2, v3] 41))
  obtain ⟨bc, bo, vc, vo, h⟩ := h
  have n4 := h.n4
  have cb := E0.cell h.cells.2
  have EC1 := hid (EC.out _ E0)
  have HE := hid E0
  have qa : ¬ ((i : Int) < 0) := by omega
  have qb : ¬ ((i : Int) ≥ (cl.length : Int)) := by omega
  generalize entE x = er at hbad EC1 ⊢
  have q : (er != 0) = true := by simp [hbad]
  clear h E0 EC hx hbad
  show Calls _ _ #[_, _, .agg #[v1, .bool b, v2, v3]] _ _
  go_enter Tryd.func10, Tryd.ntmps10
  go_wp2_with fail
  refine (EC1.out).mono ?_
  rintro r w1 ⟨rfl, E1⟩
  go_wp2
  go_ret
  exact ⟨rfl, HE.out.trans E1⟩
set_option maxRecDepth 10000 in
theorem madd_full {w : World} {S : Nat → Prop} {bm : Nat} {cl : List (List Bat)} {op : List Bat} (h : MergeSt eB w S bm cl op) (i : Nat) (hi : i < cl.length) (e : EV) (x : Ent) (hx : EntSeg w e x) (sz : EntSz x) (hok : entE x = 0) (hfull : manyM cl op = 60) (hcl : ∀ i, i < cl.length → (cl.getD i []).length ≤ 1000000) :
    Calls Tryd.prog 10 #[.pointer (some ⟨bm, 0, none⟩), .int .i64 i, evV e] w fun r w' => r = .returned (.int .i64 2) ∧ Ext w w' := by
  have MM := fun w' (E : Ext w w') => mmany_ok (h.ext E) (by omega) hcl
  rw [hfull] at MM
  have MM := hid MM
  have EC := fun w' (E : Ext w w') => echeck_any e x w' (hx.ext E) sz
  rw [hok] at EC
  have EC := hid EC
  obtain ⟨v1, b, v2, v3⟩ := e
  have E0 := (Ext.refl w).alloc (.cells #[v1, .bool b, v2, v3] 41)
  have k0 := blk4 (heap_alloc_new w (.cells #[v1, .bool b, v2, v3] 41))
  obtain ⟨bc, bo, vc, vo, h⟩ := h
  have n4 := h.n4
  have cb := E0.cell h.cells.2
  have EC1 := hid (EC.out _ E0)
  have HE := hid E0
  have qa : ¬ ((i : Int) < 0) := by omega
  have qb : ¬ ((i : Int) ≥ (cl.length : Int)) := by omega
  clear h E0 EC hx hfull hok hcl
  show Calls _ _ #[_, _, .agg #[v1, .bool b, v2, v3]] _ _
  go_enter Tryd.func10, Tryd.ntmps10
  go_wp2_with fail
  refine (EC1.out).mono ?_
  clear EC1
  rintro r w1 ⟨rfl, E1⟩
  have MM1 := hid (MM.out w1 (HE.out.trans E1))
  have HE1 := hid (HE.out.trans E1)
  clear MM E1
  go_wp2_with fail
  refine (MM1.out).mono ?_
  rintro r w2 ⟨rfl, E2⟩
  go_wp2
  go_ret
  exact ⟨rfl, HE1.out.trans E2⟩
set_option maxRecDepth 10000 in
theorem mclose_no {w : World} {S : Nat → Prop} {bm : Nat} {cl : List (List Bat)} {op : List Bat} (h : MergeSt eB w S bm cl op) (z : Int) (hz : ¬ (0 ≤ z ∧ z < (cl.length : Int))) :
    Calls Tryd.prog 12 #[.pointer (some ⟨bm, 0, none⟩), .int .i64 z] w fun r w' => r = .returned (.tuple #[.int .i64 0, .int .i64 4]) ∧ w' = w := by
  obtain ⟨bc, bo, vc, vo, h⟩ := h
  have n4 := h.n4
  have cb := h.cells.2
  clear h
  by_cases h0 : z < 0
  · clear hz
    go_enter Tryd.func12, Tryd.ntmps12
    go_wp2
    go_ret2
    exact ⟨rfl, rfl⟩
  · have h1 : z ≥ (cl.length : Int) := by omega
    clear hz
    go_enter Tryd.func12, Tryd.ntmps12
    go_wp2
    go_ret2
    exact ⟨rfl, rfl⟩
set_option maxRecDepth 10000 in
theorem mclose_full {w : World} {S : Nat → Prop} {bm : Nat} {cl : List (List Bat)} {op : List Bat} (h : MergeSt eB w S bm cl op) (i : Nat) (hi : i < cl.length) (hf : (cl.getD i []).length = 60) :
    Calls Tryd.prog 12 #[.pointer (some ⟨bm, 0, none⟩), .int .i64 i] w fun r w' => r = .returned (.tuple #[.int .i64 0, .int .i64 2]) ∧ w' = w := by
  obtain ⟨bc, bo, vc, vo, h⟩ := h
  have n4 := h.n4
  have cb := h.cells.2
  have cb' := h.cells.1
  obtain ⟨ci, _⟩ := h.cellC hi
  obtain ⟨us, hus, hown, hin, hbs⟩ := h.cls i hi
  obtain ⟨ai, ki, e1⟩ := own_form hown
  rw [hf] at e1
  rw [e1] at ci
  have qa : ¬ ((i : Int) < 0) := by omega
  have qb : ¬ ((i : Int) ≥ (cl.length : Int)) := by omega
  clear h hus hown hin hbs e1 hf
  go_enter Tryd.func12, Tryd.ntmps12
  go_wp2
  go_ret2
  exact ⟨rfl, rfl⟩
end Go.Proofs.YtddghaoejnbkaaaDoor

/- Contracts and lemmas for the proofs of this seat; each theorem states its own conditions. -/
namespace Go.Proofs.YtddghaoejnbkaaaDoor
open Go.RowKit
/-! a region that draws its order, in which two operations (m, then n) turn what lies there: all others only read and make -/
def DStep (P : Program) (l : List Oper) (t0 : Array Value) (ds : List Deferred) (c : Nat → Option Value) (m n : Nat) (K S0 S1 S2 : World → Prop) (i : Nat) (o : Oper) : Prop :=
  ∀ (x : Nat → Value) (w : World), (∀ e ∈ o.after, Region.binds .any e = true → ∀ v, c e.on = some v → x e.on = v) →
    (i ≠ m → i ≠ n → K w → TPost P l t0 ds x o (fun v w' => (∀ u, c i = some u → v = u) ∧ Ext w w') w) ∧
    (i = m → S0 w → TPost P l t0 ds x o (fun v w' => (∀ u, c i = some u → v = u) ∧ S1 w') w) ∧
    (i = n → S1 w → TPost P l t0 ds x o (fun v w' => (∀ u, c i = some u → v = u) ∧ S2 w') w)
theorem wp_region_two {P : Program} {l : List Oper} {id : Nat} {Q : Exit → Act → World → Prop} {t0 : Array Value} {ds : List Deferred} {w : World} (hm : P.follows .mixedOrders = true) (hB : regB l.toArray = true)
    (c : Nat → Option Value) (m n : Nat) (hne : m ≠ n) (hmo : decide (m < l.length) = true) (hno : decide (n < l.length) = true) (hmn : edgeB l m n = true) (K S0 S1 S2 : World → Prop)
    (st0 : ∀ {a b}, Ext a b → S0 a → S0 b) (st1 : ∀ {a b}, Ext a b → S1 a → S1 b) (st2 : ∀ {a b}, Ext a b → S2 a → S2 b) (k0 : ∀ {a}, S0 a → K a) (k1 : ∀ {a}, S1 a → K a) (k2 : ∀ {a}, S2 a → K a)
    (h0 : S0 w.drew) (hs : AllFrom (DStep P l t0 ds c m n K S0 S1 S2) l 0)
    (hend : ∀ x w', (∀ i, i < l.length → ∀ v, c i = some v → x i = v) → S2 w' → Q .normal ⟨frL x l 0 t0, ds⟩ w') : (Code.region id l.toArray true).wp P Q ⟨t0, ds⟩ w := by
  have hmo : m < l.length := of_decide_eq_true hmo
  have hno : n < l.length := of_decide_eq_true hno
  have toM : ∀ {L : Nat → Bool}, Closed l.toArray L → L n = true → L m = true := fun {L} hcl h => by
    obtain ⟨e, e1, e2, e3⟩ := edge_on hmn (List.getElem?_eq_getElem hno)
    have := hcl n l[n] (by simp) h e e1 e2
    rwa [e3] at this
  refine wp_region_lit_inv hm hB c (fun L _ w' => (L m = false → S0 w') ∧ (L m = true → L n = false → S1 w') ∧ (L n = true → S2 w')) ⟨fun _ => h0, fun h => (by cases h), fun h => (by cases h)⟩ ?_ ?_
  · have : ∀ (r : List Oper) (k : Nat), (∀ i o, r[i]? = some o → l[k + i]? = some o) → AllFrom (Step P l t0 ds c (fun L _ w' => (L m = false → S0 w') ∧ (L m = true → L n = false → S1 w') ∧ (L n = true → S2 w'))) r k := by
      intro r
      induction r with
      | nil => intro k _; exact trivial
      | cons o r ih =>
        intro k hk
        refine ⟨?_, ih (k + 1) fun i o' ho' => by
          have := hk (i + 1) o' (by simpa using ho')
          rwa [show k + (i + 1) = k + 1 + i from by omega] at this⟩
        intro L x w' hLk hcl hd hG
        have hok : l[k]? = some o := by simpa using hk 0 o rfl
        have ht := hs.get k o hok
        rw [Nat.zero_add] at ht
        obtain ⟨t1, t2, t3⟩ := ht x w' fun e he hb v hv => (hd e he hb).2 v hv
        obtain ⟨g1, g2, g3⟩ := hG
        show TPost P l t0 ds x o (fun v w'' => (∀ u, c k = some u → v = u) ∧ _) w'
        by_cases hkm : k = m
        · subst hkm
          have hLn : L n = false := by
            cases e : L n with
            | false => rfl
            | true => rw [toM hcl e] at hLk; cases hLk
          refine (t2 rfl (g1 hLk)).mono fun v w'' h => ⟨h.1, fun h' => ?_, fun _ _ => h.2, fun h' => ?_⟩
          · rw [upd_same] at h'; cases h'
          · rw [upd_ne _ _ (Ne.symm hne), hLn] at h'; cases h'
        · by_cases hkn : k = n
          · subst hkn
            have hLm : L m = true := by
              obtain ⟨e, e1, e2, e3⟩ := edge_on hmn hok
              have := (hd e e1 e2).1
              rwa [e3] at this
            refine (t3 rfl (g2 hLm hLk)).mono fun v w'' h => ⟨h.1, fun h' => ?_, fun _ h' => ?_, fun _ => h.2⟩
            · rw [upd_ne _ _ hne, hLm] at h'; cases h'
            · rw [upd_same] at h'; cases h'
          · have hK : K w' := by
              cases e : L m with
              | false => exact k0 (g1 e)
              | true =>
                cases e2 : L n with
                | false => exact k1 (g2 e e2)
                | true => exact k2 (g3 e2)
            refine (t1 hkm hkn hK).mono fun v w'' h => ⟨h.1, fun h' => ?_, fun h' h2 => ?_, fun h' => ?_⟩
            · rw [upd_ne _ _ (Ne.symm hkm)] at h'; exact st0 h.2 (g1 h')
            · rw [upd_ne _ _ (Ne.symm hkm)] at h'; rw [upd_ne _ _ (Ne.symm hkn)] at h2; exact st1 h.2 (g2 h' h2)
            · rw [upd_ne _ _ (Ne.symm hkn)] at h'; exact st2 h.2 (g3 h')
    exact this l 0 fun i o ho => by rw [Nat.zero_add]; exact ho
  · intro L x w' hall hG
    exact hend x w' (fun i hi v hv => (hall i hi).2 v hv) (hG.2.2 (hall n hno).1)
end Go.Proofs.YtddghaoejnbkaaaDoor
