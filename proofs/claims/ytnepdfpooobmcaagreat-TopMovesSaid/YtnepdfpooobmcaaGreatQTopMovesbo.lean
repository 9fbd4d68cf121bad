/- Contracts and lemmas for the proof of TopMoves; each theorem states its own conditions. -/
import Derived.Test.YtnepdfpooobmcaaGreatQTopMovesax
import Derived.Test.YtnepdfpooobmcaaGreatQTopMovesbn
set_option linter.unusedVariables false
set_option linter.unusedSimpArgs false
/- Contracts and lemmas for the proofs of this seat; each theorem states its own conditions. -/
namespace Go.Proofs.YtnepdfpooobmcaaGreat
open Go.RowKit
/-! a region that draws its order, in which one operation (m) turns what lies there: all others only read and make -/
def MStep (P : Program) (l : List Oper) (t0 : Array Value) (ds : List Deferred) (c : Nat → Option Value) (m : Nat) (K S0 S1 : World → Prop) (i : Nat) (o : Oper) : Prop :=
  ∀ (x : Nat → Value) (w : World), (∀ e ∈ o.after, Region.binds .any e = true → ∀ v, c e.on = some v → x e.on = v) →
    (i ≠ m → K w → TPost P l t0 ds x o (fun v w' => (∀ u, c i = some u → v = u) ∧ Ext w w') w) ∧
    (i = m → S0 w → TPost P l t0 ds x o (fun v w' => (∀ u, c i = some u → v = u) ∧ S1 w') w)
theorem wp_region_mid {P : Program} {l : List Oper} {id : Nat} {Q : Exit → Act → World → Prop} {t0 : Array Value} {ds : List Deferred} {w : World} (hm : P.follows .mixedOrders = true) (hB : regB l.toArray = true)
    (c : Nat → Option Value) (m : Nat) (hmo : decide (m < l.length) = true) (K S0 S1 : World → Prop)
    (st0 : ∀ {a b}, Ext a b → S0 a → S0 b) (st1 : ∀ {a b}, Ext a b → S1 a → S1 b) (k0 : ∀ {a}, S0 a → K a) (k1 : ∀ {a}, S1 a → K a)
    (h0 : S0 w.drew) (hs : AllFrom (MStep P l t0 ds c m K S0 S1) l 0)
    (hend : ∀ x w', (∀ i, i < l.length → ∀ v, c i = some v → x i = v) → S1 w' → Q .normal ⟨frL x l 0 t0, ds⟩ w') : (Code.region id l.toArray true).wp P Q ⟨t0, ds⟩ w := by
  have hmo : m < l.length := of_decide_eq_true hmo
  refine wp_region_lit_inv hm hB c (fun L _ w' => (L m = false → S0 w') ∧ (L m = true → S1 w')) ⟨fun _ => h0, fun h => (by cases h)⟩ ?_ ?_
  · have : ∀ (r : List Oper) (k : Nat), (∀ i o, r[i]? = some o → l[k + i]? = some o) → AllFrom (Step P l t0 ds c (fun L _ w' => (L m = false → S0 w') ∧ (L m = true → S1 w'))) r k := by
      intro r
      induction r with
      | nil => intro k _; exact trivial
      | cons o r ih =>
        intro k hk
        refine ⟨?_, ih (k + 1) fun i o' ho' => by
          have := hk (i + 1) o' (by simpa using ho')
          rwa [show k + (i + 1) = k + 1 + i from by omega] at this⟩
        intro L x w' hLk hcl hd hG
        have hok : l[k]? = some o := by simpa using hk 0 o rfl
        have ht := hs.get k o hok
        rw [Nat.zero_add] at ht
        obtain ⟨t1, t2⟩ := ht x w' fun e he hb v hv => (hd e he hb).2 v hv
        obtain ⟨g1, g2⟩ := hG
        show TPost P l t0 ds x o (fun v w'' => (∀ u, c k = some u → v = u) ∧ _) w'
        by_cases hkm : k = m
        · subst hkm
          refine (t2 rfl (g1 hLk)).mono fun v w'' h => ⟨h.1, fun h' => ?_, fun _ => h.2⟩
          rw [upd_same] at h'; cases h'
        · have hK : K w' := by
            cases e : L m with
            | false => exact k0 (g1 e)
            | true => exact k1 (g2 e)
          refine (t1 hkm hK).mono fun v w'' h => ⟨h.1, fun h' => ?_, fun h' => ?_⟩
          · rw [upd_ne _ _ (Ne.symm hkm)] at h'; exact st0 h.2 (g1 h')
          · rw [upd_ne _ _ (Ne.symm hkm)] at h'; exact st1 h.2 (g2 h')
    exact this l 0 fun i o ho => by rw [Nat.zero_add]; exact ho
  · intro L x w' hall hG
    exact hend x w' (fun i hi v hv => (hall i hi).2 v hv) (hG.2 (hall m hmo).1)
end Go.Proofs.YtnepdfpooobmcaaGreat

/- Contracts and lemmas for the proofs of this seat; each theorem states its own conditions. -/
namespace Go.Proofs.YtnepdfpooobmcaaGreat
open Go.RowKit
/-! copies: is, Done, All, Part -/
theorem cis_ok {w : World} {F : Nat → Prop} {b : Nat} {A : CopA} {cl : List (List Bat)} {op : List Bat} {K : List Cop} (h : CopG w F b A cl op K) (z : Int) :
    Calls Tryz.prog 59 #[.pointer (some ⟨b, 0, none⟩), .int .i64 z] w fun e w' => e = .returned (.bool (decide (0 ≤ z ∧ z < (K.length : Int)))) ∧ w' = w := by
  obtain ⟨g, c, e, _, _, _, _⟩ := h.lform
  obtain ⟨_, c1, _, _⟩ := h.cells
  rw [e] at c1
  clear h e
  by_cases h0 : z ≥ 0
  · by_cases h1 : z < (K.length : Int)
    · rw [show decide (0 ≤ z ∧ z < (K.length : Int)) = true by simp; omega]
      go_enter Tryz.func59, Tryz.ntmps59
      go_wp2
      go_ret
      exact ⟨rfl, rfl⟩
    · rw [show decide (0 ≤ z ∧ z < (K.length : Int)) = false by simp; omega]
      go_enter Tryz.func59, Tryz.ntmps59
      go_wp2
      go_ret
      exact ⟨rfl, rfl⟩
  · rw [show decide (0 ≤ z ∧ z < (K.length : Int)) = false by simp; omega]
    go_enter Tryz.func59, Tryz.ntmps59
    go_wp2
    go_ret
    exact ⟨rfl, rfl⟩
theorem cis_in {w : World} {F : Nat → Prop} {b : Nat} {A : CopA} {cl : List (List Bat)} {op : List Bat} {K : List Cop} (h : CopG w F b A cl op K) {i : Nat} (hi : i < K.length) :
    Calls Tryz.prog 59 #[.pointer (some ⟨b, 0, none⟩), .int .i64 i] w fun e w' => e = .returned (.bool true) ∧ w' = w := by
  have := cis_ok h (i : Int)
  rw [show decide (0 ≤ (i : Int) ∧ (i : Int) < (K.length : Int)) = true by simp; omega] at this
  exact this
theorem infoB : (Tryz.prog.info? 4).map (fun i => (i.zero, i.size, i.bytes)) = some (some (.bool false), 1, 1) := by kernel_rfl
theorem one_bools (l : List Bool) : ∀ u ∈ l.map Value.bool, u.oneCell' = true := by
  intro u hu
  obtain ⟨x, _, rfl⟩ := List.mem_map.1 hu
  rfl
theorem call_ok {w : World} {F : Nat → Prop} {b : Nat} {A : CopA} {cl : List (List Bat)} {op : List Bat} {K : List Cop} (h : CopG w F b A cl op K) {i : Nat} (hi : i < K.length) {N : Nat} (ok : CopOk N (K.getD i copZ)) (hl : (K.getD i copZ).S.length ≤ 440000) :
    Calls Tryz.prog 15 #[.pointer (some ⟨b, 0, none⟩), .int .i64 i] w fun e w' => ∃ v', e = .returned (.tuple #[v', .int .i64 0]) ∧ w'.ownsRow w.heap.size 60 2 v' (K.getD i copZ).S.length (cP (K.getD i copZ).S) ∧ Ext w w' := by
  have IS := hid (cis_in h hi)
  obtain ⟨_, c1, _, _⟩ := h.cells
  obtain ⟨g, c, e, _, _, _, _⟩ := h.lform
  have ci := (h.cellL e hi).1
  rw [e] at c1
  have AL := hid (pall_ok (h.parts i hi) ok.map ok.sto (by omega))
  have k4 := h.k4
  generalize (K.getD i copZ).S = S at AL hl ⊢
  clear h e
  go_enter Tryz.func15, Tryz.ntmps15
  go_wp2_with fail
  refine (IS.out).mono ?_
  clear IS
  rintro e w1 ⟨rfl, rfl⟩
  obtain ⟨w, rfl⟩ : ∃ wq : World, wq = w1 := ⟨_, rfl⟩
  go_wp2_with fail
  refine (AL.out).mono ?_
  clear AL
  rintro e w2 ⟨v', rfl, ho, E⟩
  obtain ⟨a9, c9, rfl⟩ := own_form ho
  have HO := hid ho
  clear ho
  go_wp2
  go_ret2
  exact ⟨_, rT2 rfl rfl, HO.out, E⟩
end Go.Proofs.YtnepdfpooobmcaaGreat
