/- Contracts and lemmas for the proof of TopLog; each theorem states its own conditions. -/
import Derived.Test.YtddghaoejnbkaaaGreatDoorQTopLogbp
import Derived.Test.YtddghaoejnbkaaaGreatDoorQTopLogbq
set_option linter.unusedVariables false
set_option linter.unusedSimpArgs false
/- Contracts and lemmas for the proofs of this seat; each theorem states its own conditions. -/
namespace Go.Proofs.YtddghaoejnbkaaaGreatDoor
open Go.RowKit
/-! copies: Step at any entry; Take -/
theorem okE_map {c : Cop} {x : Ent} (h : x.im = true) : okE c x = true := by unfold okE; rw [if_pos h]
theorem okE_deed {c : Cop} {x : Ent} (h : x.im = false) : okE c x = runB c.S x.ops := by unfold okE; rw [if_neg (by rw [h]; simp)]
theorem doE_map {c : Cop} {x : Ent} (h : x.im = true) : doE c x = ⟨x.cuts, x.own, c.S, c.dn + 1, c.ok ++ [true]⟩ := by unfold doE; rw [if_pos h]
theorem doE_deed {c : Cop} {x : Ent} (h : x.im = false) : doE c x = ⟨c.C, c.O, runS c.S x.ops, c.dn + 1, c.ok ++ [runB c.S x.ops]⟩ := by unfold doE; rw [if_neg (by rw [h]; simp)]
/-- what is known of the merge's log -/
structure LogK (cl : List (List Bat)) : Prop where
  sm : ∀ l ∈ cl, ∀ b ∈ l, ∀ x ∈ b, EntSm x
  len : (logM cl).length ≤ 100
  few : ∀ i, i < cl.length → (cl.getD i []).length ≤ 1000000
  ok : ∀ x ∈ logM cl, EntOk x
theorem cstep_ok0 {w : World} {F : Nat → Prop} {b : Nat} {A : CopA} {cl : List (List Bat)} {op : List Bat} {K : List Cop} (h : CopG0 w F b A cl op K) {i : Nat} (hi : i < K.length) {N : Nat} (ok : CopOk N (K.getD i copZ)) (hN : N ≤ 400000) (hL : LogK cl) {x : Ent} (hx : (logM cl)[(K.getD i copZ).dn]? = some x) :
    Calls Tryz.prog 17 #[.pointer (some ⟨b, 0, none⟩), .int .i64 i] w fun e w' => e = .returned (.tuple #[.bool (okE (K.getD i copZ) x), .int .i64 0]) ∧ ∃ F', CopE0 A w' F' b cl op (stepK K i x) ∧ Kp F w w' F' ∧ ∀ k, A.S k → F k → F' k := by
  have hxo := hL.ok x (List.mem_of_getElem? hx)
  unfold stepK
  cases him : x.im with
  | true =>
    rw [okE_map him, doE_map him]
    exact cstep_map h hi rfl ok hN hL.sm hL.len hL.few hx hxo him
  | false =>
    rw [okE_deed him, doE_deed him]
    exact cstep_deed h hi rfl ok hN hL.sm hL.len hL.few hx hxo him
theorem cstep_okE {w : World} {F : Nat → Prop} {b : Nat} {A : CopA} {cl : List (List Bat)} {op : List Bat} {K : List Cop} (h : CopG w F b A cl op K) {i : Nat} (hi : i < K.length) {N : Nat} (ok : CopOk N (K.getD i copZ)) (hN : N ≤ 400000) (hL : LogK cl) {x : Ent} (hx : (logM cl)[(K.getD i copZ).dn]? = some x) :
    Calls Tryz.prog 17 #[.pointer (some ⟨b, 0, none⟩), .int .i64 i] w fun e w' => e = .returned (.tuple #[.bool (okE (K.getD i copZ) x), .int .i64 0]) ∧ ∃ F', CopE A w' F' b cl op (stepK K i x) ∧ Kp F w w' F' := by
  refine (cstep_ok0 h.toCopG0 hi ok hN hL hx).mono ?_
  rintro e w' ⟨h1, F', ⟨A', g, z1, z2, z3, z4, _⟩, k, z⟩
  exact ⟨h1, F', ⟨A', ⟨g, fun q hq => by rw [z4] at hq; exact z q hq (h.fS q hq)⟩, z1, z2, z3⟩, k⟩
theorem cstep_ok {w : World} {F : Nat → Prop} {b : Nat} {cl : List (List Bat)} {op : List Bat} {K : List Cop} (h : CopSt w F b cl op K) {i : Nat} (hi : i < K.length) {N : Nat} (ok : CopOk N (K.getD i copZ)) (hN : N ≤ 400000) (hL : LogK cl) {x : Ent} (hx : (logM cl)[(K.getD i copZ).dn]? = some x) :
    Calls Tryz.prog 17 #[.pointer (some ⟨b, 0, none⟩), .int .i64 i] w fun e w' => e = .returned (.tuple #[.bool (okE (K.getD i copZ) x), .int .i64 0]) ∧ ∃ F', CopSt w' F' b cl op (stepK K i x) ∧ Kp F w w' F' := by
  obtain ⟨A, h⟩ := h
  refine (cstep_okE h hi ok hN hL hx).mono ?_
  rintro e w' ⟨h1, F', h2, h3⟩
  exact ⟨h1, F', h2.st, h3⟩
/-- parts that have been made -/
def MadeP (w0 : World) (C : List ByteArray) (O : List Int) (S : Prs) (v : Value) (w : World) : Prop := ∃ bt vc vs pv, v = .pointer (some ⟨bt, 0, none⟩) ∧ w0.heap.size ≤ bt ∧ (∀ k, vs.ownBlock = some k → w0.heap.size ≤ k) ∧ PartsSt w bt C O (parP C O S) vc vs pv
structure PairsX (l : Prs) (v : Value) (w : World) : Prop where
  seg : Seg w v 2 l.length (cP l)
structure MapX (C : List ByteArray) (O : List Int) (v : Value) (w : World) : Prop where
  is : IsMap w v C O
structure BoolsX (L : List Bool) (w0 : World) (v : Value) (w : World) : Prop where
  own : w.ownsRow w0.heap.size 4 1 v L.length (L.map Value.bool)
/-- the copies, one of them as another one is -/
def takeK (K : List Cop) (i j : Nat) : List Cop := K.set i (K.getD j copZ)
set_option maxRecDepth 100000 in
set_option maxHeartbeats 8000000 in
theorem ctake_wait {w : World} {F : Nat → Prop} {b : Nat} {A : CopA} {cl : List (List Bat)} {op : List Bat} {K : List Cop} (h : CopG w F b A cl op K) {i j : Nat} (hi : i < K.length) (hj : j < K.length) (hd : (K.getD j copZ).dn < (K.getD i copZ).dn) (hd2 : (K.getD i copZ).dn ≤ 1000000) :
    Calls Tryz.prog 20 #[.pointer (some ⟨b, 0, none⟩), .int .i64 i, .int .i64 j] w fun e w' => e = .returned (.int .i64 6) ∧ Ext w w' := by
  have I1 := hid (cis_in h hi)
  have I2 := hid (cis_in h hj)
  obtain ⟨_, _, c2, _⟩ := h.cells
  have di := (h.cellD hi).1
  have dj := (h.cellD hj).1
  have k4 := h.k4
  generalize (K.getD i copZ).dn = m at di hd hd2
  generalize (K.getD j copZ).dn = n at dj hd
  have q : ((n : Int) < (m : Int)) := by omega
  clear h
  go_enter Tryz.func20, Tryz.ntmps20
  go_wp2_with fail
  refine (I1.out).mono ?_
  rintro e w1 ⟨rfl, rfl⟩
  go_wp2_with fail
  refine (I2.out).mono ?_
  rintro e w2 ⟨rfl, rfl⟩
  obtain ⟨w, rfl⟩ : ∃ wq : World, wq = w2 := ⟨_, rfl⟩
  clear I1 I2
  go_wp2_with fail
  refine wp_region_ph [.k (.pointer (some ⟨b, 0, none⟩)), .k (.pointer (some ⟨b, 0, none⟩)), .k (.pointer (some ⟨b, 2, none⟩)), .k (.slice (some ⟨A.bd, 0, none⟩) K.length K.length), .k (.int .i64 j), .k (.pointer (some ⟨A.bd, j, none⟩)), .k (.int .i64 n), .k (.pointer (some ⟨b, 0, none⟩)), .k (.pointer (some ⟨b, 0, none⟩)), .k (.pointer (some ⟨b, 2, none⟩)), .k (.slice (some ⟨A.bd, 0, none⟩) K.length K.length), .k (.int .i64 i), .k (.pointer (some ⟨A.bd, i, none⟩)), .k (.int .i64 m), .k (.bool true)] [] (by kernel_rfl) (by kernel_rfl) (by kernel_rfl) rfl rfl ?hs ?hC ?he
  case hC =>
    intro i hi
    simp at hi
  case hs =>
    refine ⟨?_, ?_, ?_, ?_, ?_, ?_, ?_, ?_, ?_, ?_, ?_, ?_, ?_, ?_, ?_, trivial⟩
    all_goals (
      intro x w' hE hd
      try simp [PhDeps, at_k, at_p, at_t, at_any, Region.binds] at hd
      try ((with_reducible refine Exists.elim hd ?_); clear hd; intro y hd; obtain ⟨hd, hG⟩ := hd)
      have d1 := hE.cell c2
      have d3 := hE.cell di
      have d4 := hE.cell dj
      first | simp only [frL, List.length_cons, List.length_nil, List.take_succ_cons, List.take_zero, Nat.reduceAdd, Nat.zero_add, List.setIfInBounds_toArray, List.set_cons_zero, List.set_cons_succ, hd] | simp only [frL, List.length_cons, List.length_nil, List.take_succ_cons, List.take_zero, Nat.reduceAdd, Nat.zero_add, List.setIfInBounds_toArray, List.set_cons_zero, List.set_cons_succ]
      go_wp2
      all_goals first
        | ((with_reducible refine phK ?_ ?_); (focus rfl); (repeat (first | (with_reducible assumption) | (with_reducible exact Ext.refl _) | (with_reducible refine Ext.drew ?_) | (with_reducible refine Ext.drewN ?_ _) | (with_reducible refine Ext.alloc ?_ _) | (with_reducible refine Ext.trans ?_ (by with_reducible assumption)))))
        | ((with_reducible refine phT rfl hG ?_); (repeat (first | (with_reducible assumption) | (with_reducible exact Ext.refl _) | (with_reducible refine Ext.drew ?_) | (with_reducible refine Ext.drewN ?_ _) | (with_reducible refine Ext.alloc ?_ _) | (with_reducible refine Ext.trans ?_ (by with_reducible assumption)))))
        | ((with_reducible refine phU hG ?_); (repeat (first | (with_reducible assumption) | (with_reducible exact Ext.refl _) | (with_reducible refine Ext.drew ?_) | (with_reducible refine Ext.drewN ?_ _) | (with_reducible refine Ext.alloc ?_ _) | (with_reducible refine Ext.trans ?_ (by with_reducible assumption)))))
        | (with_reducible exact phBox hE)
        | (with_reducible exact phRow hE))
  case he =>
    intro x w4 E4 hd
    simp [PhEnd, at_k, at_p, at_t, at_any] at hd
    simp only [frL, List.length_cons, List.length_nil, List.take_succ_cons, List.take_zero, Nat.reduceAdd, Nat.zero_add, List.setIfInBounds_toArray, List.set_cons_zero, List.set_cons_succ, hd, List.length_cons, List.length_nil, List.drop_succ_cons, List.drop_zero]
    clear hd
    go_wp2
    go_ret
    exact ⟨rfl, E4⟩
set_option maxRecDepth 100000 in
set_option maxHeartbeats 16000000 in
theorem ctake_ok {w : World} {F : Nat → Prop} {b : Nat} {A : CopA} {cl : List (List Bat)} {op : List Bat} {K : List Cop} (h : CopG w F b A cl op K) {i j : Nat} (hi : i < K.length) (hj : j < K.length) {N : Nat} (ok : CopOk N (K.getD j copZ)) (hN : N ≤ 400000) (hd : (K.getD i copZ).dn ≤ (K.getD j copZ).dn) (hd2 : (K.getD j copZ).dn ≤ 100) :
    Calls Tryz.prog 20 #[.pointer (some ⟨b, 0, none⟩), .int .i64 i, .int .i64 j] w fun e w' => e = .returned (.int .i64 0) ∧ ∃ F', CopSt w' F' b cl op (takeK K i j) ∧ Kp F w w' F' := by
  have I1 := hid (cis_in h hi)
  have I2 := hid (cis_in h hj)
  obtain ⟨_, c1, c2, c3⟩ := h.cells
  have di := (h.cellD hi).1
  have dj := (h.cellD hj).1
  have k4 := h.k4
  obtain ⟨g, gc, hlv, hc1, hc2, hFg, cur, hgk⟩ := h.lform
  unfold maxLen at hc2
  have cg := (h.cellL hlv hj).1
  have H := hid h
  have HP := hid (h.parts j hj)
  have HLV := hid hlv
  have hSl := ok.len
  have hokl := ok.okl
  have HOK := hid ok
  unfold takeK
  have HCC := hid (rfl : K.getD j copZ = K.getD j copZ)
  have hlt := h.zb
  have hbt := fun q (hq : q < K.length) => (h.parts q hq).lt
  have HBT := hid hbt
  have HLT := hid hlt
  rw [hlv] at c1
  clear h ok hlv hlt hbt
  obtain ⟨cj, hcj⟩ : ∃ cj, K.getD j copZ = cj := ⟨_, rfl⟩
  rw [hcj] at dj HP hSl hokl HOK hd hd2 ⊢
  have HCJ := hid hcj
  clear hcj HCC
  obtain ⟨C, O, S, dn, oks⟩ := cj
  dsimp only at dj HP hSl hokl HOK hd hd2 ⊢
  have hok1 : oks.length ≤ 100 := by omega
  clear hokl
  obtain ⟨m, hm⟩ : ∃ m, (K.getD i copZ).dn = m := ⟨_, rfl⟩
  rw [hm] at di hd
  clear hm
  have q1 : ¬ (dn < m) := by omega
  have NP := hid (fun vm vl w' (h1 : IsMap w' vm C O) (h2 : Seg w' vl 2 S.length (cP S)) => pnew_ok' vm vl C O S w' h1 HOK.out.map HOK.out.sm h2 HOK.out.sto (by omega))
  have MP := hid (fun w' (q : Ext w w') => pmap_ok (HP.out.ext q) HOK.out.map)
  have AP := hid (fun w' (q : Ext w w') => pall_ok (HP.out.ext q) HOK.out.map HOK.out.sto (by omega))
  go_enter Tryz.func20, Tryz.ntmps20
  go_wp2_with fail
  refine (I1.out).mono ?_
  rintro e w1 ⟨rfl, rfl⟩
  go_wp2_with fail
  refine (I2.out).mono ?_
  rintro e w2 ⟨rfl, rfl⟩
  obtain ⟨w, rfl⟩ : ∃ wq : World, wq = w2 := ⟨_, rfl⟩
  clear I1 I2
  go_wp2_with fail
  refine wp_region_ph [.k (.pointer (some ⟨b, 0, none⟩)), .k (.pointer (some ⟨b, 0, none⟩)), .k (.pointer (some ⟨b, 2, none⟩)), .k (.slice (some ⟨A.bd, 0, none⟩) K.length K.length), .k (.int .i64 j), .k (.pointer (some ⟨A.bd, j, none⟩)), .k (.int .i64 dn), .k (.pointer (some ⟨b, 0, none⟩)), .k (.pointer (some ⟨b, 0, none⟩)), .k (.pointer (some ⟨b, 2, none⟩)), .k (.slice (some ⟨A.bd, 0, none⟩) K.length K.length), .k (.int .i64 i), .k (.pointer (some ⟨A.bd, i, none⟩)), .k (.int .i64 m), .k (.bool false)] [] (by kernel_rfl) (by kernel_rfl) (by kernel_rfl) rfl rfl ?hs ?hC ?he
  case hC =>
    intro i hi
    simp at hi
  case hs =>
    refine ⟨?_, ?_, ?_, ?_, ?_, ?_, ?_, ?_, ?_, ?_, ?_, ?_, ?_, ?_, ?_, trivial⟩
    all_goals (
      intro x w' hE hd
      try simp [PhDeps, at_k, at_p, at_t, at_any, Region.binds] at hd
      try ((with_reducible refine Exists.elim hd ?_); clear hd; intro y hd; obtain ⟨hd, hG⟩ := hd)
      have d1 := hE.cell c2
      have d3 := hE.cell di
      have d4 := hE.cell dj
      first | simp only [frL, List.length_cons, List.length_nil, List.take_succ_cons, List.take_zero, Nat.reduceAdd, Nat.zero_add, List.setIfInBounds_toArray, List.set_cons_zero, List.set_cons_succ, hd] | simp only [frL, List.length_cons, List.length_nil, List.take_succ_cons, List.take_zero, Nat.reduceAdd, Nat.zero_add, List.setIfInBounds_toArray, List.set_cons_zero, List.set_cons_succ]
      go_wp2
      all_goals first
        | ((with_reducible refine phK ?_ ?_); (focus rfl); (repeat (first | (with_reducible assumption) | (with_reducible exact Ext.refl _) | (with_reducible refine Ext.drew ?_) | (with_reducible refine Ext.drewN ?_ _) | (with_reducible refine Ext.alloc ?_ _) | (with_reducible refine Ext.trans ?_ (by with_reducible assumption)))))
        | ((with_reducible refine phT rfl hG ?_); (repeat (first | (with_reducible assumption) | (with_reducible exact Ext.refl _) | (with_reducible refine Ext.drew ?_) | (with_reducible refine Ext.drewN ?_ _) | (with_reducible refine Ext.alloc ?_ _) | (with_reducible refine Ext.trans ?_ (by with_reducible assumption)))))
        | ((with_reducible refine phU hG ?_); (repeat (first | (with_reducible assumption) | (with_reducible exact Ext.refl _) | (with_reducible refine Ext.drew ?_) | (with_reducible refine Ext.drewN ?_ _) | (with_reducible refine Ext.alloc ?_ _) | (with_reducible refine Ext.trans ?_ (by with_reducible assumption)))))
        | (with_reducible exact phBox hE)
        | (with_reducible exact phRow hE))
  case he =>
    intro x w4 E4 hd
    simp [PhEnd, at_k, at_p, at_t, at_any] at hd
    simp only [frL, List.length_cons, List.length_nil, List.take_succ_cons, List.take_zero, Nat.reduceAdd, Nat.zero_add, List.setIfInBounds_toArray, List.set_cons_zero, List.set_cons_succ, hd, List.length_cons, List.length_nil, List.drop_succ_cons, List.drop_zero]
    clear hd
    have b1 := E4.cell c1
    have bg := E4.cell cg
    have HE4 := hid E4
    go_wp2_with fail
    refine wp_region_ph [.k (.pointer (some ⟨b, 0, none⟩)), .k (.pointer (some ⟨b, 0, none⟩)), .k (.pointer (some ⟨b, 1, none⟩)), .k (.slice (some ⟨g, 0, none⟩) K.length gc), .k (.int .i64 j), .k (.pointer (some ⟨g, j, none⟩)), .k (.pointer (some ⟨A.bt j, 0, none⟩)), .p (MapX C O), .k (.pointer (some ⟨b, 0, none⟩)), .k (.pointer (some ⟨b, 0, none⟩)), .k (.pointer (some ⟨b, 1, none⟩)), .k (.slice (some ⟨g, 0, none⟩) K.length gc), .k (.int .i64 j), .k (.pointer (some ⟨g, j, none⟩)), .k (.pointer (some ⟨A.bt j, 0, none⟩)), .p (PairsX S), .t (.int .i64 0) (MadeP w4 C O S), .t (.int .i64 0) (MadeP w4 C O S), .p (MadeP w4 C O S), .k (.int .i64 0)] [19] (by kernel_rfl) (by kernel_rfl) (by kernel_rfl) rfl rfl ?hs ?hC ?he
    case hC =>
      intro i hi
      simp only [List.mem_cons, List.not_mem_nil, or_false] at hi
      subst hi
      all_goals (
        intro o u ho hu
        simp [RS.k, RS.p, RS.t, RS.any] at ho hu
        subst ho; subst hu
        refine ⟨rfl, fun x w2 hd w3 => ?_⟩
        simp [PhDeps, at_k, at_p, at_t, at_any, Region.binds] at hd
        try ((with_reducible refine Exists.elim hd ?_); clear hd; intro y hd; obtain ⟨hd, hG⟩ := hd)
        simp [frL, hd, List.take_succ_cons, execOp, Act.eval, Frame.eval, Instr.extract])
    case hs =>
      refine ⟨?_, ?_, ?_, ?_, ?_, ?_, ?_, ?_, ?_, ?_, ?_, ?_, ?_, ?_, ?_, ?_, ?_, ?_, ?_, ?_, trivial⟩
      all_goals (
        intro x w' hE hd
        try simp [PhDeps, at_k, at_p, at_t, at_any, Region.binds] at hd
        try ((with_reducible refine Exists.elim hd ?_); clear hd; intro y hd; obtain ⟨hd, hG⟩ := hd)
        have d1 := hE.cell b1
        have d3 := hE.cell bg
        try (obtain ⟨⟨um, gm1, gm2, hmx⟩, ⟨ul, gl1, gl2, hlx⟩⟩ := hd; have hm4 := hid (hmx.is.ext gm2); have hl4 := hid (hlx.seg.ext gl2); clear hmx hlx gm1 gm2 gl1 gl2)
        first | simp only [frL, List.length_cons, List.length_nil, List.take_succ_cons, List.take_zero, Nat.reduceAdd, Nat.zero_add, List.setIfInBounds_toArray, List.set_cons_zero, List.set_cons_succ, hd] | simp only [frL, List.length_cons, List.length_nil, List.take_succ_cons, List.take_zero, Nat.reduceAdd, Nat.zero_add, List.setIfInBounds_toArray, List.set_cons_zero, List.set_cons_succ]
        go_wp2_with (first | (go_at_call 80; (with_reducible refine (MP.out _ (HE4.out.trans hE)).mono ?_); rintro e wa ⟨y, rfl, hy, hea⟩) | (go_at_call 78; (with_reducible refine (AP.out _ (HE4.out.trans hE)).mono ?_); rintro e wa ⟨y, rfl, hy, hea⟩) | (go_at_call 59; (with_reducible refine (NP.out _ _ _ hm4.out hl4.out).mono ?_); rintro e wa ⟨bp, vc, vs, pv, rfl, p1, p2, p3, hea⟩))
        all_goals first
          | ((with_reducible refine phK ?_ ?_); (focus rfl); (repeat (first | (with_reducible assumption) | (with_reducible exact Ext.refl _) | (with_reducible refine Ext.drew ?_) | (with_reducible refine Ext.drewN ?_ _) | (with_reducible refine Ext.alloc ?_ _) | (with_reducible refine Ext.trans ?_ (by with_reducible assumption)))))
          | (exact phN (MapX.mk hy.is) hE hea)
          | (exact phN (PairsX.mk (own_seg hy)) hE hea)
          | (exact phTN rfl ⟨_, _, _, _, rfl, Nat.le_trans hE.size' p1, fun k hk => Nat.le_trans hE.size' (p2 k hk), p3⟩ hE hea)
          | ((with_reducible refine phT rfl hG ?_); (repeat (first | (with_reducible assumption) | (with_reducible exact Ext.refl _) | (with_reducible refine Ext.drew ?_) | (with_reducible refine Ext.drewN ?_ _) | (with_reducible refine Ext.alloc ?_ _) | (with_reducible refine Ext.trans ?_ (by with_reducible assumption)))))
          | ((with_reducible refine phU hG ?_); (repeat (first | (with_reducible assumption) | (with_reducible exact Ext.refl _) | (with_reducible refine Ext.drew ?_) | (with_reducible refine Ext.drewN ?_ _) | (with_reducible refine Ext.alloc ?_ _) | (with_reducible refine Ext.trans ?_ (by with_reducible assumption)))))
          | (with_reducible exact phBox hE)
          | (with_reducible exact phRow hE))
    case he =>
      intro x w5 E5 hd
      simp [PhEnd, at_k, at_p, at_t] at hd
      obtain ⟨e0, e1, e2, e3, e4, e5, e6, -, e8, e9, e10, e11, e12, e13, e14, -, ⟨y16, e16, -⟩, ⟨y17, e17, -⟩, ⟨u18, gg1, gg2, bp, vc, vs, pv, e18, p1, p2, p3⟩, e19⟩ := hd
      have HPN := hid (p3.ext gg2)
      have hw4 := HE4.out.size'
      have hbp : w.heap.size ≤ bp := by omega
      have HVS := hid (fun k q hz => by have h1 := p2 _ q; have := HLT.out k hz; omega : ∀ k, vs.ownBlock = some k → ¬ A.Z k)
      have HE5 := hid (HE4.out.trans E5)
      have f1 := E5.cell b1
      have f2 := HE5.out.cell c2
      have f3 := HE5.out.cell dj
      simp only [frL, List.length_cons, List.length_nil, List.take_succ_cons, List.take_zero, Nat.reduceAdd, Nat.zero_add, List.setIfInBounds_toArray, List.set_cons_zero, List.set_cons_succ, e0, e1, e2, e3, e4, e5, e6, e8, e9, e10, e11, e12, e13, e14, e16, e17, e18, e19, List.length_cons, List.length_nil, List.drop_succ_cons, List.drop_zero]
      clear e0 e1 e2 e3 e4 e5 e6 e8 e9 e10 e11 e12 e13 e14 e16 e17 e18 e19 gg1 gg2 p1 p2 p3 NP MP AP b1 bg hw4
      go_wp2_with fail
      refine wp_region_ph [.k (.pointer (some ⟨b, 0, none⟩)), .k (.pointer (some ⟨b, 0, none⟩)), .k (.pointer (some ⟨b, 1, none⟩)), .k (.slice (some ⟨g, 0, none⟩) K.length gc), .k (.int .i64 i), .k (.pointer (some ⟨b, 0, none⟩)), .k (.pointer (some ⟨b, 0, none⟩)), .k (.pointer (some ⟨b, 2, none⟩)), .k (.slice (some ⟨A.bd, 0, none⟩) K.length K.length), .k (.int .i64 i), .k (.pointer (some ⟨bp, 0, none⟩)), .k (.pointer (some ⟨b, 0, none⟩)), .k (.pointer (some ⟨b, 0, none⟩)), .k (.pointer (some ⟨b, 2, none⟩)), .k (.slice (some ⟨A.bd, 0, none⟩) K.length K.length), .k (.int .i64 j), .k (.pointer (some ⟨A.bd, j, none⟩)), .k (.int .i64 dn)] [9] (by kernel_rfl) (by kernel_rfl) (by kernel_rfl) rfl rfl ?hs ?hC ?he
      case hC =>
        intro i hi
        simp only [List.mem_cons, List.not_mem_nil, or_false] at hi
        subst hi
        all_goals (
          intro o u ho hu
          simp [RS.k, RS.p, RS.t, RS.any] at ho hu
          subst ho; subst hu
          refine ⟨rfl, fun x w2 hd w3 => ?_⟩
          simp [PhDeps, at_k, at_p, at_t, at_any, Region.binds] at hd
          try ((with_reducible refine Exists.elim hd ?_); clear hd; intro y hd; obtain ⟨hd, hG⟩ := hd)
          simp [frL, hd, List.take_succ_cons, execOp, Act.eval, Frame.eval, Instr.extract])
      case hs =>
        refine ⟨?_, ?_, ?_, ?_, ?_, ?_, ?_, ?_, ?_, ?_, ?_, ?_, ?_, ?_, ?_, ?_, ?_, ?_, trivial⟩
        all_goals (
          intro x w' hE hd
          try simp [PhDeps, at_k, at_p, at_t, at_any, Region.binds] at hd
          try ((with_reducible refine Exists.elim hd ?_); clear hd; intro y hd; obtain ⟨hd, hG⟩ := hd)
          have d1 := hE.cell f1
          have d3 := hE.cell f2
          have d4 := hE.cell f3
          first | simp only [frL, List.length_cons, List.length_nil, List.take_succ_cons, List.take_zero, Nat.reduceAdd, Nat.zero_add, List.setIfInBounds_toArray, List.set_cons_zero, List.set_cons_succ, hd] | simp only [frL, List.length_cons, List.length_nil, List.take_succ_cons, List.take_zero, Nat.reduceAdd, Nat.zero_add, List.setIfInBounds_toArray, List.set_cons_zero, List.set_cons_succ]
          go_wp2
          all_goals first
            | ((with_reducible refine phK ?_ ?_); (focus rfl); (repeat (first | (with_reducible assumption) | (with_reducible exact Ext.refl _) | (with_reducible refine Ext.drew ?_) | (with_reducible refine Ext.drewN ?_ _) | (with_reducible refine Ext.alloc ?_ _) | (with_reducible refine Ext.trans ?_ (by with_reducible assumption)))))
            | ((with_reducible refine phT rfl hG ?_); (repeat (first | (with_reducible assumption) | (with_reducible exact Ext.refl _) | (with_reducible refine Ext.drew ?_) | (with_reducible refine Ext.drewN ?_ _) | (with_reducible refine Ext.alloc ?_ _) | (with_reducible refine Ext.trans ?_ (by with_reducible assumption)))))
            | ((with_reducible refine phU hG ?_); (repeat (first | (with_reducible assumption) | (with_reducible exact Ext.refl _) | (with_reducible refine Ext.drew ?_) | (with_reducible refine Ext.drewN ?_ _) | (with_reducible refine Ext.alloc ?_ _) | (with_reducible refine Ext.trans ?_ (by with_reducible assumption)))))
            | (with_reducible exact phBox hE)
            | (with_reducible exact phRow hE))
      case he =>
        intro x w6 E6 hd
        simp [PhEnd, at_k, at_p, at_t, at_any] at hd
        simp only [frL, List.length_cons, List.length_nil, List.take_succ_cons, List.take_zero, Nat.reduceAdd, Nat.zero_add, List.setIfInBounds_toArray, List.set_cons_zero, List.set_cons_succ, hd, List.length_cons, List.length_nil, List.drop_succ_cons, List.drop_zero]
        clear hd
        have E06 := HE5.out.trans E6
        obtain ⟨G7, K7⟩ := (H.out.ext E06).put hi HLV.out (HPN.out.ext E6) HVS.out E06 hbp HBT.out
        obtain ⟨cg6, fg6⟩ := (H.out.ext E06).cellL HLV.out hi
        obtain ⟨A7, hA7, G7⟩ : ∃ A7, A7.bd = A.bd ∧ CopG (w6.setCell ⟨g, i, none⟩ (.pointer (some ⟨bp, 0, none⟩))) _ b A7 cl op _ := ⟨_, rfl, G7⟩
        have lK : ∀ k : Cop, (K.set i k).length = K.length := fun k => List.length_set
        obtain ⟨cd7, fd7⟩ := G7.cellD (i := i) (by rw [lK]; exact hi)
        rw [hA7] at cd7 fd7
        have HG7 := hid G7
        have HK7 := hid K7
        have HA7 := hid hA7
        have HE06 := hid E06
        clear G7 K7 E06 hA7 f1 f2 f3
        go_wp2_with fail
        obtain ⟨G8, K8⟩ := HG7.out.count (i := i) (by rw [lK]; exact hi) dn
        rw [set_at hi, if_pos rfl, set_set, HA7.out] at G8
        rw [HA7.out] at K8
        dsimp only at G8
        have K8 := HK7.out.trans K8
        obtain ⟨w8, hw8⟩ : ∃ w8, (w6.setCell ⟨g, i, none⟩ (.pointer (some ⟨bp, 0, none⟩))).setCell ⟨A.bd, i, none⟩ (.int .i64 (dn : Int)) = w8 := ⟨_, rfl⟩
        rw [hw8] at G8 K8
        have c83 := G8.cells.2.2.2
        rw [lK] at c83
        have hokj : ((K.set i ⟨C, O, S, dn, (K.getD i copZ).ok⟩).getD j copZ).ok = oks := by
          rw [set_at hi]
          by_cases e : j = i
          · rw [if_pos e]; subst e; rw [HCJ.out]
          · rw [if_neg e, HCJ.out]
        have hoj := G8.oks j (by rw [lK]; exact hj)
        have cj8 := (G8.cellO (i := j) (by rw [lK]; exact hj)).1
        rw [hokj] at hoj
        obtain ⟨aj, kj, ej⟩ := own_form hoj
        rw [ej] at cj8 hoj
        have hsj := own_seg hoj
        have HG8 := hid G8
        have HK8 := hid K8
        clear G8 K8 HG7 HK7 cd7 fd7 cg6 fg6 hokj hoj ej
        go_wp2_with fail
        rw [hw8]
        clear hw8
        refine wp_region_ph [.k (.pointer (some ⟨b, 0, none⟩)), .k (.pointer (some ⟨b, 0, none⟩)), .k (.pointer (some ⟨b, 3, none⟩)), .k (.slice (some ⟨A7.bo, 0, none⟩) K.length K.length), .k (.int .i64 i), .k (.pointer (some ⟨b, 0, none⟩)), .k (.pointer (some ⟨b, 0, none⟩)), .k (.pointer (some ⟨b, 3, none⟩)), .k (.slice (some ⟨A7.bo, 0, none⟩) K.length K.length), .k (.int .i64 j), .k (.pointer (some ⟨A7.bo, j, none⟩)), .k (.slice aj oks.length kj), .p (BoolsX oks w8), .k (.pointer (some ⟨A7.bo, i, none⟩))] [] (by kernel_rfl) (by kernel_rfl) (by kernel_rfl) rfl rfl ?hs ?hC ?he
        case hC =>
          intro i hi
          simp at hi
        case hs =>
          refine ⟨?_, ?_, ?_, ?_, ?_, ?_, ?_, ?_, ?_, ?_, ?_, ?_, ?_, ?_, trivial⟩
          all_goals (
            intro x w' hE hd
            try simp [PhDeps, at_k, at_p, at_t, at_any, Region.binds] at hd
            try ((with_reducible refine Exists.elim hd ?_); clear hd; intro y hd; obtain ⟨hd, hG⟩ := hd)
            have d1 := hE.cell c83
            have d3 := hE.cell cj8
            have d4 := hsj.ext hE
            first | simp only [frL, List.length_cons, List.length_nil, List.take_succ_cons, List.take_zero, Nat.reduceAdd, Nat.zero_add, List.setIfInBounds_toArray, List.set_cons_zero, List.set_cons_succ, hd] | simp only [frL, List.length_cons, List.length_nil, List.take_succ_cons, List.take_zero, Nat.reduceAdd, Nat.zero_add, List.setIfInBounds_toArray, List.set_cons_zero, List.set_cons_succ]
            go_wp2_with (first | (at_builtin; refine (wpList_app rfl _ _ 83 rfl w'.heap.size 4 (.bool false) 1 1 Tryz.underlying83 infoB rfl (by decide) _ 0 [] rfl (World.ownsRow_nil _ _ _ _) _ oks.length (oks.map Value.bool) rfl d4 (one_bools oks) (by omega) (by unfold maxLen; omega) (Nat.le_refl _) ?_); intro v' w9 ho' hg; rw [Nat.zero_add, List.nil_append] at ho'))
            all_goals first
              | ((with_reducible refine phK ?_ ?_); (focus rfl); (repeat (first | (with_reducible assumption) | (with_reducible exact Ext.refl _) | (with_reducible refine Ext.drew ?_) | (with_reducible refine Ext.drewN ?_ _) | (with_reducible refine Ext.alloc ?_ _) | (with_reducible refine Ext.trans ?_ (by with_reducible assumption)))))
              | (exact phN (BoolsX.mk (own_base ho' hE.size')) hE (ext_of_grown hg))
              | ((with_reducible refine phT rfl hG ?_); (repeat (first | (with_reducible assumption) | (with_reducible exact Ext.refl _) | (with_reducible refine Ext.drew ?_) | (with_reducible refine Ext.drewN ?_ _) | (with_reducible refine Ext.alloc ?_ _) | (with_reducible refine Ext.trans ?_ (by with_reducible assumption)))))
              | ((with_reducible refine phU hG ?_); (repeat (first | (with_reducible assumption) | (with_reducible exact Ext.refl _) | (with_reducible refine Ext.drew ?_) | (with_reducible refine Ext.drewN ?_ _) | (with_reducible refine Ext.alloc ?_ _) | (with_reducible refine Ext.trans ?_ (by with_reducible assumption)))))
              | (with_reducible exact phBox hE)
              | (with_reducible exact phRow hE))
        case he =>
          intro x9 w9 E9 hd
          simp [PhEnd, at_k, at_p, at_t] at hd
          obtain ⟨e0, e1, e2, e3, e4, e5, e6, e7, e8, e9, e10, e11, ⟨u12, gg1, gg2, hB⟩, e13⟩ := hd
          have hob := own_ext hB.own gg2
          obtain ⟨a12, k12, e12⟩ := own_form hob
          rw [e12] at hob
          obtain ⟨co9, fo9⟩ := (HG8.out.ext E9).cellO (i := i) (by rw [lK]; exact hi)
          obtain ⟨F', G9, K9⟩ := HG8.out.told (i := i) (by rw [lK]; exact hi) (v := .slice a12 oks.length k12) (ok := oks) (own_base hob (Nat.zero_le _)) (grown_ext E9 _) (fun k hk => .inr (own_ge hob k hk))
          rw [set_at hi, if_pos rfl, set_set] at G9
          dsimp only at G9
          have R9 := hid (show ∃ F', CopSt (w9.setCell ⟨A7.bo, i, none⟩ (.slice a12 oks.length k12)) F' b cl op (K.set i ⟨C, O, S, dn, oks⟩) ∧ Kp F w (w9.setCell ⟨A7.bo, i, none⟩ (.slice a12 oks.length k12)) F' from ⟨F', ⟨_, G9⟩, HK8.out.trans K9⟩)
          simp only [frL, List.length_cons, List.length_nil, List.take_succ_cons, List.take_zero, Nat.reduceAdd, Nat.zero_add, List.setIfInBounds_toArray, List.set_cons_zero, List.set_cons_succ, e0, e1, e2, e3, e4, e5, e6, e7, e8, e9, e10, e11, e12, e13, List.length_cons, List.length_nil, List.drop_succ_cons, List.drop_zero]
          clear e0 e1 e2 e3 e4 e5 e6 e7 e8 e9 e10 e11 e12 e13 gg1 gg2 hB hob G9 K9
          go_wp2
          go_ret
          exact ⟨rfl, R9.out⟩
end Go.Proofs.YtddghaoejnbkaaaGreatDoor
