/- Contracts and lemmas for the proof of TopLog; each theorem states its own conditions. -/
import Derived.Test.YtddghaoejnbkaaaGreatDoorQTopLogbo
import Derived.Test.YtddghaoejnbkaaaGreatDoorQTopLogba
set_option linter.unusedVariables false
set_option linter.unusedSimpArgs false
/- Contracts and lemmas for the proofs of this seat; each theorem states its own conditions. -/
namespace Go.Proofs.YtddghaoejnbkaaaGreatDoor
open Go.RowKit
/-! copies: Step -/
/-- the copies, an entry done by one of them -/
def stepK (K : List Cop) (i : Nat) (x : Ent) : List Cop := K.set i (doE (K.getD i copZ) x)
theorem set_set {K : List Cop} (i : Nat) (a b : Cop) : (K.set i a).set i b = K.set i b := by
  apply List.ext_getElem?
  intro j
  simp only [List.getElem?_set, List.length_set]
  split <;> simp_all
/-- the same copies, with what they keep off -/
def CopE (A : CopA) (w : World) (F : Nat → Prop) (b : Nat) (cl : List (List Bat)) (op : List Bat) (K : List Cop) : Prop := ∃ A' : CopA, CopG w F b A' cl op K ∧ A'.Z = A.Z ∧ A'.eB = A.eB ∧ A'.bd = A.bd
theorem CopE.st {A : CopA} {w : World} {F : Nat → Prop} {b : Nat} {cl : List (List Bat)} {op : List Bat} {K : List Cop} (h : CopE A w F b cl op K) : CopSt w F b cl op K := by
  obtain ⟨A', h, _⟩ := h
  exact ⟨A', h⟩
/-- the same, their merge where it was -/
def CopE0 (A : CopA) (w : World) (F : Nat → Prop) (b : Nat) (cl : List (List Bat)) (op : List Bat) (K : List Cop) : Prop := ∃ A' : CopA, CopG0 w F b A' cl op K ∧ A'.Z = A.Z ∧ A'.eB = A.eB ∧ A'.bd = A.bd ∧ A'.S = A.S ∧ A'.bm = A.bm
/-- parts of which one block has turned -/
def DidP (wA : World) (bt : Nat) (C : List ByteArray) (O : List Int) (P : Nat → Prs) (vc vs : Value) (w' : World) : Prop := ∃ wq w5 pv', Ext wA wq ∧ PartsSt w5 bt C O P vc vs pv' ∧ wq.grownBy w5 (some bt) ∧ Ext w5 w'
set_option maxRecDepth 100000 in
set_option maxHeartbeats 4000000 in
theorem cstep_wait {w : World} {F : Nat → Prop} {b : Nat} {A : CopA} {cl : List (List Bat)} {op : List Bat} {K : List Cop} (h : CopG w F b A cl op K) {i : Nat} (hi : i < K.length) (hsm : ∀ l ∈ cl, ∀ b ∈ l, ∀ x ∈ b, EntSm x) (hlen : (logM cl).length ≤ 100) (hcl : ∀ i, i < cl.length → (cl.getD i []).length ≤ 1000000) (hd : (K.getD i copZ).dn = (logM cl).length) :
    Calls Tryz.prog 17 #[.pointer (some ⟨b, 0, none⟩), .int .i64 i] w fun e w' => e = .returned (.tuple #[.bool false, .int .i64 6]) ∧ Ext w w' := by
  have IS := hid (cis_in h hi)
  obtain ⟨c0, _, c2, _⟩ := h.cells
  have k4 := h.k4
  have cd := (h.cellD hi).1
  rw [hd] at cd
  have ML := hid (mlog_ok h.mer hsm (by omega) hcl)
  generalize logM cl = L at cd ML hlen
  clear h hsm hcl hd
  go_enter Tryz.func17, Tryz.ntmps17
  go_wp2_with fail
  refine (IS.out).mono ?_
  clear IS
  rintro e w1 ⟨rfl, rfl⟩
  obtain ⟨w, rfl⟩ : ∃ wq : World, wq = w1 := ⟨_, rfl⟩
  go_wp2_with fail
  refine (ML.out).mono ?_
  clear ML
  rintro e w2 ⟨vL, rfl, hL⟩
  have E2 := hL.E
  obtain ⟨aL, kL, rfl⟩ := hL.form
  have d2 := E2.cell c2
  have dd := E2.cell cd
  clear hL
  go_wp2
  go_ret2
  exact ⟨rfl, E2⟩
-- PRINTED by gen_cs2.py
set_option maxRecDepth 100000 in
set_option maxHeartbeats 8000000 in
theorem cstep_map {w : World} {F : Nat → Prop} {b : Nat} {A : CopA} {cl : List (List Bat)} {op : List Bat} {K : List Cop} (h : CopG0 w F b A cl op K) {i : Nat} (hi : i < K.length) {c : Cop} (hc : K.getD i copZ = c) {N : Nat} (ok : CopOk N c) (hN : N ≤ 400000) (hsm : ∀ l ∈ cl, ∀ b ∈ l, ∀ xe ∈ b, EntSm xe) (hlen : (logM cl).length ≤ 100) (hcl : ∀ i, i < cl.length → (cl.getD i []).length ≤ 1000000) {xe : Ent} (hx : (logM cl)[c.dn]? = some xe) (hxo : EntOk xe) (him : xe.im = true) :
    Calls Tryz.prog 17 #[.pointer (some ⟨b, 0, none⟩), .int .i64 i] w fun e w' => e = .returned (.tuple #[.bool (true), .int .i64 0]) ∧ ∃ F', CopE0 A w' F' b cl op (K.set i ⟨xe.cuts, xe.own, c.S, c.dn + 1, c.ok ++ [true]⟩) ∧ Kp F w w' F' ∧ ∀ k, A.S k → F k → F' k := by
  have IS := hid (cis_in0 h hi)
  obtain ⟨c0, c1, c2, _⟩ := h.cells
  have k4 := h.k4
  have cd := (h.cellD hi).1
  obtain ⟨g, gc, hlv, hc1, hc2, hFg, cur, hgk⟩ := h.lform
  unfold maxLen at hc2
  have cg := (h.cellL hlv hi).1
  have ML := hid (mlog_ok h.mer hsm (by omega) hcl)
  have HP0 := hid (h.parts i hi)
  rw [hlv] at c1
  rw [hc] at cd HP0
  have hdn : c.dn < (logM cl).length := (List.getElem?_eq_some_iff.1 hx).1
  have hxe : (logM cl)[c.dn] = xe := (List.getElem?_eq_some_iff.1 hx).2
  generalize logM cl = L at ML hlen hdn hxe
  have H := hid h
  have HC := hid hc
  have HGK := hid hgk
  have HOK := hid ok
  have HXO := hid hxo
  have hSl := ok.len
  have hB0 := h.box
  have HB0 := hid hB0
  rw [hlv] at HB0
  have HLT := hid h.zb
  have hbi : A.bt i < w.heap.size := (h.parts i hi).lt
  clear h hsm hcl hc ok hxo hgk hx hlv hB0
  obtain ⟨C, O, S, dn, oks⟩ := c
  dsimp only at cd HP0 hdn hxe HOK hSl ⊢
  have hdn1 : dn ≤ 100 := by omega
  have hok1 : oks.length ≤ 100 := by have := HOK.out.okl; dsimp only at this; omega
  go_enter Tryz.func17, Tryz.ntmps17
  go_wp2_with fail
  refine (IS.out).mono ?_
  clear IS
  rintro e w1 ⟨rfl, rfl⟩
  obtain ⟨w, rfl⟩ : ∃ wq : World, wq = w1 := ⟨_, rfl⟩
  go_wp2_with fail
  refine (ML.out).mono ?_
  clear ML
  rintro e w2 ⟨vL, rfl, es, hes, hown, E2⟩
  obtain ⟨aL, kL, rfl⟩ := own_form hown
  obtain ⟨bL, oL, rfl, _, p1, p2, hcL⟩ := seg_cells (own_seg hown) (by omega)
  unfold maxLen at p2
  have hjf : dn < es.length := by have := hes.1; omega
  obtain ⟨x0, x1, x2, x3⟩ := cEn_at es hjf
  replace x0 := hcL _ _ x0
  replace x1 : w2.cell? ⟨bL, oL + dn * 4 + 1, none⟩ = _ := hcL _ _ x1
  replace x2 : w2.cell? ⟨bL, oL + dn * 4 + 2, none⟩ = _ := hcL _ _ x2
  replace x3 : w2.cell? ⟨bL, oL + dn * 4 + 3, none⟩ = _ := hcL _ _ x3
  have hE := hes.2 dn es[dn] L[dn] (List.getElem?_eq_getElem hjf) (List.getElem?_eq_getElem hdn)
  rw [hxe] at hE
  generalize es[dn] = ej at x0 x1 x2 x3 hE
  obtain ⟨v1, b1, v2, v3⟩ := ej
  have hbe : b1 = xe.im := hE.im
  rw [him] at hbe
  subst hbe
  dsimp only at x0 x1 x2 x3
  obtain ⟨f1, g1, e1⟩ := own_form hE.ops
  obtain ⟨f2, g2, e2⟩ := own_form hE.cuts
  obtain ⟨f3, g3, e3⟩ := own_form hE.own
  dsimp only at e1 e2 e3
  subst e1; subst e2; subst e3
  have HE := hid hE.seg
  have d2 := E2.cell c2
  have dd := E2.cell cd
  have qdn : ((dn : Int) == (L.length : Int)) = false := by simp; omega
  have EA := E2.alloc (.cells #[.slice f1 xe.ops.length g1, .bool true, .slice f2 xe.cuts.length g2, .slice f3 xe.own.length g3] 42)
  have bx := heap_alloc_new w2 (.cells #[.slice f1 xe.ops.length g1, .bool true, .slice f2 xe.cuts.length g2, .slice f3 xe.own.length g3] 42)
  obtain ⟨wA, hwA⟩ : ∃ wA, w2.alloc (.cells #[.slice f1 xe.ops.length g1, .bool true, .slice f2 xe.cuts.length g2, .slice f3 xe.own.length g3] 42) = wA := ⟨_, rfl⟩
  obtain ⟨bxx, hbxx⟩ : ∃ bxx, w2.heap.size = bxx := ⟨_, rfl⟩
  have HEA2 := hid ((Ext.refl w2).alloc (.cells #[.slice f1 xe.ops.length g1, .bool true, .slice f2 xe.cuts.length g2, .slice f3 xe.own.length g3] 42))
  rw [hwA] at EA bx HEA2
  rw [hbxx] at bx
  have hbxl : w.heap.size ≤ bxx := by have := E2.size'; omega
  have k0 := blk4 bx
  have HBX := hid bx
  have HEA := hid EA
  have HS2 := hid (HE.out.ext HEA2.out)
  have a1 := EA.cell c1
  have ag := EA.cell cg
  clear hcL hes hown hE HE HEA2 bx EA E2
  go_wp2_with fail
  clear hwA hbxx
  refine wp_region_ph [.k (.pointer (some ⟨b, 0, none⟩)), .k (.pointer (some ⟨b, 0, none⟩)), .k (.pointer (some ⟨b, 1, none⟩)), .k (.slice (some ⟨g, 0, none⟩) K.length gc), .k (.int .i64 i), .k (.pointer (some ⟨g, i, none⟩)), .k (.pointer (some ⟨A.bt i, 0, none⟩)), .k (.pointer (some ⟨bxx, 2, none⟩)), .k (.agg #[.slice f2 xe.cuts.length g2, .slice f3 xe.own.length g3])] [] (by kernel_rfl) (by kernel_rfl) (by kernel_rfl) rfl rfl ?hs ?hC ?he
  case hC =>
    intro i hi
    simp at hi
  case hs =>
    refine ⟨?_, ?_, ?_, ?_, ?_, ?_, ?_, ?_, ?_, trivial⟩
    all_goals (
      intro x w' hE hd
      try simp [PhDeps, at_k, at_p, at_t, at_any, Region.binds] at hd
      try ((with_reducible refine Exists.elim hd ?_); clear hd; intro y hd; obtain ⟨hd, hG⟩ := hd)
      have d1 := hE.cell a1
      have d3 := hE.cell ag
      have d4 := hE.cell k0.2.2.1
      have d5 := hE.cell k0.2.2.2
      first | simp only [frL, List.length_cons, List.length_nil, List.take_succ_cons, List.take_zero, Nat.reduceAdd, Nat.zero_add, List.setIfInBounds_toArray, List.set_cons_zero, List.set_cons_succ, hd] | simp only [frL, List.length_cons, List.length_nil, List.take_succ_cons, List.take_zero, Nat.reduceAdd, Nat.zero_add, List.setIfInBounds_toArray, List.set_cons_zero, List.set_cons_succ]
      go_wp2
      all_goals first
        | ((with_reducible refine phK ?_ ?_); (focus rfl); (repeat (first | (with_reducible assumption) | (with_reducible exact Ext.refl _) | (with_reducible refine Ext.drew ?_) | (with_reducible refine Ext.drewN ?_ _) | (with_reducible refine Ext.alloc ?_ _) | (with_reducible refine Ext.trans ?_ (by with_reducible assumption)))))
        | ((with_reducible refine phT rfl hG ?_); (repeat (first | (with_reducible assumption) | (with_reducible exact Ext.refl _) | (with_reducible refine Ext.drew ?_) | (with_reducible refine Ext.drewN ?_ _) | (with_reducible refine Ext.alloc ?_ _) | (with_reducible refine Ext.trans ?_ (by with_reducible assumption)))))
        | ((with_reducible refine phU hG ?_); (repeat (first | (with_reducible assumption) | (with_reducible exact Ext.refl _) | (with_reducible refine Ext.drew ?_) | (with_reducible refine Ext.drewN ?_ _) | (with_reducible refine Ext.alloc ?_ _) | (with_reducible refine Ext.trans ?_ (by with_reducible assumption)))))
        | (with_reducible exact phBox hE)
        | (with_reducible exact phRow hE))
  case he =>
    intro x wq Eq hd
    simp [PhEnd, at_k, at_p, at_t, at_any] at hd
    simp only [frL, List.length_cons, List.length_nil, List.take_succ_cons, List.take_zero, Nat.reduceAdd, Nat.zero_add, List.setIfInBounds_toArray, List.set_cons_zero, List.set_cons_succ, hd, List.length_cons, List.length_nil, List.drop_succ_cons, List.drop_zero]
    clear hd
    have EQ := HEA.out.trans Eq
    have mok : MapOk xe.cuts xe.own := by
      have := HXO.out.ok
      unfold entE at this
      rw [if_pos him] at this
      exact ok_of_mapErr this
    have TN := hid (pturn_ok' (HP0.out.ext EQ) HOK.out.map HOK.out.sto (by omega) _ xe.cuts xe.own ⟨_, _, rfl, HS2.out.cuts.ext Eq, HS2.out.own.ext Eq⟩ mok HXO.out.sz.cuts)
    have GQ := hid (H.out.ext EQ)
    have HQ := hid EQ
    clear EQ Eq d2 dd k0 a1 ag mok
    go_wp2_with fail
    refine (TN.out).mono ?_
    clear TN
    rintro e w3 ⟨rfl, ⟨vc', vs', pv', hP5, hno⟩, hg5⟩
    obtain ⟨G3, K3⟩ := GQ.out.turn hi hP5 (fun k e hz => by have := hno _ e; have := HLT.out k hz; have := HQ.out.size'; omega) hg5
    have K3 := Kp.after HQ.out K3
    rw [HC.out] at G3
    dsimp only at G3
    obtain ⟨A3, G3, hz3⟩ : ∃ A3 : CopA, CopG0 w3 F b A3 cl op (K.set i ⟨xe.cuts, xe.own, S, dn, oks⟩) ∧ A3.Z = A.Z ∧ A3.eB = A.eB ∧ A3.bd = A.bd ∧ A3.S = A.S ∧ A3.bm = A.bm := ⟨_, G3, rfl, rfl, rfl, rfl, rfl⟩
    have HZ3 := hid hz3
    clear hz3
    have HG3 := hid G3
    have HK3 := hid K3
    have lK : ∀ k : Cop, (K.set i k).length = K.length := fun k => List.length_set
    have cD := G3.cellD (i := i) (by rw [lK]; exact hi)
    have c23 := G3.cells.2.2.1
    rw [set_at hi, if_pos rfl] at cD
    rw [lK] at c23
    dsimp only at cD c23
    clear hP5 hno hg5 G3 K3 GQ
    have HCD := hid cD.2
    have fD := HCD.out
    go_wp2_with fail
    obtain ⟨G4, K4⟩ := HG3.out.count (i := i) (by rw [lK]; exact hi) (dn + 1)
    rw [set_at hi, if_pos rfl, set_set] at G4
    have ecast : ((dn + 1 : Nat) : Int) = (dn : Int) + 1 := by omega
    rw [ecast] at G4 K4
    dsimp only at G4 K4
    have K4 := HK3.out.trans K4
    obtain ⟨w4, hw4⟩ : ∃ w4, w3.setCell ⟨A3.bd, i, none⟩ (.int .i64 ((dn : Int) + 1)) = w4 := ⟨_, rfl⟩
    rw [hw4] at G4 K4
    have c43 := G4.cells.2.2.2
    rw [lK] at c43
    obtain ⟨cO, fO⟩ := G4.cellO (i := i) (by rw [lK]; exact hi)
    have hown := G4.oks i (by rw [lK]; exact hi)
    rw [set_at hi, if_pos rfl] at hown
    dsimp only at hown
    obtain ⟨ai, ki, hvo⟩ := own_form hown
    have nb4 := own_ne hown G4.box (by decide)
    have no4 := own_ne hown G4.orow (by decide)
    have HBX4 := hid G4.box
    have HRW4 := hid G4.orow
    have HG4 := hid G4
    have HK4 := hid K4
    have HVO := hid hvo
    rw [hvo] at cO hown nb4 no4
    rw [lK] at HBX4 HRW4
    clear G4 K4 hvo HG3 HK3 ecast cD c23 HCD fD
    go_wp2_with fail
    refine wp_region_pq (by kernel_rfl) (by kernel_rfl) (fun ii => match ii with | 0 => some (.pointer (some ⟨b, 0, none⟩)) | 1 => some (.pointer (some ⟨b, 0, none⟩)) | 2 => some (.pointer (some ⟨b, 3, none⟩)) | 3 => some (.slice (some ⟨A3.bo, 0, none⟩) K.length K.length) | 4 => some (.int .i64 i) | 5 => some (.pointer (some ⟨b, 0, none⟩)) | 6 => some (.pointer (some ⟨b, 0, none⟩)) | 7 => some (.pointer (some ⟨b, 3, none⟩)) | 8 => some (.slice (some ⟨A3.bo, 0, none⟩) K.length K.length) | 9 => some (.int .i64 i) | 10 => some (.pointer (some ⟨A3.bo, i, none⟩)) | 11 => some (.slice ai oks.length ki) | 15 => some (.pointer (some ⟨A3.bo, i, none⟩)) | _ => none) 12 13 14 16 (by decide) (by kernel_rfl) (by kernel_rfl) (by kernel_rfl) (by kernel_rfl) (by kernel_rfl) (fun w' => w'.cell? ⟨b, 3, none⟩ = some (.slice (some ⟨A3.bo, 0, none⟩) K.length K.length) ∧ w'.cell? ⟨A3.bo, i, none⟩ = some (.slice ai oks.length ki)) (fun w' => Ext w4 w') (fun v _ => v = .bool true) (fun _ v w' => NewC #[.bool true] 4 1 v w') (fun v w' => AppM w4 4 1 (oks.length + 1) (oks.map Value.bool ++ [.bool true]) (.slice ai oks.length ki) v w') (fun w' => StoM w4 4 1 (oks.length + 1) (oks.map Value.bool ++ [.bool true]) (.slice ai oks.length ki) A3.bo i w') ?st0 ?stp ?stq ?st1 ?k0 ?k1 ?h0 ?hs ?he
    case hs =>
      refine ⟨?s0, ?s1, ?s2, ?s3, ?s4, ?s5, ?s6, ?s7, ?s8, ?s9, ?s10, ?s11, ?sp, ?sq, ?sm, ?s15, ?sz, trivial⟩
      case s0 =>
        intro x w' hd
        try simp [Region.binds] at hd
        refine ⟨fun _ _ _ _ hK => ?_, fun h => absurd h (by decide), fun h => absurd h (by decide), fun h => absurd h (by decide), fun h => absurd h (by decide)⟩
        obtain ⟨d1, d2⟩ := hK
        unfold TPost
        first | simp only [frL, List.length_cons, List.length_nil, List.take_succ_cons, List.take_zero, Nat.reduceAdd, Nat.zero_add, List.setIfInBounds_toArray, List.set_cons_zero, List.set_cons_succ, hd] | simp only [frL, List.length_cons, List.length_nil, List.take_succ_cons, List.take_zero, Nat.reduceAdd, Nat.zero_add, List.setIfInBounds_toArray, List.set_cons_zero, List.set_cons_succ]
        go_wp2
        first | (with_reducible exact Ext.refl _) | exact ⟨rfl, _, rfl, (fun u hu => by simpa using hu), (by (repeat (first | (with_reducible assumption) | (with_reducible exact Ext.refl _) | (with_reducible refine Ext.drew ?_) | (with_reducible refine Ext.drewN ?_ _) | (with_reducible refine Ext.alloc ?_ _) | (with_reducible refine Ext.trans ?_ (by with_reducible assumption)))))⟩ | (with_reducible exact (by (repeat (first | (with_reducible assumption) | (with_reducible exact Ext.refl _) | (with_reducible refine Ext.drew ?_) | (with_reducible refine Ext.drewN ?_ _) | (with_reducible refine Ext.alloc ?_ _) | (with_reducible refine Ext.trans ?_ (by with_reducible assumption))))))
      case s1 =>
        intro x w' hd
        try simp [Region.binds] at hd
        refine ⟨fun _ _ _ _ hK => ?_, fun h => absurd h (by decide), fun h => absurd h (by decide), fun h => absurd h (by decide), fun h => absurd h (by decide)⟩
        obtain ⟨d1, d2⟩ := hK
        unfold TPost
        first | simp only [frL, List.length_cons, List.length_nil, List.take_succ_cons, List.take_zero, Nat.reduceAdd, Nat.zero_add, List.setIfInBounds_toArray, List.set_cons_zero, List.set_cons_succ, hd] | simp only [frL, List.length_cons, List.length_nil, List.take_succ_cons, List.take_zero, Nat.reduceAdd, Nat.zero_add, List.setIfInBounds_toArray, List.set_cons_zero, List.set_cons_succ]
        go_wp2
        first | (with_reducible exact Ext.refl _) | exact ⟨rfl, _, rfl, (fun u hu => by simpa using hu), (by (repeat (first | (with_reducible assumption) | (with_reducible exact Ext.refl _) | (with_reducible refine Ext.drew ?_) | (with_reducible refine Ext.drewN ?_ _) | (with_reducible refine Ext.alloc ?_ _) | (with_reducible refine Ext.trans ?_ (by with_reducible assumption)))))⟩ | (with_reducible exact (by (repeat (first | (with_reducible assumption) | (with_reducible exact Ext.refl _) | (with_reducible refine Ext.drew ?_) | (with_reducible refine Ext.drewN ?_ _) | (with_reducible refine Ext.alloc ?_ _) | (with_reducible refine Ext.trans ?_ (by with_reducible assumption))))))
      case s2 =>
        intro x w' hd
        try simp [Region.binds] at hd
        refine ⟨fun _ _ _ _ hK => ?_, fun h => absurd h (by decide), fun h => absurd h (by decide), fun h => absurd h (by decide), fun h => absurd h (by decide)⟩
        obtain ⟨d1, d2⟩ := hK
        unfold TPost
        first | simp only [frL, List.length_cons, List.length_nil, List.take_succ_cons, List.take_zero, Nat.reduceAdd, Nat.zero_add, List.setIfInBounds_toArray, List.set_cons_zero, List.set_cons_succ, hd] | simp only [frL, List.length_cons, List.length_nil, List.take_succ_cons, List.take_zero, Nat.reduceAdd, Nat.zero_add, List.setIfInBounds_toArray, List.set_cons_zero, List.set_cons_succ]
        go_wp2
        first | (with_reducible exact Ext.refl _) | exact ⟨rfl, _, rfl, (fun u hu => by simpa using hu), (by (repeat (first | (with_reducible assumption) | (with_reducible exact Ext.refl _) | (with_reducible refine Ext.drew ?_) | (with_reducible refine Ext.drewN ?_ _) | (with_reducible refine Ext.alloc ?_ _) | (with_reducible refine Ext.trans ?_ (by with_reducible assumption)))))⟩ | (with_reducible exact (by (repeat (first | (with_reducible assumption) | (with_reducible exact Ext.refl _) | (with_reducible refine Ext.drew ?_) | (with_reducible refine Ext.drewN ?_ _) | (with_reducible refine Ext.alloc ?_ _) | (with_reducible refine Ext.trans ?_ (by with_reducible assumption))))))
      case s3 =>
        intro x w' hd
        try simp [Region.binds] at hd
        refine ⟨fun _ _ _ _ hK => ?_, fun h => absurd h (by decide), fun h => absurd h (by decide), fun h => absurd h (by decide), fun h => absurd h (by decide)⟩
        obtain ⟨d1, d2⟩ := hK
        unfold TPost
        first | simp only [frL, List.length_cons, List.length_nil, List.take_succ_cons, List.take_zero, Nat.reduceAdd, Nat.zero_add, List.setIfInBounds_toArray, List.set_cons_zero, List.set_cons_succ, hd] | simp only [frL, List.length_cons, List.length_nil, List.take_succ_cons, List.take_zero, Nat.reduceAdd, Nat.zero_add, List.setIfInBounds_toArray, List.set_cons_zero, List.set_cons_succ]
        go_wp2
        first | (with_reducible exact Ext.refl _) | exact ⟨rfl, _, rfl, (fun u hu => by simpa using hu), (by (repeat (first | (with_reducible assumption) | (with_reducible exact Ext.refl _) | (with_reducible refine Ext.drew ?_) | (with_reducible refine Ext.drewN ?_ _) | (with_reducible refine Ext.alloc ?_ _) | (with_reducible refine Ext.trans ?_ (by with_reducible assumption)))))⟩ | (with_reducible exact (by (repeat (first | (with_reducible assumption) | (with_reducible exact Ext.refl _) | (with_reducible refine Ext.drew ?_) | (with_reducible refine Ext.drewN ?_ _) | (with_reducible refine Ext.alloc ?_ _) | (with_reducible refine Ext.trans ?_ (by with_reducible assumption))))))
      case s4 =>
        intro x w' hd
        try simp [Region.binds] at hd
        refine ⟨fun _ _ _ _ hK => ?_, fun h => absurd h (by decide), fun h => absurd h (by decide), fun h => absurd h (by decide), fun h => absurd h (by decide)⟩
        obtain ⟨d1, d2⟩ := hK
        unfold TPost
        first | simp only [frL, List.length_cons, List.length_nil, List.take_succ_cons, List.take_zero, Nat.reduceAdd, Nat.zero_add, List.setIfInBounds_toArray, List.set_cons_zero, List.set_cons_succ, hd] | simp only [frL, List.length_cons, List.length_nil, List.take_succ_cons, List.take_zero, Nat.reduceAdd, Nat.zero_add, List.setIfInBounds_toArray, List.set_cons_zero, List.set_cons_succ]
        go_wp2
        first | (with_reducible exact Ext.refl _) | exact ⟨rfl, _, rfl, (fun u hu => by simpa using hu), (by (repeat (first | (with_reducible assumption) | (with_reducible exact Ext.refl _) | (with_reducible refine Ext.drew ?_) | (with_reducible refine Ext.drewN ?_ _) | (with_reducible refine Ext.alloc ?_ _) | (with_reducible refine Ext.trans ?_ (by with_reducible assumption)))))⟩ | (with_reducible exact (by (repeat (first | (with_reducible assumption) | (with_reducible exact Ext.refl _) | (with_reducible refine Ext.drew ?_) | (with_reducible refine Ext.drewN ?_ _) | (with_reducible refine Ext.alloc ?_ _) | (with_reducible refine Ext.trans ?_ (by with_reducible assumption))))))
      case s5 =>
        intro x w' hd
        try simp [Region.binds] at hd
        refine ⟨fun _ _ _ _ hK => ?_, fun h => absurd h (by decide), fun h => absurd h (by decide), fun h => absurd h (by decide), fun h => absurd h (by decide)⟩
        obtain ⟨d1, d2⟩ := hK
        unfold TPost
        first | simp only [frL, List.length_cons, List.length_nil, List.take_succ_cons, List.take_zero, Nat.reduceAdd, Nat.zero_add, List.setIfInBounds_toArray, List.set_cons_zero, List.set_cons_succ, hd] | simp only [frL, List.length_cons, List.length_nil, List.take_succ_cons, List.take_zero, Nat.reduceAdd, Nat.zero_add, List.setIfInBounds_toArray, List.set_cons_zero, List.set_cons_succ]
        go_wp2
        first | (with_reducible exact Ext.refl _) | exact ⟨rfl, _, rfl, (fun u hu => by simpa using hu), (by (repeat (first | (with_reducible assumption) | (with_reducible exact Ext.refl _) | (with_reducible refine Ext.drew ?_) | (with_reducible refine Ext.drewN ?_ _) | (with_reducible refine Ext.alloc ?_ _) | (with_reducible refine Ext.trans ?_ (by with_reducible assumption)))))⟩ | (with_reducible exact (by (repeat (first | (with_reducible assumption) | (with_reducible exact Ext.refl _) | (with_reducible refine Ext.drew ?_) | (with_reducible refine Ext.drewN ?_ _) | (with_reducible refine Ext.alloc ?_ _) | (with_reducible refine Ext.trans ?_ (by with_reducible assumption))))))
      case s6 =>
        intro x w' hd
        try simp [Region.binds] at hd
        refine ⟨fun _ _ _ _ hK => ?_, fun h => absurd h (by decide), fun h => absurd h (by decide), fun h => absurd h (by decide), fun h => absurd h (by decide)⟩
        obtain ⟨d1, d2⟩ := hK
        unfold TPost
        first | simp only [frL, List.length_cons, List.length_nil, List.take_succ_cons, List.take_zero, Nat.reduceAdd, Nat.zero_add, List.setIfInBounds_toArray, List.set_cons_zero, List.set_cons_succ, hd] | simp only [frL, List.length_cons, List.length_nil, List.take_succ_cons, List.take_zero, Nat.reduceAdd, Nat.zero_add, List.setIfInBounds_toArray, List.set_cons_zero, List.set_cons_succ]
        go_wp2
        first | (with_reducible exact Ext.refl _) | exact ⟨rfl, _, rfl, (fun u hu => by simpa using hu), (by (repeat (first | (with_reducible assumption) | (with_reducible exact Ext.refl _) | (with_reducible refine Ext.drew ?_) | (with_reducible refine Ext.drewN ?_ _) | (with_reducible refine Ext.alloc ?_ _) | (with_reducible refine Ext.trans ?_ (by with_reducible assumption)))))⟩ | (with_reducible exact (by (repeat (first | (with_reducible assumption) | (with_reducible exact Ext.refl _) | (with_reducible refine Ext.drew ?_) | (with_reducible refine Ext.drewN ?_ _) | (with_reducible refine Ext.alloc ?_ _) | (with_reducible refine Ext.trans ?_ (by with_reducible assumption))))))
      case s7 =>
        intro x w' hd
        try simp [Region.binds] at hd
        refine ⟨fun _ _ _ _ hK => ?_, fun h => absurd h (by decide), fun h => absurd h (by decide), fun h => absurd h (by decide), fun h => absurd h (by decide)⟩
        obtain ⟨d1, d2⟩ := hK
        unfold TPost
        first | simp only [frL, List.length_cons, List.length_nil, List.take_succ_cons, List.take_zero, Nat.reduceAdd, Nat.zero_add, List.setIfInBounds_toArray, List.set_cons_zero, List.set_cons_succ, hd] | simp only [frL, List.length_cons, List.length_nil, List.take_succ_cons, List.take_zero, Nat.reduceAdd, Nat.zero_add, List.setIfInBounds_toArray, List.set_cons_zero, List.set_cons_succ]
        go_wp2
        first | (with_reducible exact Ext.refl _) | exact ⟨rfl, _, rfl, (fun u hu => by simpa using hu), (by (repeat (first | (with_reducible assumption) | (with_reducible exact Ext.refl _) | (with_reducible refine Ext.drew ?_) | (with_reducible refine Ext.drewN ?_ _) | (with_reducible refine Ext.alloc ?_ _) | (with_reducible refine Ext.trans ?_ (by with_reducible assumption)))))⟩ | (with_reducible exact (by (repeat (first | (with_reducible assumption) | (with_reducible exact Ext.refl _) | (with_reducible refine Ext.drew ?_) | (with_reducible refine Ext.drewN ?_ _) | (with_reducible refine Ext.alloc ?_ _) | (with_reducible refine Ext.trans ?_ (by with_reducible assumption))))))
      case s8 =>
        intro x w' hd
        try simp [Region.binds] at hd
        refine ⟨fun _ _ _ _ hK => ?_, fun h => absurd h (by decide), fun h => absurd h (by decide), fun h => absurd h (by decide), fun h => absurd h (by decide)⟩
        obtain ⟨d1, d2⟩ := hK
        unfold TPost
        first | simp only [frL, List.length_cons, List.length_nil, List.take_succ_cons, List.take_zero, Nat.reduceAdd, Nat.zero_add, List.setIfInBounds_toArray, List.set_cons_zero, List.set_cons_succ, hd] | simp only [frL, List.length_cons, List.length_nil, List.take_succ_cons, List.take_zero, Nat.reduceAdd, Nat.zero_add, List.setIfInBounds_toArray, List.set_cons_zero, List.set_cons_succ]
        go_wp2
        first | (with_reducible exact Ext.refl _) | exact ⟨rfl, _, rfl, (fun u hu => by simpa using hu), (by (repeat (first | (with_reducible assumption) | (with_reducible exact Ext.refl _) | (with_reducible refine Ext.drew ?_) | (with_reducible refine Ext.drewN ?_ _) | (with_reducible refine Ext.alloc ?_ _) | (with_reducible refine Ext.trans ?_ (by with_reducible assumption)))))⟩ | (with_reducible exact (by (repeat (first | (with_reducible assumption) | (with_reducible exact Ext.refl _) | (with_reducible refine Ext.drew ?_) | (with_reducible refine Ext.drewN ?_ _) | (with_reducible refine Ext.alloc ?_ _) | (with_reducible refine Ext.trans ?_ (by with_reducible assumption))))))
      case s9 =>
        intro x w' hd
        try simp [Region.binds] at hd
        refine ⟨fun _ _ _ _ hK => ?_, fun h => absurd h (by decide), fun h => absurd h (by decide), fun h => absurd h (by decide), fun h => absurd h (by decide)⟩
        obtain ⟨d1, d2⟩ := hK
        unfold TPost
        first | simp only [frL, List.length_cons, List.length_nil, List.take_succ_cons, List.take_zero, Nat.reduceAdd, Nat.zero_add, List.setIfInBounds_toArray, List.set_cons_zero, List.set_cons_succ, hd] | simp only [frL, List.length_cons, List.length_nil, List.take_succ_cons, List.take_zero, Nat.reduceAdd, Nat.zero_add, List.setIfInBounds_toArray, List.set_cons_zero, List.set_cons_succ]
        go_wp2
        first | (with_reducible exact Ext.refl _) | exact ⟨rfl, _, rfl, (fun u hu => by simpa using hu), (by (repeat (first | (with_reducible assumption) | (with_reducible exact Ext.refl _) | (with_reducible refine Ext.drew ?_) | (with_reducible refine Ext.drewN ?_ _) | (with_reducible refine Ext.alloc ?_ _) | (with_reducible refine Ext.trans ?_ (by with_reducible assumption)))))⟩ | (with_reducible exact (by (repeat (first | (with_reducible assumption) | (with_reducible exact Ext.refl _) | (with_reducible refine Ext.drew ?_) | (with_reducible refine Ext.drewN ?_ _) | (with_reducible refine Ext.alloc ?_ _) | (with_reducible refine Ext.trans ?_ (by with_reducible assumption))))))
      case s10 =>
        intro x w' hd
        try simp [Region.binds] at hd
        refine ⟨fun _ _ _ _ hK => ?_, fun h => absurd h (by decide), fun h => absurd h (by decide), fun h => absurd h (by decide), fun h => absurd h (by decide)⟩
        obtain ⟨d1, d2⟩ := hK
        unfold TPost
        first | simp only [frL, List.length_cons, List.length_nil, List.take_succ_cons, List.take_zero, Nat.reduceAdd, Nat.zero_add, List.setIfInBounds_toArray, List.set_cons_zero, List.set_cons_succ, hd] | simp only [frL, List.length_cons, List.length_nil, List.take_succ_cons, List.take_zero, Nat.reduceAdd, Nat.zero_add, List.setIfInBounds_toArray, List.set_cons_zero, List.set_cons_succ]
        go_wp2
        first | (with_reducible exact Ext.refl _) | exact ⟨rfl, _, rfl, (fun u hu => by simpa using hu), (by (repeat (first | (with_reducible assumption) | (with_reducible exact Ext.refl _) | (with_reducible refine Ext.drew ?_) | (with_reducible refine Ext.drewN ?_ _) | (with_reducible refine Ext.alloc ?_ _) | (with_reducible refine Ext.trans ?_ (by with_reducible assumption)))))⟩ | (with_reducible exact (by (repeat (first | (with_reducible assumption) | (with_reducible exact Ext.refl _) | (with_reducible refine Ext.drew ?_) | (with_reducible refine Ext.drewN ?_ _) | (with_reducible refine Ext.alloc ?_ _) | (with_reducible refine Ext.trans ?_ (by with_reducible assumption))))))
      case s11 =>
        intro x w' hd
        try simp [Region.binds] at hd
        refine ⟨fun _ _ _ _ hK => ?_, fun h => absurd h (by decide), fun h => absurd h (by decide), fun h => absurd h (by decide), fun h => absurd h (by decide)⟩
        obtain ⟨d1, d2⟩ := hK
        unfold TPost
        first | simp only [frL, List.length_cons, List.length_nil, List.take_succ_cons, List.take_zero, Nat.reduceAdd, Nat.zero_add, List.setIfInBounds_toArray, List.set_cons_zero, List.set_cons_succ, hd] | simp only [frL, List.length_cons, List.length_nil, List.take_succ_cons, List.take_zero, Nat.reduceAdd, Nat.zero_add, List.setIfInBounds_toArray, List.set_cons_zero, List.set_cons_succ]
        go_wp2
        first | (with_reducible exact Ext.refl _) | exact ⟨rfl, _, rfl, (fun u hu => by simpa using hu), (by (repeat (first | (with_reducible assumption) | (with_reducible exact Ext.refl _) | (with_reducible refine Ext.drew ?_) | (with_reducible refine Ext.drewN ?_ _) | (with_reducible refine Ext.alloc ?_ _) | (with_reducible refine Ext.trans ?_ (by with_reducible assumption)))))⟩ | (with_reducible exact (by (repeat (first | (with_reducible assumption) | (with_reducible exact Ext.refl _) | (with_reducible refine Ext.drew ?_) | (with_reducible refine Ext.drewN ?_ _) | (with_reducible refine Ext.alloc ?_ _) | (with_reducible refine Ext.trans ?_ (by with_reducible assumption))))))
      case s15 =>
        intro x w' hd
        try simp [Region.binds] at hd
        refine ⟨fun _ _ _ _ hK => ?_, fun h => absurd h (by decide), fun h => absurd h (by decide), fun h => absurd h (by decide), fun h => absurd h (by decide)⟩
        obtain ⟨d1, d2⟩ := hK
        unfold TPost
        first | simp only [frL, List.length_cons, List.length_nil, List.take_succ_cons, List.take_zero, Nat.reduceAdd, Nat.zero_add, List.setIfInBounds_toArray, List.set_cons_zero, List.set_cons_succ, hd] | simp only [frL, List.length_cons, List.length_nil, List.take_succ_cons, List.take_zero, Nat.reduceAdd, Nat.zero_add, List.setIfInBounds_toArray, List.set_cons_zero, List.set_cons_succ]
        go_wp2
        first | (with_reducible exact Ext.refl _) | exact ⟨rfl, _, rfl, (fun u hu => by simpa using hu), (by (repeat (first | (with_reducible assumption) | (with_reducible exact Ext.refl _) | (with_reducible refine Ext.drew ?_) | (with_reducible refine Ext.drewN ?_ _) | (with_reducible refine Ext.alloc ?_ _) | (with_reducible refine Ext.trans ?_ (by with_reducible assumption)))))⟩ | (with_reducible exact (by (repeat (first | (with_reducible assumption) | (with_reducible exact Ext.refl _) | (with_reducible refine Ext.drew ?_) | (with_reducible refine Ext.drewN ?_ _) | (with_reducible refine Ext.alloc ?_ _) | (with_reducible refine Ext.trans ?_ (by with_reducible assumption))))))
      case sp =>
        intro x' w' hd
        try simp [Region.binds] at hd
        refine ⟨fun h => absurd rfl h, fun _ hS => ?_, fun h => absurd h (by decide), fun h => absurd h (by decide), fun h => absurd h (by decide)⟩
        unfold TPost
        first | simp only [frL, List.length_cons, List.length_nil, List.take_succ_cons, List.take_zero, Nat.reduceAdd, Nat.zero_add, List.setIfInBounds_toArray, List.set_cons_zero, List.set_cons_succ, hd] | simp only [frL, List.length_cons, List.length_nil, List.take_succ_cons, List.take_zero, Nat.reduceAdd, Nat.zero_add, List.setIfInBounds_toArray, List.set_cons_zero, List.set_cons_succ]
        go_wp2
        exact Ext.refl _
      case sq =>
        intro x' w' hd
        try simp [Region.binds] at hd
        refine ⟨fun _ h => absurd rfl h, fun h => absurd h (by decide), fun _ hS hP => ?_, fun h => absurd h (by decide), fun h => absurd h (by decide)⟩
        unfold TPost
        first | simp only [frL, List.length_cons, List.length_nil, List.take_succ_cons, List.take_zero, Nat.reduceAdd, Nat.zero_add, List.setIfInBounds_toArray, List.set_cons_zero, List.set_cons_succ, hd, hP] | simp only [frL, List.length_cons, List.length_nil, List.take_succ_cons, List.take_zero, Nat.reduceAdd, Nat.zero_add, List.setIfInBounds_toArray, List.set_cons_zero, List.set_cons_succ, hP]
        go_wp2
        exact ⟨(Ext.refl _).alloc _, newC_alloc _ _ _ _⟩
      case sm =>
        intro x' w' hd
        try simp [Region.binds] at hd
        refine ⟨fun _ _ h => absurd rfl h, fun h => absurd h (by decide), fun h => absurd h (by decide), fun _ hS hQ => ?_, fun h => absurd h (by decide)⟩
        have hE : Ext w4 w' := hS
        obtain ⟨bq, hxq, hbk⟩ := hQ
        have ho := own_ext hown hE
        have hsg := seg_one hbk
        unfold TPost
        first | simp only [frL, List.length_cons, List.length_nil, List.take_succ_cons, List.take_zero, Nat.reduceAdd, Nat.zero_add, List.setIfInBounds_toArray, List.set_cons_zero, List.set_cons_succ, hd, hxq] | simp only [frL, List.length_cons, List.length_nil, List.take_succ_cons, List.take_zero, Nat.reduceAdd, Nat.zero_add, List.setIfInBounds_toArray, List.set_cons_zero, List.set_cons_succ, hxq]
        go_wp2_with (first | (at_builtin; refine (wpList_appR rfl _ _ 83 rfl 0 4 (.bool false) 1 1 Tryz.underlying83 infoB rfl (by decide) _ oks.length (oks.map Value.bool) rfl ho _ 1 [.bool true] rfl (by decide) hsg (one_bools [true]) (by omega) (by unfold maxLen; omega) (Nat.zero_le _) ?_); intro v' w9 ho' hg hb'))
        exact ⟨ho', ext_grown hE hg, fun k hk => (hb' k hk).imp id (fun h => by have := hE.size'; omega)⟩
      case sz =>
        intro x' w' hd
        try simp [Region.binds] at hd
        refine ⟨fun _ _ _ h => absurd rfl h, fun h => absurd h (by decide), fun h => absurd h (by decide), fun h => absurd h (by decide), fun _ hS => ?_⟩
        have hA := hid hS
        obtain ⟨ho', hg, hb'⟩ := hS
        have hb9 := grown_heap hg HRW4.out no4
        have f1 : w'.frozen? ⟨A3.bo, i, none⟩ = false := by simp [World.frozen?, hb9]
        have c1 := cells_of hb9 i _ (rowV_at A3.vo hi)
        obtain ⟨a9, c9, e9⟩ := own_form ho'
        rw [e9] at hA
        clear ho' hg hb' hb9
        unfold TPost
        first | simp only [frL, List.length_cons, List.length_nil, List.take_succ_cons, List.take_zero, Nat.reduceAdd, Nat.zero_add, List.setIfInBounds_toArray, List.set_cons_zero, List.set_cons_succ, hd, e9] | simp only [frL, List.length_cons, List.length_nil, List.take_succ_cons, List.take_zero, Nat.reduceAdd, Nat.zero_add, List.setIfInBounds_toArray, List.set_cons_zero, List.set_cons_succ, e9]
        go_wp2
        exact ⟨_, _, hA.out, Ext.refl _⟩
    case st0 => intro a b E h; exact Ext.trans h E
    case stp => intro v a b E h; exact h
    case stq => intro u v a b E h; exact NewC.ext h E
    case st1 => intro v a b E h; exact AppM.ext h E
    case k0 =>
      intro a hE
      exact ⟨Ext.cell hE c43, Ext.cell hE cO⟩
    case k1 =>
      intro v a hA
      refine ⟨by simp [World.cell?, grown_heap hA.grown HBX4.out nb4], ?_⟩
      have := cells_of (grown_heap hA.grown HRW4.out no4) i _ (rowV_at A3.vo hi)
      rw [HVO.out] at this
      exact this
    case h0 => first | exact (Ext.refl _).drew | (rw [hw4]; exact (Ext.refl _).drew)
    case he =>
      intro x' w6 hd hS
      obtain ⟨v, w1, hA, E6⟩ := hS
      simp only [frL, List.length_cons, List.length_nil, List.take_succ_cons, List.take_zero, Nat.reduceAdd, Nat.zero_add, List.setIfInBounds_toArray, List.set_cons_zero, List.set_cons_succ]
      clear hd
      obtain ⟨F', G6, K6, Z6⟩ := HG4.out.told (i := i) (by rw [lK]; exact hi) (v := v) (ok := oks ++ [true]) (by have := hA.own; simpa using this) (by rw [HVO.out]; exact hA.grown) (by rw [HVO.out]; exact hA.lies)
      rw [set_at hi, if_pos rfl, set_set] at G6
      dsimp only at G6
      have R6 := hid (show ∃ F', CopE0 A w6 F' b cl op (K.set i ⟨xe.cuts, xe.own, S, dn + 1, oks ++ [true]⟩) ∧ Kp F w w6 F' ∧ ∀ k, A.S k → F k → F' k from ⟨F', ⟨_, G6.ext E6, HZ3.out⟩, (HK4.out.trans K6).ext E6, fun k hk hf => Z6 k (by rw [HZ3.out.2.2.2.1]; exact hk) hf⟩)
      clear G6 K6 Z6 hA
      go_wp2
      go_ret2
      exact ⟨rT2 rfl rfl, R6.out⟩
set_option maxRecDepth 100000 in
set_option maxHeartbeats 8000000 in
theorem cstep_deed {w : World} {F : Nat → Prop} {b : Nat} {A : CopA} {cl : List (List Bat)} {op : List Bat} {K : List Cop} (h : CopG0 w F b A cl op K) {i : Nat} (hi : i < K.length) {c : Cop} (hc : K.getD i copZ = c) {N : Nat} (ok : CopOk N c) (hN : N ≤ 400000) (hsm : ∀ l ∈ cl, ∀ b ∈ l, ∀ xe ∈ b, EntSm xe) (hlen : (logM cl).length ≤ 100) (hcl : ∀ i, i < cl.length → (cl.getD i []).length ≤ 1000000) {xe : Ent} (hx : (logM cl)[c.dn]? = some xe) (hxo : EntOk xe) (him : xe.im = false) :
    Calls Tryz.prog 17 #[.pointer (some ⟨b, 0, none⟩), .int .i64 i] w fun e w' => e = .returned (.tuple #[.bool (runB c.S xe.ops), .int .i64 0]) ∧ ∃ F', CopE0 A w' F' b cl op (K.set i ⟨c.C, c.O, runS c.S xe.ops, c.dn + 1, c.ok ++ [runB c.S xe.ops]⟩) ∧ Kp F w w' F' ∧ ∀ k, A.S k → F k → F' k := by
  have IS := hid (cis_in0 h hi)
  obtain ⟨c0, c1, c2, _⟩ := h.cells
  have k4 := h.k4
  have cd := (h.cellD hi).1
  obtain ⟨g, gc, hlv, hc1, hc2, hFg, cur, hgk⟩ := h.lform
  unfold maxLen at hc2
  have cg := (h.cellL hlv hi).1
  have ML := hid (mlog_ok h.mer hsm (by omega) hcl)
  have HP0 := hid (h.parts i hi)
  rw [hlv] at c1
  rw [hc] at cd HP0
  have hdn : c.dn < (logM cl).length := (List.getElem?_eq_some_iff.1 hx).1
  have hxe : (logM cl)[c.dn] = xe := (List.getElem?_eq_some_iff.1 hx).2
  generalize logM cl = L at ML hlen hdn hxe
  have H := hid h
  have HC := hid hc
  have HGK := hid hgk
  have HOK := hid ok
  have HXO := hid hxo
  have hSl := ok.len
  have hB0 := h.box
  have HB0 := hid hB0
  rw [hlv] at HB0
  have HLT := hid h.zb
  have hbi : A.bt i < w.heap.size := (h.parts i hi).lt
  clear h hsm hcl hc ok hxo hgk hx hlv hB0
  obtain ⟨C, O, S, dn, oks⟩ := c
  dsimp only at cd HP0 hdn hxe HOK hSl ⊢
  have hdn1 : dn ≤ 100 := by omega
  have hok1 : oks.length ≤ 100 := by have := HOK.out.okl; dsimp only at this; omega
  obtain ⟨r, hr⟩ : ∃ r, runB S xe.ops = r := ⟨_, rfl⟩
  rw [hr]
  have HR := hid hr
  clear hr
  go_enter Tryz.func17, Tryz.ntmps17
  go_wp2_with fail
  refine (IS.out).mono ?_
  clear IS
  rintro e w1 ⟨rfl, rfl⟩
  obtain ⟨w, rfl⟩ : ∃ wq : World, wq = w1 := ⟨_, rfl⟩
  go_wp2_with fail
  refine (ML.out).mono ?_
  clear ML
  rintro e w2 ⟨vL, rfl, es, hes, hown, E2⟩
  obtain ⟨aL, kL, rfl⟩ := own_form hown
  obtain ⟨bL, oL, rfl, _, p1, p2, hcL⟩ := seg_cells (own_seg hown) (by omega)
  unfold maxLen at p2
  have hjf : dn < es.length := by have := hes.1; omega
  obtain ⟨x0, x1, x2, x3⟩ := cEn_at es hjf
  replace x0 := hcL _ _ x0
  replace x1 : w2.cell? ⟨bL, oL + dn * 4 + 1, none⟩ = _ := hcL _ _ x1
  replace x2 : w2.cell? ⟨bL, oL + dn * 4 + 2, none⟩ = _ := hcL _ _ x2
  replace x3 : w2.cell? ⟨bL, oL + dn * 4 + 3, none⟩ = _ := hcL _ _ x3
  have hE := hes.2 dn es[dn] L[dn] (List.getElem?_eq_getElem hjf) (List.getElem?_eq_getElem hdn)
  rw [hxe] at hE
  generalize es[dn] = ej at x0 x1 x2 x3 hE
  obtain ⟨v1, b1, v2, v3⟩ := ej
  have hbe : b1 = xe.im := hE.im
  rw [him] at hbe
  subst hbe
  dsimp only at x0 x1 x2 x3
  obtain ⟨f1, g1, e1⟩ := own_form hE.ops
  obtain ⟨f2, g2, e2⟩ := own_form hE.cuts
  obtain ⟨f3, g3, e3⟩ := own_form hE.own
  dsimp only at e1 e2 e3
  subst e1; subst e2; subst e3
  have HE := hid hE.seg
  have d2 := E2.cell c2
  have dd := E2.cell cd
  have qdn : ((dn : Int) == (L.length : Int)) = false := by simp; omega
  have EA := E2.alloc (.cells #[.slice f1 xe.ops.length g1, .bool false, .slice f2 xe.cuts.length g2, .slice f3 xe.own.length g3] 42)
  have bx := heap_alloc_new w2 (.cells #[.slice f1 xe.ops.length g1, .bool false, .slice f2 xe.cuts.length g2, .slice f3 xe.own.length g3] 42)
  obtain ⟨wA, hwA⟩ : ∃ wA, w2.alloc (.cells #[.slice f1 xe.ops.length g1, .bool false, .slice f2 xe.cuts.length g2, .slice f3 xe.own.length g3] 42) = wA := ⟨_, rfl⟩
  obtain ⟨bxx, hbxx⟩ : ∃ bxx, w2.heap.size = bxx := ⟨_, rfl⟩
  have HEA2 := hid ((Ext.refl w2).alloc (.cells #[.slice f1 xe.ops.length g1, .bool false, .slice f2 xe.cuts.length g2, .slice f3 xe.own.length g3] 42))
  rw [hwA] at EA bx HEA2
  rw [hbxx] at bx
  have hbxl : w.heap.size ≤ bxx := by have := E2.size'; omega
  have k0 := blk4 bx
  have HBX := hid bx
  have HEA := hid EA
  have HS2 := hid (HE.out.ext HEA2.out)
  have a1 := EA.cell c1
  have ag := EA.cell cg
  clear hcL hes hown hE HE HEA2 bx EA E2
  have dok : DeedOk xe.ops := by
    have := HXO.out.ok
    unfold entE at this
    rw [if_neg (by rw [him]; simp)] at this
    exact deed_ok this
  have DO := hid (fun w' (q : Ext wA w') => pdo_ok (HP0.out.ext (HEA.out.trans q)) HOK.out.map HOK.out.sto (by omega) _ xe.ops (HS2.out.ops.ext q) dok (fun o ho => (HXO.out.sz.ops o ho).2))
  rw [HR.out] at DO
  have hbA := HEA.out.heap HB0.out
  have hgA := HEA.out.heap HGK.out
  have hPA := HP0.out.ext HEA.out
  have nb : (some (A.bt i) : Option Nat) ≠ some b := far_ne hPA.box hbA (by decide)
  have ng : (some (A.bt i) : Option Nat) ≠ some g := far_ne hPA.box hgA (by decide)
  have nx : (some (A.bt i) : Option Nat) ≠ some bxx := far_ne hPA.box HBX.out (by decide)
  have hgi : cur.toList[i]? = some (.pointer (some ⟨A.bt i, 0, none⟩)) := by
    have := ag
    simp only [World.cell?, hgA] at this
    simpa using this
  have HKB := hid (fun (w' : World) (q : w'.heap[b]? = some (.cells #[.pointer (some ⟨A.bm, 0, none⟩), .slice (some ⟨g, 0, none⟩) K.length gc, .slice (some ⟨A.bd, 0, none⟩) K.length K.length, .slice (some ⟨A.bo, 0, none⟩) K.length K.length] 50 (0, 0))) => (by simp [World.cell?, q] : w'.cell? ⟨b, 1, none⟩ = some (.slice (some ⟨g, 0, none⟩) K.length gc)))
  have HKG := hid (fun (w' : World) (q : w'.heap[g]? = some (.cells cur 105 (0, 0))) => (by simp only [World.cell?, q]; simpa using hgi : w'.cell? ⟨g, i, none⟩ = some (.pointer (some ⟨A.bt i, 0, none⟩))))
  have HBA := hid hbA
  have HGA := hid hgA
  clear hbA hgA hPA hgi
  go_wp2_with fail
  clear hwA hbxx
  refine wp_region_mid (by kernel_rfl) (by kernel_rfl) (fun ii => match ii with | 0 => some (.pointer (some ⟨b, 0, none⟩)) | 1 => some (.pointer (some ⟨b, 0, none⟩)) | 2 => some (.pointer (some ⟨b, 1, none⟩)) | 3 => some (.slice (some ⟨g, 0, none⟩) K.length gc) | 4 => some (.int .i64 i) | 5 => some (.pointer (some ⟨g, i, none⟩)) | 6 => some (.pointer (some ⟨A.bt i, 0, none⟩)) | 7 => some (.pointer (some ⟨bxx, 0, none⟩)) | 8 => some (.agg #[.slice f1 xe.ops.length g1]) | 9 => some (.tuple #[.bool r, .int .i64 0]) | 10 => some (.tuple #[.bool r, .int .i64 0]) | 11 => some (.bool r) | 12 => some (.int .i64 0) | 13 => some (.bool r) | _ => none) 9 (by kernel_rfl) (fun w' => w'.cell? ⟨b, 1, none⟩ = some (.slice (some ⟨g, 0, none⟩) K.length gc) ∧ w'.cell? ⟨g, i, none⟩ = some (.pointer (some ⟨A.bt i, 0, none⟩)) ∧ w'.cell? ⟨bxx, 0, none⟩ = some (.slice f1 xe.ops.length g1)) (fun w' => Ext wA w') (fun w' => DidP wA (A.bt i) C O (parP C O (runS S xe.ops)) (A.vc i) (A.vs i) w') ?st0 ?st1 ?k0 ?k1 ?h0 ?hs ?he
  case hs =>
    refine ⟨?s0, ?s1, ?s2, ?s3, ?s4, ?s5, ?s6, ?s7, ?s8, ?sm, ?s10, ?s11, ?s12, ?s13, trivial⟩
    case s0 =>
      intro x w' hd
      try simp [Region.binds] at hd
      refine ⟨fun _ hK => ?_, fun h => absurd h (by decide)⟩
      obtain ⟨d1, d2, d3⟩ := hK
      unfold TPost
      first | simp only [frL, List.length_cons, List.length_nil, List.take_succ_cons, List.take_zero, Nat.reduceAdd, Nat.zero_add, List.setIfInBounds_toArray, List.set_cons_zero, List.set_cons_succ, hd] | simp only [frL, List.length_cons, List.length_nil, List.take_succ_cons, List.take_zero, Nat.reduceAdd, Nat.zero_add, List.setIfInBounds_toArray, List.set_cons_zero, List.set_cons_succ]
      go_wp2
      first | (with_reducible exact Ext.refl _) | exact ⟨rfl, _, rfl, (fun u hu => by simpa using hu), (by (repeat (first | (with_reducible assumption) | (with_reducible exact Ext.refl _) | (with_reducible refine Ext.drew ?_) | (with_reducible refine Ext.drewN ?_ _) | (with_reducible refine Ext.alloc ?_ _) | (with_reducible refine Ext.trans ?_ (by with_reducible assumption)))))⟩ | (with_reducible exact (by (repeat (first | (with_reducible assumption) | (with_reducible exact Ext.refl _) | (with_reducible refine Ext.drew ?_) | (with_reducible refine Ext.drewN ?_ _) | (with_reducible refine Ext.alloc ?_ _) | (with_reducible refine Ext.trans ?_ (by with_reducible assumption))))))
    case s1 =>
      intro x w' hd
      try simp [Region.binds] at hd
      refine ⟨fun _ hK => ?_, fun h => absurd h (by decide)⟩
      obtain ⟨d1, d2, d3⟩ := hK
      unfold TPost
      first | simp only [frL, List.length_cons, List.length_nil, List.take_succ_cons, List.take_zero, Nat.reduceAdd, Nat.zero_add, List.setIfInBounds_toArray, List.set_cons_zero, List.set_cons_succ, hd] | simp only [frL, List.length_cons, List.length_nil, List.take_succ_cons, List.take_zero, Nat.reduceAdd, Nat.zero_add, List.setIfInBounds_toArray, List.set_cons_zero, List.set_cons_succ]
      go_wp2
      first | (with_reducible exact Ext.refl _) | exact ⟨rfl, _, rfl, (fun u hu => by simpa using hu), (by (repeat (first | (with_reducible assumption) | (with_reducible exact Ext.refl _) | (with_reducible refine Ext.drew ?_) | (with_reducible refine Ext.drewN ?_ _) | (with_reducible refine Ext.alloc ?_ _) | (with_reducible refine Ext.trans ?_ (by with_reducible assumption)))))⟩ | (with_reducible exact (by (repeat (first | (with_reducible assumption) | (with_reducible exact Ext.refl _) | (with_reducible refine Ext.drew ?_) | (with_reducible refine Ext.drewN ?_ _) | (with_reducible refine Ext.alloc ?_ _) | (with_reducible refine Ext.trans ?_ (by with_reducible assumption))))))
    case s2 =>
      intro x w' hd
      try simp [Region.binds] at hd
      refine ⟨fun _ hK => ?_, fun h => absurd h (by decide)⟩
      obtain ⟨d1, d2, d3⟩ := hK
      unfold TPost
      first | simp only [frL, List.length_cons, List.length_nil, List.take_succ_cons, List.take_zero, Nat.reduceAdd, Nat.zero_add, List.setIfInBounds_toArray, List.set_cons_zero, List.set_cons_succ, hd] | simp only [frL, List.length_cons, List.length_nil, List.take_succ_cons, List.take_zero, Nat.reduceAdd, Nat.zero_add, List.setIfInBounds_toArray, List.set_cons_zero, List.set_cons_succ]
      go_wp2
      first | (with_reducible exact Ext.refl _) | exact ⟨rfl, _, rfl, (fun u hu => by simpa using hu), (by (repeat (first | (with_reducible assumption) | (with_reducible exact Ext.refl _) | (with_reducible refine Ext.drew ?_) | (with_reducible refine Ext.drewN ?_ _) | (with_reducible refine Ext.alloc ?_ _) | (with_reducible refine Ext.trans ?_ (by with_reducible assumption)))))⟩ | (with_reducible exact (by (repeat (first | (with_reducible assumption) | (with_reducible exact Ext.refl _) | (with_reducible refine Ext.drew ?_) | (with_reducible refine Ext.drewN ?_ _) | (with_reducible refine Ext.alloc ?_ _) | (with_reducible refine Ext.trans ?_ (by with_reducible assumption))))))
    case s3 =>
      intro x w' hd
      try simp [Region.binds] at hd
      refine ⟨fun _ hK => ?_, fun h => absurd h (by decide)⟩
      obtain ⟨d1, d2, d3⟩ := hK
      unfold TPost
      first | simp only [frL, List.length_cons, List.length_nil, List.take_succ_cons, List.take_zero, Nat.reduceAdd, Nat.zero_add, List.setIfInBounds_toArray, List.set_cons_zero, List.set_cons_succ, hd] | simp only [frL, List.length_cons, List.length_nil, List.take_succ_cons, List.take_zero, Nat.reduceAdd, Nat.zero_add, List.setIfInBounds_toArray, List.set_cons_zero, List.set_cons_succ]
      go_wp2
      first | (with_reducible exact Ext.refl _) | exact ⟨rfl, _, rfl, (fun u hu => by simpa using hu), (by (repeat (first | (with_reducible assumption) | (with_reducible exact Ext.refl _) | (with_reducible refine Ext.drew ?_) | (with_reducible refine Ext.drewN ?_ _) | (with_reducible refine Ext.alloc ?_ _) | (with_reducible refine Ext.trans ?_ (by with_reducible assumption)))))⟩ | (with_reducible exact (by (repeat (first | (with_reducible assumption) | (with_reducible exact Ext.refl _) | (with_reducible refine Ext.drew ?_) | (with_reducible refine Ext.drewN ?_ _) | (with_reducible refine Ext.alloc ?_ _) | (with_reducible refine Ext.trans ?_ (by with_reducible assumption))))))
    case s4 =>
      intro x w' hd
      try simp [Region.binds] at hd
      refine ⟨fun _ hK => ?_, fun h => absurd h (by decide)⟩
      obtain ⟨d1, d2, d3⟩ := hK
      unfold TPost
      first | simp only [frL, List.length_cons, List.length_nil, List.take_succ_cons, List.take_zero, Nat.reduceAdd, Nat.zero_add, List.setIfInBounds_toArray, List.set_cons_zero, List.set_cons_succ, hd] | simp only [frL, List.length_cons, List.length_nil, List.take_succ_cons, List.take_zero, Nat.reduceAdd, Nat.zero_add, List.setIfInBounds_toArray, List.set_cons_zero, List.set_cons_succ]
      go_wp2
      first | (with_reducible exact Ext.refl _) | exact ⟨rfl, _, rfl, (fun u hu => by simpa using hu), (by (repeat (first | (with_reducible assumption) | (with_reducible exact Ext.refl _) | (with_reducible refine Ext.drew ?_) | (with_reducible refine Ext.drewN ?_ _) | (with_reducible refine Ext.alloc ?_ _) | (with_reducible refine Ext.trans ?_ (by with_reducible assumption)))))⟩ | (with_reducible exact (by (repeat (first | (with_reducible assumption) | (with_reducible exact Ext.refl _) | (with_reducible refine Ext.drew ?_) | (with_reducible refine Ext.drewN ?_ _) | (with_reducible refine Ext.alloc ?_ _) | (with_reducible refine Ext.trans ?_ (by with_reducible assumption))))))
    case s5 =>
      intro x w' hd
      try simp [Region.binds] at hd
      refine ⟨fun _ hK => ?_, fun h => absurd h (by decide)⟩
      obtain ⟨d1, d2, d3⟩ := hK
      unfold TPost
      first | simp only [frL, List.length_cons, List.length_nil, List.take_succ_cons, List.take_zero, Nat.reduceAdd, Nat.zero_add, List.setIfInBounds_toArray, List.set_cons_zero, List.set_cons_succ, hd] | simp only [frL, List.length_cons, List.length_nil, List.take_succ_cons, List.take_zero, Nat.reduceAdd, Nat.zero_add, List.setIfInBounds_toArray, List.set_cons_zero, List.set_cons_succ]
      go_wp2
      first | (with_reducible exact Ext.refl _) | exact ⟨rfl, _, rfl, (fun u hu => by simpa using hu), (by (repeat (first | (with_reducible assumption) | (with_reducible exact Ext.refl _) | (with_reducible refine Ext.drew ?_) | (with_reducible refine Ext.drewN ?_ _) | (with_reducible refine Ext.alloc ?_ _) | (with_reducible refine Ext.trans ?_ (by with_reducible assumption)))))⟩ | (with_reducible exact (by (repeat (first | (with_reducible assumption) | (with_reducible exact Ext.refl _) | (with_reducible refine Ext.drew ?_) | (with_reducible refine Ext.drewN ?_ _) | (with_reducible refine Ext.alloc ?_ _) | (with_reducible refine Ext.trans ?_ (by with_reducible assumption))))))
    case s6 =>
      intro x w' hd
      try simp [Region.binds] at hd
      refine ⟨fun _ hK => ?_, fun h => absurd h (by decide)⟩
      obtain ⟨d1, d2, d3⟩ := hK
      unfold TPost
      first | simp only [frL, List.length_cons, List.length_nil, List.take_succ_cons, List.take_zero, Nat.reduceAdd, Nat.zero_add, List.setIfInBounds_toArray, List.set_cons_zero, List.set_cons_succ, hd] | simp only [frL, List.length_cons, List.length_nil, List.take_succ_cons, List.take_zero, Nat.reduceAdd, Nat.zero_add, List.setIfInBounds_toArray, List.set_cons_zero, List.set_cons_succ]
      go_wp2
      first | (with_reducible exact Ext.refl _) | exact ⟨rfl, _, rfl, (fun u hu => by simpa using hu), (by (repeat (first | (with_reducible assumption) | (with_reducible exact Ext.refl _) | (with_reducible refine Ext.drew ?_) | (with_reducible refine Ext.drewN ?_ _) | (with_reducible refine Ext.alloc ?_ _) | (with_reducible refine Ext.trans ?_ (by with_reducible assumption)))))⟩ | (with_reducible exact (by (repeat (first | (with_reducible assumption) | (with_reducible exact Ext.refl _) | (with_reducible refine Ext.drew ?_) | (with_reducible refine Ext.drewN ?_ _) | (with_reducible refine Ext.alloc ?_ _) | (with_reducible refine Ext.trans ?_ (by with_reducible assumption))))))
    case s7 =>
      intro x w' hd
      try simp [Region.binds] at hd
      refine ⟨fun _ hK => ?_, fun h => absurd h (by decide)⟩
      obtain ⟨d1, d2, d3⟩ := hK
      unfold TPost
      first | simp only [frL, List.length_cons, List.length_nil, List.take_succ_cons, List.take_zero, Nat.reduceAdd, Nat.zero_add, List.setIfInBounds_toArray, List.set_cons_zero, List.set_cons_succ, hd] | simp only [frL, List.length_cons, List.length_nil, List.take_succ_cons, List.take_zero, Nat.reduceAdd, Nat.zero_add, List.setIfInBounds_toArray, List.set_cons_zero, List.set_cons_succ]
      go_wp2
      first | (with_reducible exact Ext.refl _) | exact ⟨rfl, _, rfl, (fun u hu => by simpa using hu), (by (repeat (first | (with_reducible assumption) | (with_reducible exact Ext.refl _) | (with_reducible refine Ext.drew ?_) | (with_reducible refine Ext.drewN ?_ _) | (with_reducible refine Ext.alloc ?_ _) | (with_reducible refine Ext.trans ?_ (by with_reducible assumption)))))⟩ | (with_reducible exact (by (repeat (first | (with_reducible assumption) | (with_reducible exact Ext.refl _) | (with_reducible refine Ext.drew ?_) | (with_reducible refine Ext.drewN ?_ _) | (with_reducible refine Ext.alloc ?_ _) | (with_reducible refine Ext.trans ?_ (by with_reducible assumption))))))
    case s8 =>
      intro x w' hd
      try simp [Region.binds] at hd
      refine ⟨fun _ hK => ?_, fun h => absurd h (by decide)⟩
      obtain ⟨d1, d2, d3⟩ := hK
      unfold TPost
      first | simp only [frL, List.length_cons, List.length_nil, List.take_succ_cons, List.take_zero, Nat.reduceAdd, Nat.zero_add, List.setIfInBounds_toArray, List.set_cons_zero, List.set_cons_succ, hd] | simp only [frL, List.length_cons, List.length_nil, List.take_succ_cons, List.take_zero, Nat.reduceAdd, Nat.zero_add, List.setIfInBounds_toArray, List.set_cons_zero, List.set_cons_succ]
      go_wp2
      first | (with_reducible exact Ext.refl _) | exact ⟨rfl, _, rfl, (fun u hu => by simpa using hu), (by (repeat (first | (with_reducible assumption) | (with_reducible exact Ext.refl _) | (with_reducible refine Ext.drew ?_) | (with_reducible refine Ext.drewN ?_ _) | (with_reducible refine Ext.alloc ?_ _) | (with_reducible refine Ext.trans ?_ (by with_reducible assumption)))))⟩ | (with_reducible exact (by (repeat (first | (with_reducible assumption) | (with_reducible exact Ext.refl _) | (with_reducible refine Ext.drew ?_) | (with_reducible refine Ext.drewN ?_ _) | (with_reducible refine Ext.alloc ?_ _) | (with_reducible refine Ext.trans ?_ (by with_reducible assumption))))))
    case s10 =>
      intro x w' hd
      try simp [Region.binds] at hd
      refine ⟨fun _ hK => ?_, fun h => absurd h (by decide)⟩
      obtain ⟨d1, d2, d3⟩ := hK
      unfold TPost
      first | simp only [frL, List.length_cons, List.length_nil, List.take_succ_cons, List.take_zero, Nat.reduceAdd, Nat.zero_add, List.setIfInBounds_toArray, List.set_cons_zero, List.set_cons_succ, hd] | simp only [frL, List.length_cons, List.length_nil, List.take_succ_cons, List.take_zero, Nat.reduceAdd, Nat.zero_add, List.setIfInBounds_toArray, List.set_cons_zero, List.set_cons_succ]
      go_wp2
      first | (with_reducible exact Ext.refl _) | exact ⟨rfl, _, rfl, (fun u hu => by simpa using hu), (by (repeat (first | (with_reducible assumption) | (with_reducible exact Ext.refl _) | (with_reducible refine Ext.drew ?_) | (with_reducible refine Ext.drewN ?_ _) | (with_reducible refine Ext.alloc ?_ _) | (with_reducible refine Ext.trans ?_ (by with_reducible assumption)))))⟩ | (with_reducible exact (by (repeat (first | (with_reducible assumption) | (with_reducible exact Ext.refl _) | (with_reducible refine Ext.drew ?_) | (with_reducible refine Ext.drewN ?_ _) | (with_reducible refine Ext.alloc ?_ _) | (with_reducible refine Ext.trans ?_ (by with_reducible assumption))))))
    case s11 =>
      intro x w' hd
      try simp [Region.binds] at hd
      refine ⟨fun _ hK => ?_, fun h => absurd h (by decide)⟩
      obtain ⟨d1, d2, d3⟩ := hK
      unfold TPost
      first | simp only [frL, List.length_cons, List.length_nil, List.take_succ_cons, List.take_zero, Nat.reduceAdd, Nat.zero_add, List.setIfInBounds_toArray, List.set_cons_zero, List.set_cons_succ, hd] | simp only [frL, List.length_cons, List.length_nil, List.take_succ_cons, List.take_zero, Nat.reduceAdd, Nat.zero_add, List.setIfInBounds_toArray, List.set_cons_zero, List.set_cons_succ]
      go_wp2
      first | (with_reducible exact Ext.refl _) | exact ⟨rfl, _, rfl, (fun u hu => by simpa using hu), (by (repeat (first | (with_reducible assumption) | (with_reducible exact Ext.refl _) | (with_reducible refine Ext.drew ?_) | (with_reducible refine Ext.drewN ?_ _) | (with_reducible refine Ext.alloc ?_ _) | (with_reducible refine Ext.trans ?_ (by with_reducible assumption)))))⟩ | (with_reducible exact (by (repeat (first | (with_reducible assumption) | (with_reducible exact Ext.refl _) | (with_reducible refine Ext.drew ?_) | (with_reducible refine Ext.drewN ?_ _) | (with_reducible refine Ext.alloc ?_ _) | (with_reducible refine Ext.trans ?_ (by with_reducible assumption))))))
    case s12 =>
      intro x w' hd
      try simp [Region.binds] at hd
      refine ⟨fun _ hK => ?_, fun h => absurd h (by decide)⟩
      obtain ⟨d1, d2, d3⟩ := hK
      unfold TPost
      first | simp only [frL, List.length_cons, List.length_nil, List.take_succ_cons, List.take_zero, Nat.reduceAdd, Nat.zero_add, List.setIfInBounds_toArray, List.set_cons_zero, List.set_cons_succ, hd] | simp only [frL, List.length_cons, List.length_nil, List.take_succ_cons, List.take_zero, Nat.reduceAdd, Nat.zero_add, List.setIfInBounds_toArray, List.set_cons_zero, List.set_cons_succ]
      go_wp2
      first | (with_reducible exact Ext.refl _) | exact ⟨rfl, _, rfl, (fun u hu => by simpa using hu), (by (repeat (first | (with_reducible assumption) | (with_reducible exact Ext.refl _) | (with_reducible refine Ext.drew ?_) | (with_reducible refine Ext.drewN ?_ _) | (with_reducible refine Ext.alloc ?_ _) | (with_reducible refine Ext.trans ?_ (by with_reducible assumption)))))⟩ | (with_reducible exact (by (repeat (first | (with_reducible assumption) | (with_reducible exact Ext.refl _) | (with_reducible refine Ext.drew ?_) | (with_reducible refine Ext.drewN ?_ _) | (with_reducible refine Ext.alloc ?_ _) | (with_reducible refine Ext.trans ?_ (by with_reducible assumption))))))
    case s13 =>
      intro x w' hd
      try simp [Region.binds] at hd
      refine ⟨fun _ hK => ?_, fun h => absurd h (by decide)⟩
      obtain ⟨d1, d2, d3⟩ := hK
      unfold TPost
      first | simp only [frL, List.length_cons, List.length_nil, List.take_succ_cons, List.take_zero, Nat.reduceAdd, Nat.zero_add, List.setIfInBounds_toArray, List.set_cons_zero, List.set_cons_succ, hd] | simp only [frL, List.length_cons, List.length_nil, List.take_succ_cons, List.take_zero, Nat.reduceAdd, Nat.zero_add, List.setIfInBounds_toArray, List.set_cons_zero, List.set_cons_succ]
      go_wp2
      first | (with_reducible exact Ext.refl _) | exact ⟨rfl, _, rfl, (fun u hu => by simpa using hu), (by (repeat (first | (with_reducible assumption) | (with_reducible exact Ext.refl _) | (with_reducible refine Ext.drew ?_) | (with_reducible refine Ext.drewN ?_ _) | (with_reducible refine Ext.alloc ?_ _) | (with_reducible refine Ext.trans ?_ (by with_reducible assumption)))))⟩ | (with_reducible exact (by (repeat (first | (with_reducible assumption) | (with_reducible exact Ext.refl _) | (with_reducible refine Ext.drew ?_) | (with_reducible refine Ext.drewN ?_ _) | (with_reducible refine Ext.alloc ?_ _) | (with_reducible refine Ext.trans ?_ (by with_reducible assumption))))))
    case sm =>
      intro x' w' hd
      try simp [Region.binds] at hd
      refine ⟨fun h => absurd rfl h, fun _ hS => ?_⟩
      have hEx := hid hS
      clear hS
      unfold TPost
      first | simp only [frL, List.length_cons, List.length_nil, List.take_succ_cons, List.take_zero, Nat.reduceAdd, Nat.zero_add, List.setIfInBounds_toArray, List.set_cons_zero, List.set_cons_succ, hd] | simp only [frL, List.length_cons, List.length_nil, List.take_succ_cons, List.take_zero, Nat.reduceAdd, Nat.zero_add, List.setIfInBounds_toArray, List.set_cons_zero, List.set_cons_succ]
      go_wp2_with fail
      refine (DO.out w' hEx.out).mono ?_
      rintro e w5 ⟨rfl, ⟨pv', hP5⟩, hg5⟩
      have hZ := hid (show DidP wA (A.bt i) C O (parP C O (runS S xe.ops)) (A.vc i) (A.vs i) w5 from ⟨w', w5, pv', hEx.out, hP5, hg5, Ext.refl _⟩)
      clear hP5 hg5
      go_wp2
      exact hZ.out
  case st0 => intro a b E h; exact Ext.trans h E
  case st1 =>
    rintro a b E ⟨wq, w5, pv', h1, h2, h3, h4⟩
    exact ⟨wq, w5, pv', h1, h2, h3, h4.trans E⟩
  case k0 =>
    intro a hE
    exact ⟨Ext.cell hE a1, Ext.cell hE ag, Ext.cell hE k0.1⟩
  case k1 =>
    rintro a ⟨wq, w5, pv', h1, h2, h3, h4⟩
    exact ⟨HKB.out a (h4.heap (grown_heap h3 (h1.heap HBA.out) nb)), HKG.out a (h4.heap (grown_heap h3 (h1.heap HGA.out) ng)), (blk4 (h4.heap (grown_heap h3 (h1.heap HBX.out) nx))).1⟩
  case h0 => exact (Ext.refl _).drew
  case he =>
    rintro x' w3 hd ⟨wq, w5, pv', h1, h2, h3, h4⟩
    obtain ⟨G3, K3⟩ := (H.out.ext (HEA.out.trans h1)).turn hi h2 (H.out.far i hi) h3
    have K3 := (Kp.after (HEA.out.trans h1) K3).ext h4
    have G3 := G3.ext h4
    rw [HC.out] at G3
    dsimp only at G3
    obtain ⟨A3, G3, hz3⟩ : ∃ A3 : CopA, CopG0 w3 F b A3 cl op (K.set i ⟨C, O, runS S xe.ops, dn, oks⟩) ∧ A3.Z = A.Z ∧ A3.eB = A.eB ∧ A3.bd = A.bd ∧ A3.S = A.S ∧ A3.bm = A.bm := ⟨_, G3, rfl, rfl, rfl, rfl, rfl⟩
    have HZ3 := hid hz3
    clear hz3
    have HG3 := hid G3
    have HK3 := hid K3
    have e0 := hd 0 (by decide) _ rfl
    have e1 := hd 1 (by decide) _ rfl
    have e2 := hd 2 (by decide) _ rfl
    have e3 := hd 3 (by decide) _ rfl
    have e4 := hd 4 (by decide) _ rfl
    have e5 := hd 5 (by decide) _ rfl
    have e6 := hd 6 (by decide) _ rfl
    have e7 := hd 7 (by decide) _ rfl
    have e8 := hd 8 (by decide) _ rfl
    have e9 := hd 9 (by decide) _ rfl
    have e10 := hd 10 (by decide) _ rfl
    have e11 := hd 11 (by decide) _ rfl
    have e12 := hd 12 (by decide) _ rfl
    have e13 := hd 13 (by decide) _ rfl
    simp only [frL, List.length_cons, List.length_nil, List.take_succ_cons, List.take_zero, Nat.reduceAdd, Nat.zero_add, List.setIfInBounds_toArray, List.set_cons_zero, List.set_cons_succ, e0, e1, e2, e3, e4, e5, e6, e7, e8, e9, e10, e11, e12, e13]
    clear hd e0 e1 e2 e3 e4 e5 e6 e7 e8 e9 e10 e11 e12 e13 h1 h2 h3 h4
    have lK : ∀ k : Cop, (K.set i k).length = K.length := fun k => List.length_set
    have cD := G3.cellD (i := i) (by rw [lK]; exact hi)
    have c23 := G3.cells.2.2.1
    rw [set_at hi, if_pos rfl] at cD
    rw [lK] at c23
    dsimp only at cD c23
    clear G3 K3 k0 a1 ag
    have HCD := hid cD.2
    have fD := HCD.out
    go_wp2_with fail
    obtain ⟨G4, K4⟩ := HG3.out.count (i := i) (by rw [lK]; exact hi) (dn + 1)
    rw [set_at hi, if_pos rfl, set_set] at G4
    have ecast : ((dn + 1 : Nat) : Int) = (dn : Int) + 1 := by omega
    rw [ecast] at G4 K4
    dsimp only at G4 K4
    have K4 := HK3.out.trans K4
    obtain ⟨w4, hw4⟩ : ∃ w4, w3.setCell ⟨A3.bd, i, none⟩ (.int .i64 ((dn : Int) + 1)) = w4 := ⟨_, rfl⟩
    rw [hw4] at G4 K4
    have c43 := G4.cells.2.2.2
    rw [lK] at c43
    obtain ⟨cO, fO⟩ := G4.cellO (i := i) (by rw [lK]; exact hi)
    have hown := G4.oks i (by rw [lK]; exact hi)
    rw [set_at hi, if_pos rfl] at hown
    dsimp only at hown
    obtain ⟨ai, ki, hvo⟩ := own_form hown
    have nb4 := own_ne hown G4.box (by decide)
    have no4 := own_ne hown G4.orow (by decide)
    have HBX4 := hid G4.box
    have HRW4 := hid G4.orow
    have HG4 := hid G4
    have HK4 := hid K4
    have HVO := hid hvo
    rw [hvo] at cO hown nb4 no4
    rw [lK] at HBX4 HRW4
    clear G4 K4 hvo HG3 HK3 ecast cD c23 HCD fD
    go_wp2_with fail
    refine wp_region_pq (by kernel_rfl) (by kernel_rfl) (fun ii => match ii with | 0 => some (.pointer (some ⟨b, 0, none⟩)) | 1 => some (.pointer (some ⟨b, 0, none⟩)) | 2 => some (.pointer (some ⟨b, 3, none⟩)) | 3 => some (.slice (some ⟨A3.bo, 0, none⟩) K.length K.length) | 4 => some (.int .i64 i) | 5 => some (.pointer (some ⟨b, 0, none⟩)) | 6 => some (.pointer (some ⟨b, 0, none⟩)) | 7 => some (.pointer (some ⟨b, 3, none⟩)) | 8 => some (.slice (some ⟨A3.bo, 0, none⟩) K.length K.length) | 9 => some (.int .i64 i) | 10 => some (.pointer (some ⟨A3.bo, i, none⟩)) | 11 => some (.slice ai oks.length ki) | 15 => some (.pointer (some ⟨A3.bo, i, none⟩)) | _ => none) 12 13 14 16 (by decide) (by kernel_rfl) (by kernel_rfl) (by kernel_rfl) (by kernel_rfl) (by kernel_rfl) (fun w' => w'.cell? ⟨b, 3, none⟩ = some (.slice (some ⟨A3.bo, 0, none⟩) K.length K.length) ∧ w'.cell? ⟨A3.bo, i, none⟩ = some (.slice ai oks.length ki)) (fun w' => Ext w4 w') (fun v _ => v = .bool r) (fun _ v w' => NewC #[.bool r] 4 1 v w') (fun v w' => AppM w4 4 1 (oks.length + 1) (oks.map Value.bool ++ [.bool r]) (.slice ai oks.length ki) v w') (fun w' => StoM w4 4 1 (oks.length + 1) (oks.map Value.bool ++ [.bool r]) (.slice ai oks.length ki) A3.bo i w') ?st0 ?stp ?stq ?st1 ?k0 ?k1 ?h0 ?hs ?he
    case hs =>
      refine ⟨?s0, ?s1, ?s2, ?s3, ?s4, ?s5, ?s6, ?s7, ?s8, ?s9, ?s10, ?s11, ?sp, ?sq, ?sm, ?s15, ?sz, trivial⟩
      case s0 =>
        intro x w' hd
        try simp [Region.binds] at hd
        refine ⟨fun _ _ _ _ hK => ?_, fun h => absurd h (by decide), fun h => absurd h (by decide), fun h => absurd h (by decide), fun h => absurd h (by decide)⟩
        obtain ⟨d1, d2⟩ := hK
        unfold TPost
        first | simp only [frL, List.length_cons, List.length_nil, List.take_succ_cons, List.take_zero, Nat.reduceAdd, Nat.zero_add, List.setIfInBounds_toArray, List.set_cons_zero, List.set_cons_succ, hd] | simp only [frL, List.length_cons, List.length_nil, List.take_succ_cons, List.take_zero, Nat.reduceAdd, Nat.zero_add, List.setIfInBounds_toArray, List.set_cons_zero, List.set_cons_succ]
        go_wp2
        first | (with_reducible exact Ext.refl _) | exact ⟨rfl, _, rfl, (fun u hu => by simpa using hu), (by (repeat (first | (with_reducible assumption) | (with_reducible exact Ext.refl _) | (with_reducible refine Ext.drew ?_) | (with_reducible refine Ext.drewN ?_ _) | (with_reducible refine Ext.alloc ?_ _) | (with_reducible refine Ext.trans ?_ (by with_reducible assumption)))))⟩ | (with_reducible exact (by (repeat (first | (with_reducible assumption) | (with_reducible exact Ext.refl _) | (with_reducible refine Ext.drew ?_) | (with_reducible refine Ext.drewN ?_ _) | (with_reducible refine Ext.alloc ?_ _) | (with_reducible refine Ext.trans ?_ (by with_reducible assumption))))))
      case s1 =>
        intro x w' hd
        try simp [Region.binds] at hd
        refine ⟨fun _ _ _ _ hK => ?_, fun h => absurd h (by decide), fun h => absurd h (by decide), fun h => absurd h (by decide), fun h => absurd h (by decide)⟩
        obtain ⟨d1, d2⟩ := hK
        unfold TPost
        first | simp only [frL, List.length_cons, List.length_nil, List.take_succ_cons, List.take_zero, Nat.reduceAdd, Nat.zero_add, List.setIfInBounds_toArray, List.set_cons_zero, List.set_cons_succ, hd] | simp only [frL, List.length_cons, List.length_nil, List.take_succ_cons, List.take_zero, Nat.reduceAdd, Nat.zero_add, List.setIfInBounds_toArray, List.set_cons_zero, List.set_cons_succ]
        go_wp2
        first | (with_reducible exact Ext.refl _) | exact ⟨rfl, _, rfl, (fun u hu => by simpa using hu), (by (repeat (first | (with_reducible assumption) | (with_reducible exact Ext.refl _) | (with_reducible refine Ext.drew ?_) | (with_reducible refine Ext.drewN ?_ _) | (with_reducible refine Ext.alloc ?_ _) | (with_reducible refine Ext.trans ?_ (by with_reducible assumption)))))⟩ | (with_reducible exact (by (repeat (first | (with_reducible assumption) | (with_reducible exact Ext.refl _) | (with_reducible refine Ext.drew ?_) | (with_reducible refine Ext.drewN ?_ _) | (with_reducible refine Ext.alloc ?_ _) | (with_reducible refine Ext.trans ?_ (by with_reducible assumption))))))
      case s2 =>
        intro x w' hd
        try simp [Region.binds] at hd
        refine ⟨fun _ _ _ _ hK => ?_, fun h => absurd h (by decide), fun h => absurd h (by decide), fun h => absurd h (by decide), fun h => absurd h (by decide)⟩
        obtain ⟨d1, d2⟩ := hK
        unfold TPost
        first | simp only [frL, List.length_cons, List.length_nil, List.take_succ_cons, List.take_zero, Nat.reduceAdd, Nat.zero_add, List.setIfInBounds_toArray, List.set_cons_zero, List.set_cons_succ, hd] | simp only [frL, List.length_cons, List.length_nil, List.take_succ_cons, List.take_zero, Nat.reduceAdd, Nat.zero_add, List.setIfInBounds_toArray, List.set_cons_zero, List.set_cons_succ]
        go_wp2
        first | (with_reducible exact Ext.refl _) | exact ⟨rfl, _, rfl, (fun u hu => by simpa using hu), (by (repeat (first | (with_reducible assumption) | (with_reducible exact Ext.refl _) | (with_reducible refine Ext.drew ?_) | (with_reducible refine Ext.drewN ?_ _) | (with_reducible refine Ext.alloc ?_ _) | (with_reducible refine Ext.trans ?_ (by with_reducible assumption)))))⟩ | (with_reducible exact (by (repeat (first | (with_reducible assumption) | (with_reducible exact Ext.refl _) | (with_reducible refine Ext.drew ?_) | (with_reducible refine Ext.drewN ?_ _) | (with_reducible refine Ext.alloc ?_ _) | (with_reducible refine Ext.trans ?_ (by with_reducible assumption))))))
      case s3 =>
        intro x w' hd
        try simp [Region.binds] at hd
        refine ⟨fun _ _ _ _ hK => ?_, fun h => absurd h (by decide), fun h => absurd h (by decide), fun h => absurd h (by decide), fun h => absurd h (by decide)⟩
        obtain ⟨d1, d2⟩ := hK
        unfold TPost
        first | simp only [frL, List.length_cons, List.length_nil, List.take_succ_cons, List.take_zero, Nat.reduceAdd, Nat.zero_add, List.setIfInBounds_toArray, List.set_cons_zero, List.set_cons_succ, hd] | simp only [frL, List.length_cons, List.length_nil, List.take_succ_cons, List.take_zero, Nat.reduceAdd, Nat.zero_add, List.setIfInBounds_toArray, List.set_cons_zero, List.set_cons_succ]
        go_wp2
        first | (with_reducible exact Ext.refl _) | exact ⟨rfl, _, rfl, (fun u hu => by simpa using hu), (by (repeat (first | (with_reducible assumption) | (with_reducible exact Ext.refl _) | (with_reducible refine Ext.drew ?_) | (with_reducible refine Ext.drewN ?_ _) | (with_reducible refine Ext.alloc ?_ _) | (with_reducible refine Ext.trans ?_ (by with_reducible assumption)))))⟩ | (with_reducible exact (by (repeat (first | (with_reducible assumption) | (with_reducible exact Ext.refl _) | (with_reducible refine Ext.drew ?_) | (with_reducible refine Ext.drewN ?_ _) | (with_reducible refine Ext.alloc ?_ _) | (with_reducible refine Ext.trans ?_ (by with_reducible assumption))))))
      case s4 =>
        intro x w' hd
        try simp [Region.binds] at hd
        refine ⟨fun _ _ _ _ hK => ?_, fun h => absurd h (by decide), fun h => absurd h (by decide), fun h => absurd h (by decide), fun h => absurd h (by decide)⟩
        obtain ⟨d1, d2⟩ := hK
        unfold TPost
        first | simp only [frL, List.length_cons, List.length_nil, List.take_succ_cons, List.take_zero, Nat.reduceAdd, Nat.zero_add, List.setIfInBounds_toArray, List.set_cons_zero, List.set_cons_succ, hd] | simp only [frL, List.length_cons, List.length_nil, List.take_succ_cons, List.take_zero, Nat.reduceAdd, Nat.zero_add, List.setIfInBounds_toArray, List.set_cons_zero, List.set_cons_succ]
        go_wp2
        first | (with_reducible exact Ext.refl _) | exact ⟨rfl, _, rfl, (fun u hu => by simpa using hu), (by (repeat (first | (with_reducible assumption) | (with_reducible exact Ext.refl _) | (with_reducible refine Ext.drew ?_) | (with_reducible refine Ext.drewN ?_ _) | (with_reducible refine Ext.alloc ?_ _) | (with_reducible refine Ext.trans ?_ (by with_reducible assumption)))))⟩ | (with_reducible exact (by (repeat (first | (with_reducible assumption) | (with_reducible exact Ext.refl _) | (with_reducible refine Ext.drew ?_) | (with_reducible refine Ext.drewN ?_ _) | (with_reducible refine Ext.alloc ?_ _) | (with_reducible refine Ext.trans ?_ (by with_reducible assumption))))))
      case s5 =>
        intro x w' hd
        try simp [Region.binds] at hd
        refine ⟨fun _ _ _ _ hK => ?_, fun h => absurd h (by decide), fun h => absurd h (by decide), fun h => absurd h (by decide), fun h => absurd h (by decide)⟩
        obtain ⟨d1, d2⟩ := hK
        unfold TPost
        first | simp only [frL, List.length_cons, List.length_nil, List.take_succ_cons, List.take_zero, Nat.reduceAdd, Nat.zero_add, List.setIfInBounds_toArray, List.set_cons_zero, List.set_cons_succ, hd] | simp only [frL, List.length_cons, List.length_nil, List.take_succ_cons, List.take_zero, Nat.reduceAdd, Nat.zero_add, List.setIfInBounds_toArray, List.set_cons_zero, List.set_cons_succ]
        go_wp2
        first | (with_reducible exact Ext.refl _) | exact ⟨rfl, _, rfl, (fun u hu => by simpa using hu), (by (repeat (first | (with_reducible assumption) | (with_reducible exact Ext.refl _) | (with_reducible refine Ext.drew ?_) | (with_reducible refine Ext.drewN ?_ _) | (with_reducible refine Ext.alloc ?_ _) | (with_reducible refine Ext.trans ?_ (by with_reducible assumption)))))⟩ | (with_reducible exact (by (repeat (first | (with_reducible assumption) | (with_reducible exact Ext.refl _) | (with_reducible refine Ext.drew ?_) | (with_reducible refine Ext.drewN ?_ _) | (with_reducible refine Ext.alloc ?_ _) | (with_reducible refine Ext.trans ?_ (by with_reducible assumption))))))
      case s6 =>
        intro x w' hd
        try simp [Region.binds] at hd
        refine ⟨fun _ _ _ _ hK => ?_, fun h => absurd h (by decide), fun h => absurd h (by decide), fun h => absurd h (by decide), fun h => absurd h (by decide)⟩
        obtain ⟨d1, d2⟩ := hK
        unfold TPost
        first | simp only [frL, List.length_cons, List.length_nil, List.take_succ_cons, List.take_zero, Nat.reduceAdd, Nat.zero_add, List.setIfInBounds_toArray, List.set_cons_zero, List.set_cons_succ, hd] | simp only [frL, List.length_cons, List.length_nil, List.take_succ_cons, List.take_zero, Nat.reduceAdd, Nat.zero_add, List.setIfInBounds_toArray, List.set_cons_zero, List.set_cons_succ]
        go_wp2
        first | (with_reducible exact Ext.refl _) | exact ⟨rfl, _, rfl, (fun u hu => by simpa using hu), (by (repeat (first | (with_reducible assumption) | (with_reducible exact Ext.refl _) | (with_reducible refine Ext.drew ?_) | (with_reducible refine Ext.drewN ?_ _) | (with_reducible refine Ext.alloc ?_ _) | (with_reducible refine Ext.trans ?_ (by with_reducible assumption)))))⟩ | (with_reducible exact (by (repeat (first | (with_reducible assumption) | (with_reducible exact Ext.refl _) | (with_reducible refine Ext.drew ?_) | (with_reducible refine Ext.drewN ?_ _) | (with_reducible refine Ext.alloc ?_ _) | (with_reducible refine Ext.trans ?_ (by with_reducible assumption))))))
      case s7 =>
        intro x w' hd
        try simp [Region.binds] at hd
        refine ⟨fun _ _ _ _ hK => ?_, fun h => absurd h (by decide), fun h => absurd h (by decide), fun h => absurd h (by decide), fun h => absurd h (by decide)⟩
        obtain ⟨d1, d2⟩ := hK
        unfold TPost
        first | simp only [frL, List.length_cons, List.length_nil, List.take_succ_cons, List.take_zero, Nat.reduceAdd, Nat.zero_add, List.setIfInBounds_toArray, List.set_cons_zero, List.set_cons_succ, hd] | simp only [frL, List.length_cons, List.length_nil, List.take_succ_cons, List.take_zero, Nat.reduceAdd, Nat.zero_add, List.setIfInBounds_toArray, List.set_cons_zero, List.set_cons_succ]
        go_wp2
        first | (with_reducible exact Ext.refl _) | exact ⟨rfl, _, rfl, (fun u hu => by simpa using hu), (by (repeat (first | (with_reducible assumption) | (with_reducible exact Ext.refl _) | (with_reducible refine Ext.drew ?_) | (with_reducible refine Ext.drewN ?_ _) | (with_reducible refine Ext.alloc ?_ _) | (with_reducible refine Ext.trans ?_ (by with_reducible assumption)))))⟩ | (with_reducible exact (by (repeat (first | (with_reducible assumption) | (with_reducible exact Ext.refl _) | (with_reducible refine Ext.drew ?_) | (with_reducible refine Ext.drewN ?_ _) | (with_reducible refine Ext.alloc ?_ _) | (with_reducible refine Ext.trans ?_ (by with_reducible assumption))))))
      case s8 =>
        intro x w' hd
        try simp [Region.binds] at hd
        refine ⟨fun _ _ _ _ hK => ?_, fun h => absurd h (by decide), fun h => absurd h (by decide), fun h => absurd h (by decide), fun h => absurd h (by decide)⟩
        obtain ⟨d1, d2⟩ := hK
        unfold TPost
        first | simp only [frL, List.length_cons, List.length_nil, List.take_succ_cons, List.take_zero, Nat.reduceAdd, Nat.zero_add, List.setIfInBounds_toArray, List.set_cons_zero, List.set_cons_succ, hd] | simp only [frL, List.length_cons, List.length_nil, List.take_succ_cons, List.take_zero, Nat.reduceAdd, Nat.zero_add, List.setIfInBounds_toArray, List.set_cons_zero, List.set_cons_succ]
        go_wp2
        first | (with_reducible exact Ext.refl _) | exact ⟨rfl, _, rfl, (fun u hu => by simpa using hu), (by (repeat (first | (with_reducible assumption) | (with_reducible exact Ext.refl _) | (with_reducible refine Ext.drew ?_) | (with_reducible refine Ext.drewN ?_ _) | (with_reducible refine Ext.alloc ?_ _) | (with_reducible refine Ext.trans ?_ (by with_reducible assumption)))))⟩ | (with_reducible exact (by (repeat (first | (with_reducible assumption) | (with_reducible exact Ext.refl _) | (with_reducible refine Ext.drew ?_) | (with_reducible refine Ext.drewN ?_ _) | (with_reducible refine Ext.alloc ?_ _) | (with_reducible refine Ext.trans ?_ (by with_reducible assumption))))))
      case s9 =>
        intro x w' hd
        try simp [Region.binds] at hd
        refine ⟨fun _ _ _ _ hK => ?_, fun h => absurd h (by decide), fun h => absurd h (by decide), fun h => absurd h (by decide), fun h => absurd h (by decide)⟩
        obtain ⟨d1, d2⟩ := hK
        unfold TPost
        first | simp only [frL, List.length_cons, List.length_nil, List.take_succ_cons, List.take_zero, Nat.reduceAdd, Nat.zero_add, List.setIfInBounds_toArray, List.set_cons_zero, List.set_cons_succ, hd] | simp only [frL, List.length_cons, List.length_nil, List.take_succ_cons, List.take_zero, Nat.reduceAdd, Nat.zero_add, List.setIfInBounds_toArray, List.set_cons_zero, List.set_cons_succ]
        go_wp2
        first | (with_reducible exact Ext.refl _) | exact ⟨rfl, _, rfl, (fun u hu => by simpa using hu), (by (repeat (first | (with_reducible assumption) | (with_reducible exact Ext.refl _) | (with_reducible refine Ext.drew ?_) | (with_reducible refine Ext.drewN ?_ _) | (with_reducible refine Ext.alloc ?_ _) | (with_reducible refine Ext.trans ?_ (by with_reducible assumption)))))⟩ | (with_reducible exact (by (repeat (first | (with_reducible assumption) | (with_reducible exact Ext.refl _) | (with_reducible refine Ext.drew ?_) | (with_reducible refine Ext.drewN ?_ _) | (with_reducible refine Ext.alloc ?_ _) | (with_reducible refine Ext.trans ?_ (by with_reducible assumption))))))
      case s10 =>
        intro x w' hd
        try simp [Region.binds] at hd
        refine ⟨fun _ _ _ _ hK => ?_, fun h => absurd h (by decide), fun h => absurd h (by decide), fun h => absurd h (by decide), fun h => absurd h (by decide)⟩
        obtain ⟨d1, d2⟩ := hK
        unfold TPost
        first | simp only [frL, List.length_cons, List.length_nil, List.take_succ_cons, List.take_zero, Nat.reduceAdd, Nat.zero_add, List.setIfInBounds_toArray, List.set_cons_zero, List.set_cons_succ, hd] | simp only [frL, List.length_cons, List.length_nil, List.take_succ_cons, List.take_zero, Nat.reduceAdd, Nat.zero_add, List.setIfInBounds_toArray, List.set_cons_zero, List.set_cons_succ]
        go_wp2
        first | (with_reducible exact Ext.refl _) | exact ⟨rfl, _, rfl, (fun u hu => by simpa using hu), (by (repeat (first | (with_reducible assumption) | (with_reducible exact Ext.refl _) | (with_reducible refine Ext.drew ?_) | (with_reducible refine Ext.drewN ?_ _) | (with_reducible refine Ext.alloc ?_ _) | (with_reducible refine Ext.trans ?_ (by with_reducible assumption)))))⟩ | (with_reducible exact (by (repeat (first | (with_reducible assumption) | (with_reducible exact Ext.refl _) | (with_reducible refine Ext.drew ?_) | (with_reducible refine Ext.drewN ?_ _) | (with_reducible refine Ext.alloc ?_ _) | (with_reducible refine Ext.trans ?_ (by with_reducible assumption))))))
      case s11 =>
        intro x w' hd
        try simp [Region.binds] at hd
        refine ⟨fun _ _ _ _ hK => ?_, fun h => absurd h (by decide), fun h => absurd h (by decide), fun h => absurd h (by decide), fun h => absurd h (by decide)⟩
        obtain ⟨d1, d2⟩ := hK
        unfold TPost
        first | simp only [frL, List.length_cons, List.length_nil, List.take_succ_cons, List.take_zero, Nat.reduceAdd, Nat.zero_add, List.setIfInBounds_toArray, List.set_cons_zero, List.set_cons_succ, hd] | simp only [frL, List.length_cons, List.length_nil, List.take_succ_cons, List.take_zero, Nat.reduceAdd, Nat.zero_add, List.setIfInBounds_toArray, List.set_cons_zero, List.set_cons_succ]
        go_wp2
        first | (with_reducible exact Ext.refl _) | exact ⟨rfl, _, rfl, (fun u hu => by simpa using hu), (by (repeat (first | (with_reducible assumption) | (with_reducible exact Ext.refl _) | (with_reducible refine Ext.drew ?_) | (with_reducible refine Ext.drewN ?_ _) | (with_reducible refine Ext.alloc ?_ _) | (with_reducible refine Ext.trans ?_ (by with_reducible assumption)))))⟩ | (with_reducible exact (by (repeat (first | (with_reducible assumption) | (with_reducible exact Ext.refl _) | (with_reducible refine Ext.drew ?_) | (with_reducible refine Ext.drewN ?_ _) | (with_reducible refine Ext.alloc ?_ _) | (with_reducible refine Ext.trans ?_ (by with_reducible assumption))))))
      case s15 =>
        intro x w' hd
        try simp [Region.binds] at hd
        refine ⟨fun _ _ _ _ hK => ?_, fun h => absurd h (by decide), fun h => absurd h (by decide), fun h => absurd h (by decide), fun h => absurd h (by decide)⟩
        obtain ⟨d1, d2⟩ := hK
        unfold TPost
        first | simp only [frL, List.length_cons, List.length_nil, List.take_succ_cons, List.take_zero, Nat.reduceAdd, Nat.zero_add, List.setIfInBounds_toArray, List.set_cons_zero, List.set_cons_succ, hd] | simp only [frL, List.length_cons, List.length_nil, List.take_succ_cons, List.take_zero, Nat.reduceAdd, Nat.zero_add, List.setIfInBounds_toArray, List.set_cons_zero, List.set_cons_succ]
        go_wp2
        first | (with_reducible exact Ext.refl _) | exact ⟨rfl, _, rfl, (fun u hu => by simpa using hu), (by (repeat (first | (with_reducible assumption) | (with_reducible exact Ext.refl _) | (with_reducible refine Ext.drew ?_) | (with_reducible refine Ext.drewN ?_ _) | (with_reducible refine Ext.alloc ?_ _) | (with_reducible refine Ext.trans ?_ (by with_reducible assumption)))))⟩ | (with_reducible exact (by (repeat (first | (with_reducible assumption) | (with_reducible exact Ext.refl _) | (with_reducible refine Ext.drew ?_) | (with_reducible refine Ext.drewN ?_ _) | (with_reducible refine Ext.alloc ?_ _) | (with_reducible refine Ext.trans ?_ (by with_reducible assumption))))))
      case sp =>
        intro x' w' hd
        try simp [Region.binds] at hd
        refine ⟨fun h => absurd rfl h, fun _ hS => ?_, fun h => absurd h (by decide), fun h => absurd h (by decide), fun h => absurd h (by decide)⟩
        unfold TPost
        first | simp only [frL, List.length_cons, List.length_nil, List.take_succ_cons, List.take_zero, Nat.reduceAdd, Nat.zero_add, List.setIfInBounds_toArray, List.set_cons_zero, List.set_cons_succ, hd] | simp only [frL, List.length_cons, List.length_nil, List.take_succ_cons, List.take_zero, Nat.reduceAdd, Nat.zero_add, List.setIfInBounds_toArray, List.set_cons_zero, List.set_cons_succ]
        go_wp2
        exact Ext.refl _
      case sq =>
        intro x' w' hd
        try simp [Region.binds] at hd
        refine ⟨fun _ h => absurd rfl h, fun h => absurd h (by decide), fun _ hS hP => ?_, fun h => absurd h (by decide), fun h => absurd h (by decide)⟩
        unfold TPost
        first | simp only [frL, List.length_cons, List.length_nil, List.take_succ_cons, List.take_zero, Nat.reduceAdd, Nat.zero_add, List.setIfInBounds_toArray, List.set_cons_zero, List.set_cons_succ, hd, hP] | simp only [frL, List.length_cons, List.length_nil, List.take_succ_cons, List.take_zero, Nat.reduceAdd, Nat.zero_add, List.setIfInBounds_toArray, List.set_cons_zero, List.set_cons_succ, hP]
        go_wp2
        exact ⟨(Ext.refl _).alloc _, newC_alloc _ _ _ _⟩
      case sm =>
        intro x' w' hd
        try simp [Region.binds] at hd
        refine ⟨fun _ _ h => absurd rfl h, fun h => absurd h (by decide), fun h => absurd h (by decide), fun _ hS hQ => ?_, fun h => absurd h (by decide)⟩
        have hE : Ext w4 w' := hS
        obtain ⟨bq, hxq, hbk⟩ := hQ
        have ho := own_ext hown hE
        have hsg := seg_one hbk
        unfold TPost
        first | simp only [frL, List.length_cons, List.length_nil, List.take_succ_cons, List.take_zero, Nat.reduceAdd, Nat.zero_add, List.setIfInBounds_toArray, List.set_cons_zero, List.set_cons_succ, hd, hxq] | simp only [frL, List.length_cons, List.length_nil, List.take_succ_cons, List.take_zero, Nat.reduceAdd, Nat.zero_add, List.setIfInBounds_toArray, List.set_cons_zero, List.set_cons_succ, hxq]
        go_wp2_with (first | (at_builtin; refine (wpList_appR rfl _ _ 83 rfl 0 4 (.bool false) 1 1 Tryz.underlying83 infoB rfl (by decide) _ oks.length (oks.map Value.bool) rfl ho _ 1 [.bool r] rfl (by decide) hsg (one_bools [r]) (by omega) (by unfold maxLen; omega) (Nat.zero_le _) ?_); intro v' w9 ho' hg hb'))
        exact ⟨ho', ext_grown hE hg, fun k hk => (hb' k hk).imp id (fun h => by have := hE.size'; omega)⟩
      case sz =>
        intro x' w' hd
        try simp [Region.binds] at hd
        refine ⟨fun _ _ _ h => absurd rfl h, fun h => absurd h (by decide), fun h => absurd h (by decide), fun h => absurd h (by decide), fun _ hS => ?_⟩
        have hA := hid hS
        obtain ⟨ho', hg, hb'⟩ := hS
        have hb9 := grown_heap hg HRW4.out no4
        have f1 : w'.frozen? ⟨A3.bo, i, none⟩ = false := by simp [World.frozen?, hb9]
        have c1 := cells_of hb9 i _ (rowV_at A3.vo hi)
        obtain ⟨a9, c9, e9⟩ := own_form ho'
        rw [e9] at hA
        clear ho' hg hb' hb9
        unfold TPost
        first | simp only [frL, List.length_cons, List.length_nil, List.take_succ_cons, List.take_zero, Nat.reduceAdd, Nat.zero_add, List.setIfInBounds_toArray, List.set_cons_zero, List.set_cons_succ, hd, e9] | simp only [frL, List.length_cons, List.length_nil, List.take_succ_cons, List.take_zero, Nat.reduceAdd, Nat.zero_add, List.setIfInBounds_toArray, List.set_cons_zero, List.set_cons_succ, e9]
        go_wp2
        exact ⟨_, _, hA.out, Ext.refl _⟩
    case st0 => intro a b E h; exact Ext.trans h E
    case stp => intro v a b E h; exact h
    case stq => intro u v a b E h; exact NewC.ext h E
    case st1 => intro v a b E h; exact AppM.ext h E
    case k0 =>
      intro a hE
      exact ⟨Ext.cell hE c43, Ext.cell hE cO⟩
    case k1 =>
      intro v a hA
      refine ⟨by simp [World.cell?, grown_heap hA.grown HBX4.out nb4], ?_⟩
      have := cells_of (grown_heap hA.grown HRW4.out no4) i _ (rowV_at A3.vo hi)
      rw [HVO.out] at this
      exact this
    case h0 => first | exact (Ext.refl _).drew | (rw [hw4]; exact (Ext.refl _).drew)
    case he =>
      intro x' w6 hd hS
      obtain ⟨v, w1, hA, E6⟩ := hS
      simp only [frL, List.length_cons, List.length_nil, List.take_succ_cons, List.take_zero, Nat.reduceAdd, Nat.zero_add, List.setIfInBounds_toArray, List.set_cons_zero, List.set_cons_succ]
      clear hd
      obtain ⟨F', G6, K6, Z6⟩ := HG4.out.told (i := i) (by rw [lK]; exact hi) (v := v) (ok := oks ++ [r]) (by have := hA.own; simpa using this) (by rw [HVO.out]; exact hA.grown) (by rw [HVO.out]; exact hA.lies)
      rw [set_at hi, if_pos rfl, set_set] at G6
      dsimp only at G6
      have R6 := hid (show ∃ F', CopE0 A w6 F' b cl op (K.set i ⟨C, O, runS S xe.ops, dn + 1, oks ++ [r]⟩) ∧ Kp F w w6 F' ∧ ∀ k, A.S k → F k → F' k from ⟨F', ⟨_, G6.ext E6, HZ3.out⟩, (HK4.out.trans K6).ext E6, fun k hk hf => Z6 k (by rw [HZ3.out.2.2.2.1]; exact hk) hf⟩)
      clear G6 K6 Z6 hA
      go_wp2
      go_ret2
      exact ⟨rT2 rfl rfl, R6.out⟩
end Go.Proofs.YtddghaoejnbkaaaGreatDoor
