/- Contracts and lemmas for the proof of CopiesTake; each theorem states its own conditions. -/
import Derived.Test.YtimchedebcoohaaGreatQCopiesTakebv
import Derived.Test.YtimchedebcoohaaGreatQCopiesTakebw
set_option linter.unusedVariables false
set_option linter.unusedSimpArgs false
/- Contracts and lemmas for the proofs of this seat; each theorem states its own conditions. -/
namespace Go.Proofs.YtimchedebcoohaaGreat
open Go.RowKit
/-! copies of one input; what lies beside copies -/
def goC (c : Cop) (X : List Ent) : Nat → Cop
  | 0 => c
  | d + 1 => doE (goC c X d) (X.getD d entZ)
theorem doE_dn (c : Cop) (x : Ent) : (doE c x).dn = c.dn + 1 := by
  unfold doE
  split <;> rfl
theorem goC_dn (c : Cop) (X : List Ent) : ∀ d, (goC c X d).dn = c.dn + d
  | 0 => rfl
  | d + 1 => by rw [goC, doE_dn, goC_dn c X d]; omega
theorem goC_ok {N : Nat} {c : Cop} (h : CopOk N c) {X : List Ent} (hX : ∀ x ∈ X, EntOk x) : ∀ d, d ≤ X.length → CopOk N (goC c X d)
  | 0, _ => h
  | d + 1, hd => by
    have hl : d < X.length := hd
    rw [goC, show X.getD d entZ = X[d] by simp [hl]]
    exact (goC_ok h hX d (by omega)).do (hX _ (List.getElem_mem hl))
theorem log_one (X : Bat) : logM [[X]] = X := by simp [logM, rdM, mnTo, logTo, rowTo]
theorem LogK.one {X : Bat} (hX : ∀ x ∈ X, EntOk x) (hl : X.length ≤ 100) : LogK [[X]] where
  sm := by
    intro l hl b hb x hx
    simp at hl; subst hl
    simp at hb; subst hb
    exact (hX x hx).sm
  len := by rw [log_one]; exact hl
  few := by
    intro i hi
    have : i = 0 := by simp at hi; omega
    subst this
    simp
  ok := by rw [log_one]; exact hX
theorem plain_ents (D : List Ops) (ms : List (List Int)) : ∀ (k : Nat), ∀ x ∈ entsTo D ms k, plainE x = x
  | 0, x, hx => by simp [entsTo] at hx
  | k + 1, x, hx => by
    rw [entsTo] at hx
    rcases List.mem_append.1 hx with a | a
    · exact plain_ents D ms k x a
    · rcases List.mem_cons.1 a with rfl | a
      · rfl
      · split at a
        · simp at a; subst a; rfl
        · simp at a
theorem CopSt.ty {w : World} {F : Nat → Prop} {b : Nat} {cl : List (List Bat)} {op : List Bat} {K : List Cop} (h : CopSt w F b cl op K) : TyS w F cTy := by
  obtain ⟨A, h⟩ := h
  exact h.ty
theorem cadd_one {w : World} {F : Nat → Prop} {b : Nat} {A : CopA} {P : Bat} {K : List Cop} (h : CopG w F b A [[]] [P] K) (e : EV) (x : Ent) (hx : EntSeg w e x) (ok : EntOk x) (hp : P.length < 60) :
    Calls Tryz.prog 50 #[.pointer (some ⟨A.bm, 0, none⟩), .int .i64 0, evV e] w fun r w' => r = .returned (.int .i64 0) ∧ ∃ F', CopSt w' F' b [[]] [P ++ [plainE x]] K ∧ Kp F w w' F' := by
  refine (madd_ok h.mer 0 (by simp) e x hx ok.sm ok.sz ok.ok (by simp [manyM, manyTo]; omega) (fun i hi => ?_) (by simpa using hp)).mono ?_
  · have : i = 0 := by simp at hi; omega
    subst this; simp
  · rintro r w' ⟨rfl, S', hM, hk⟩
    obtain ⟨F', g, k⟩ := h.merge hM hk
    exact ⟨rfl, F', ⟨_, g⟩, k⟩
theorem cclose_one {w : World} {F : Nat → Prop} {b : Nat} {A : CopA} {P : Bat} {K : List Cop} (h : CopG w F b A [[]] [P] K) :
    Calls Tryz.prog 51 #[.pointer (some ⟨A.bm, 0, none⟩), .int .i64 0] w fun r w' => r = .returned (.tuple #[.int .i64 1, .int .i64 0]) ∧ ∃ F', CopSt w' F' b [[P]] [[]] K ∧ Kp F w w' F' := by
  refine (mclose_ok h.mer 0 (by simp) (by simp)).mono ?_
  rintro r w' ⟨rfl, S', hM, hk⟩
  obtain ⟨F', g, k⟩ := h.merge hM hk
  exact ⟨rfl, F', ⟨_, g⟩, k⟩
/-- entries that lie beside copies -/
def EntsK (w : World) (F : Nat → Prop) (v : Value) (X : List Ent) : Prop := ∃ es, EntsSt 0 w es X ∧ w.ownsRow 0 94 4 v X.length (cEn es) ∧ Off F v ∧ ∀ e ∈ es, Off F e.2.2.2
theorem EntsK.ext {w w' : World} {F : Nat → Prop} {v : Value} {X : List Ent} (h : EntsK w F v X) (E : Ext w w') : EntsK w' F v X := by
  obtain ⟨es, h1, h2, h3, h4⟩ := h
  exact ⟨es, h1.ext E, own_ext h2 E, h3, h4⟩
theorem EntsK.kp {w w' : World} {F F' : Nat → Prop} {v : Value} {X : List Ent} (h : EntsK w F v X) (ty : TyS w F cTy) (k : Kp F w w' F') : EntsK w' F' v X := by
  obtain ⟨es, h1, h2, h3, h4⟩ := h
  refine ⟨es, ⟨h1.1, fun j e x p q => ?_⟩, k.own h2 h3, k.off h2 h3, fun e he => ?_⟩
  · have s := h1.2 j e x p q
    have hm := h4 e (List.mem_of_getElem? p)
    exact ⟨k.own s.ops (ty.off s.ops op_cTy.1), s.im, k.own s.cuts (ty.off s.cuts op_cTy.2.1), k.own s.own hm⟩
  · obtain ⟨j, hj, rfl⟩ := List.mem_iff_getElem.1 he
    have hl := h1.1
    have s := h1.2 j es[j] (X[j]'(by omega)) (List.getElem?_eq_getElem hj) (List.getElem?_eq_getElem (by omega))
    exact k.off s.own (h4 _ he)
theorem EntsK.seg {w : World} {F : Nat → Prop} {v : Value} {X : List Ent} (h : EntsK w F v X) : EntsSeg w v X := by
  obtain ⟨es, h1, h2, _, _⟩ := h
  exact ents_seg h1 h2
theorem LogR.beside {w0 w : World} {F : Nat → Prop} {T : List Nat} {v : Value} {X : List Ent} (h : LogR w0 X v w) (ty : TyS w0 F T) : EntsK w F v X := by
  obtain ⟨es, h1, h2, h3⟩ := h
  refine ⟨es, h1.low (Nat.zero_le _), own_base h2 (Nat.zero_le _), fun k hk hf => ?_, fun e he k hk hf => ?_⟩
  · have := own_ge h2 k hk
    have := ty.lt hf
    omega
  · obtain ⟨j, hj, rfl⟩ := List.mem_iff_getElem.1 he
    have hl := h1.1
    have s := h1.2 j es[j] (X[j]'(by omega)) (List.getElem?_eq_getElem hj) (List.getElem?_eq_getElem (by omega))
    have := own_ge s.own k hk
    have := ty.lt hf
    omega
/-- one entry of a row of entries -/
theorem EntsSeg.at {w : World} {b off c : Nat} {X : List Ent} (h : EntsSeg w (.slice (some ⟨b, off, none⟩) X.length c) X) {j : Nat} (hj : j < X.length) :
    ∃ e : EV, EntSeg w e X[j] ∧ w.cell? ⟨b, off + j * 4, none⟩ = some e.1 ∧ w.cell? ⟨b, off + j * 4 + 1, none⟩ = some (.bool e.2.1) ∧ w.cell? ⟨b, off + j * 4 + 2, none⟩ = some e.2.2.1 ∧ w.cell? ⟨b, off + j * 4 + 3, none⟩ = some e.2.2.2 := by
  obtain ⟨es, h1, h2, h3⟩ := h
  obtain ⟨b', off', e, _, _, _, hc⟩ := seg_cells h2 (by omega)
  injection e with e; injection e with e1 e2
  subst e1; subst e2
  have hje : j < es.length := by omega
  obtain ⟨x0, x1, x2, x3⟩ := cEn_at es hje
  exact ⟨es[j], h3 j _ _ (List.getElem?_eq_getElem hje) (List.getElem?_eq_getElem hj), hc _ _ x0, hc _ _ x1, hc _ _ x2, hc _ _ x3⟩
def cbO : Ops := [⟨1, ⟨#[97]⟩, ⟨#[]⟩, 5⟩]
def cbE : Ent := ⟨cbO, false, [], []⟩
theorem cb_lit : entE cbE = 0 ∧ mapErr [] [0] = 0 ∧ runB [] cbO = true ∧ (runS [] cbO).length = 1 := by decide +kernel
theorem cbE_ok : EntOk cbE := ⟨⟨by decide, by decide, by decide⟩, ⟨by unfold opsSm; decide +kernel, by simp [cbE]⟩, cb_lit.1⟩
def cb0 : Cop := ⟨[], [0], [], 0, []⟩
set_option maxRecDepth 100000 in
set_option maxHeartbeats 4000000 in
theorem copiesBegun_any (w : World) : Calls Tryz.prog 58 #[] w fun e w' => e = .returned (.bool true) ∧ Ext w w' := by
  have E0 := (Ext.refl w).alloc (.cells #[.int .i64 0] 3)
  have b0 := heap_alloc_new w (.cells #[.int .i64 0] 3)
  obtain ⟨q1, q2, q3, q4⟩ := cb_lit
  have CN := hid (cnew_ok 1 2 (by omega) (by omega) (by omega) (by omega) (.agg #[.slice none 0 0, .slice (some ⟨w.heap.size, 0, none⟩) 1 1]) (.slice none 0 0) [] [0] [] (w.alloc (.cells #[.int .i64 0] 3)) ⟨_, _, rfl, Seg.nil _ _, seg_blk (xs := cI [0]) b0 rfl (Nat.le_refl _) (by simp [maxLen])⟩ (ok_of_mapErr q2) (by simp) (Seg.nil _ _) (store_ok (by decide +kernel)) (by simp))
  have HE0 := hid E0
  have hsz : w.heap.size ≤ (w.alloc (.cells #[.int .i64 0] 3)).heap.size := by simp
  clear E0 b0 q1 q2 q3 q4
  go_enter Tryz.func58, Tryz.ntmps58
  go_wp2_with fail
  refine (CN.out).mono ?_
  clear CN
  rintro e w1 ⟨b, F, rfl, hC, hF, E1⟩
  obtain ⟨A, hG⟩ := hC
  have c0 := hG.cells.1
  have HG := hid hG
  have HFl := hid (fun q hq => Nat.le_trans hsz (hF q hq))
  have HE1 := hid (HE0.out.trans E1)
  clear hG hF E1 HE0
  go_wp2_with fail
  have EA := (Ext.refl w1).alloc (.cells #[.int .i64 1, .string ⟨#[97]⟩, .string ⟨#[]⟩, .int .i64 5] 37)
  have bE := heap_alloc_new w1 (.cells #[.int .i64 1, .string ⟨#[97]⟩, .string ⟨#[]⟩, .int .i64 5] 37)
  have hG1 : CopG w1 F b A [[]] [[]] [cb0, cb0] := HG.out
  have AD := hid (cadd_one (hG1.ext EA) (.slice (some ⟨w1.heap.size, 0, none⟩) 1 1, false, .slice none 0 0, .slice none 0 0) cbE ⟨seg_blk (xs := cO cbO) bE rfl (Nat.le_refl _) (by simp [maxLen]), rfl, Seg.nil _ _, Seg.nil _ _⟩ cbE_ok (by simp))
  have HEA := hid EA
  clear hG1 HG EA bE
  go_wp2_with fail
  refine (AD.out).mono ?_
  clear AD c0
  rintro e w2 ⟨rfl, F2, ⟨A2, G2⟩, K2⟩
  have K2 := Kp.after HEA.out K2
  have G2 : CopG w2 F2 b A2 [[]] [[cbE]] [cb0, cb0] := G2
  obtain ⟨E2, HF2⟩ := K2.low HE1.out HFl.out
  have c0 := G2.cells.1
  have CL := hid (cclose_one G2)
  have HE2 := hid E2
  have HFl2 := hid HF2
  clear G2 K2 HE1 HFl E2 HF2 HEA
  go_wp2_with fail
  refine (CL.out).mono ?_
  clear CL c0
  rintro e w3 ⟨rfl, F3, hC3, K3⟩
  obtain ⟨E3, HF3⟩ := K3.low HE2.out HFl2.out
  have ST := cstep_ok (i := 1) (N := 0) (x := cbE) hC3 (by simp) ⟨ok_of_mapErr cb_lit.2.1, by simp [cb0], store_ok (by decide +kernel), by simp [cb0], rfl⟩ (by omega) (LogK.one (by intro x hx; simp at hx; subst hx; exact cbE_ok) (by simp)) (by rw [log_one]; rfl)
  have hq : okE ([cb0, cb0].getD 1 copZ) cbE = true := cb_lit.2.2.1
  rw [hq] at ST
  have ST := hid ST
  have HE3 := hid E3
  have HFl3 := hid HF3
  clear hC3 K3 E3 HF3 HE2 HFl2 hq
  go_wp2_with fail
  refine (ST.out).mono ?_
  clear ST
  rintro e w4 ⟨rfl, F4, ⟨A4, G4⟩, K4⟩
  obtain ⟨E4, HF4⟩ := K4.low HE3.out HFl3.out
  have AL := call_ok (i := 1) (N := 0) G4 (by simp [stepK]) (CopOk.do (c := cb0) ⟨ok_of_mapErr cb_lit.2.1, by simp [cb0], store_ok (by decide +kernel), by simp [cb0], rfl⟩ cbE_ok) (by have h : ((stepK [cb0, cb0] 1 cbE).getD 1 copZ).S.length = 1 := cb_lit.2.2.2; omega)
  have hq : ((stepK [cb0, cb0] 1 cbE).getD 1 copZ).S.length = 1 := cb_lit.2.2.2
  rw [hq] at AL
  have AL := hid AL
  have HE4 := hid E4
  clear G4 K4 E4 HF4 HE3 HFl3 hq
  go_wp2_with fail
  refine (AL.out).mono ?_
  clear AL
  rintro e w5 ⟨v5, rfl, o5, E5⟩
  obtain ⟨a5, c5, rfl⟩ := own_form o5
  clear o5
  go_wp2
  go_ret
  exact ⟨rfl, HE4.out.trans E5⟩
end Go.Proofs.YtimchedebcoohaaGreat
