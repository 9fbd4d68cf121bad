/- Contracts and lemmas for the proof of TopInputs; each theorem states its own conditions. -/
import Derived.Test.YtnepdfpooobmcaaGreatQTopInputsbx
import Derived.Test.YtnepdfpooobmcaaGreatQTopInputsbh
import Derived.Test.YtnepdfpooobmcaaGreatQTopInputsau
import Derived.Test.YtnepdfpooobmcaaGreatQTopInputsbd
import Derived.Test.YtnepdfpooobmcaaGreatQTopInputsav
import Derived.Test.YtnepdfpooobmcaaGreatQTopInputsbw
import Derived.Test.YtnepdfpooobmcaaGreatQTopInputsbl
set_option linter.unusedVariables false
set_option linter.unusedSimpArgs false
/- Contracts and lemmas for the proofs of this seat; each theorem states its own conditions. -/
namespace Go.Proofs.YtnepdfpooobmcaaGreat
open Go.RowKit
/-! TopInputs: two copies beside each other, and deeds beside them -/
structure TIs (w wr : World) (F G : Nat → Prop) (A B : CopA) (b g : Nat) (c c' : Cop) (ja jb : Nat) (cl : List (List Bat)) (op : List Bat) (d : Nat) (cl' : List (List Bat)) (op' : List Bat) (d' : Nat) (vD : Value) (vs : List Value) (D : List Ops) : Prop where
  cop : TwoC wr F G b g A B cl op (KD c (logM cl) 1 fun _ => d) cl' op' (KD c' (logM cl') 1 fun _ => d')
  bda : BdM 3 ja ja cl op
  oka : OkM cl op
  bdb : BdM 3 jb jb cl' op'
  okb : OkM cl' op'
  ca : CopOk 30 c ∧ c.dn = 0
  cb : CopOk 30 c' ∧ c'.dn = 0
  dla : d ≤ (logM cl).length
  dlb : d' ≤ (logM cl').length
  ds : DsK wr vD vs D
  E : Ext w wr
  low : ∀ q, F q → w.heap.size ≤ q
  low' : ∀ q, G q → w.heap.size ≤ q
def TI (w : World) (b g : Nat) (c c' : Cop) (ja jb : Nat) (cl : List (List Bat)) (op : List Bat) (d : Nat) (cl' : List (List Bat)) (op' : List Bat) (d' : Nat) (vD : Value) (vs : List Value) (D : List Ops) (wr : World) : Prop := ∃ F G A B, TIs w wr F G A B b g c c' ja jb cl op d cl' op' d' vD vs D
section
variable {w wr : World} {b g : Nat} {c c' : Cop} {ja jb : Nat} {cl : List (List Bat)} {op : List Bat} {d : Nat} {cl' : List (List Bat)} {op' : List Bat} {d' : Nat} {vD : Value} {vs : List Value} {D : List Ops}
theorem TI.swap (h : TI w b g c c' ja jb cl op d cl' op' d' vD vs D wr) : TI w g b c' c jb ja cl' op' d' cl op d vD vs D wr := by
  obtain ⟨F, G, A, B, h⟩ := h
  exact ⟨G, F, B, A, h.cop.swap, h.bdb, h.okb, h.bda, h.oka, h.cb, h.ca, h.dlb, h.dla, h.ds, h.E, h.low', h.low⟩
theorem TI.ext (h : TI w b g c c' ja jb cl op d cl' op' d' vD vs D wr) {w' : World} (E : Ext wr w') : TI w b g c c' ja jb cl op d cl' op' d' vD vs D w' := by
  obtain ⟨F, G, A, B, h⟩ := h
  exact ⟨F, G, A, B, { h with cop := h.cop.ext E, ds := h.ds.ext E, E := h.E.trans E }⟩
theorem TI.E (h : TI w b g c c' ja jb cl op d cl' op' d' vD vs D wr) : Ext w wr := by
  obtain ⟨F, G, A, B, h⟩ := h
  exact h.E
theorem TI.ds (h : TI w b g c c' ja jb cl op d cl' op' d' vD vs D wr) : DsK wr vD vs D := by
  obtain ⟨F, G, A, B, h⟩ := h
  exact h.ds
theorem TI.more (h : TI w b g c c' ja jb cl op d cl' op' d' vD vs D wr) {jc : Nat} (hj : jb ≤ jc) : TI w b g c c' ja jc cl op d cl' op' d' vD vs D wr := by
  obtain ⟨F, G, A, B, h⟩ := h
  exact ⟨F, G, A, B, { h with bdb := h.bdb.mono hj hj }⟩
theorem TIs.turn {F G : Nat → Prop} {A B : CopA} (h : TIs w wr F G A B b g c c' ja jb cl op d cl' op' d' vD vs D) {w' : World} {F' : Nat → Prop} {jc : Nat} {cl2 : List (List Bat)} {op2 : List Bat} {d2 : Nat} (t : CopE A w' F' b cl2 op2 (KD c (logM cl2) 1 fun _ => d2)) (k : Kp F wr w' F') (bd : BdM 3 jc jc cl2 op2) (ok : OkM cl2 op2) (dl : d2 ≤ (logM cl2).length) : TI w b g c c' jc jb cl2 op2 d2 cl' op' d' vD vs D w' := by
  obtain ⟨A', t'⟩ := h.cop.turn t k
  exact ⟨F', G, A', B, t', bd, ok, h.bdb, h.okb, h.ca, h.cb, dl, h.dlb, h.ds.kp h.cop.one.ty k, (k.low h.E h.low).1, (k.low h.E h.low).2, h.low'⟩
theorem kd_one (c : Cop) (X : List Ent) {e e' : Nat → Nat} (h : e 0 = e' 0) : KD c X 1 e = KD c X 1 e' := by simp [KD, h]
/-- a deed comes at an input -/
theorem TI.add (h : TI w b g c c' ja jb cl op d cl' op' d' vD vs D wr) (hj : ja ≤ 55) {i : Nat} (hi : i < 3) {k : Nat} (hk : k < D.length) (hg : DeedG (D.getD k [])) : ∃ bm, wr.cell? ⟨b, 0, none⟩ = some (.pointer (some ⟨bm, 0, none⟩)) ∧ ∀ w', Ext wr w' → Calls Tryz.prog 11 #[.pointer (some ⟨bm, 0, none⟩), .int .i64 i, evV (vs.getD k (.slice none 0 0), false, .slice none 0 0, .slice none 0 0)] w' fun r w2 => r = .returned (.int .i64 0) ∧ TI w b g c c' (ja + 1) jb cl (addM op i (dE (D.getD k []))) d cl' op' d' vD vs D w2 := by
  obtain ⟨F, G, A, B, h⟩ := h
  refine ⟨A.bm, h.cop.one.cells.1, fun w' q => ?_⟩
  have hk' : k < vs.length := by rw [h.ds.len]; exact hk
  have ow := h.ds.own k (vs.getD k (.slice none 0 0)) (D.getD k []) (by simp [hk']) (by simp [hk])
  have hxo := deedG_ok hg
  refine (cadd_anyE (h.cop.one.ext q) h.bda hj hi (vs.getD k (.slice none 0 0), false, .slice none 0 0, .slice none 0 0) ⟨D.getD k [], false, [], []⟩ ⟨(own_seg ow).ext q, rfl, Seg.nil _ _, Seg.nil _ _⟩ hxo).mono ?_
  rintro r w2 ⟨rfl, F', hC, K⟩
  refine ⟨rfl, h.turn hC (Kp.after q K) ?_ ?_ h.dla⟩
  · exact (h.bda.add hi (plainE_ok hxo).sm).mono (Nat.le_refl _) (by omega)
  · exact h.oka.add (by rw [h.bda.lo]; exact hi) (plainE_ok hxo)
/-- an input closed -/
theorem TI.close (h : TI w b g c c' ja jb cl op d cl' op' d' vD vs D wr) (hj : ja ≤ 55) {i : Nat} (hi : i < 3) : ∃ bm, wr.cell? ⟨b, 0, none⟩ = some (.pointer (some ⟨bm, 0, none⟩)) ∧ Calls Tryz.prog 12 #[.pointer (some ⟨bm, 0, none⟩), .int .i64 i] wr fun r w2 => (∃ m : Nat, r = .returned (.tuple #[.int .i64 m, .int .i64 0])) ∧ TI w b g c c' (ja + 1) jb (clsM cl i (op.getD i [])) (op.set i []) d cl' op' d' vD vs D w2 := by
  obtain ⟨F, G, A, B, h⟩ := h
  refine ⟨A.bm, h.cop.one.cells.1, ?_⟩
  refine (cclose_anyE h.cop.one h.bda hj hi).mono ?_
  rintro r w2 ⟨hm, F', hC, K⟩
  obtain ⟨l, hl, _⟩ := cls_more (cl := cl) (i := i) (by rw [h.bda.lc]; exact hi) (op.getD i [])
  refine ⟨hm, h.turn ?_ K ((h.bda.cls hi).mono (by omega) (Nat.le_refl _)) (h.oka.cls (by rw [h.bda.lc]; exact hi) (by rw [h.bda.lc, h.bda.lo])) ?_⟩
  · rw [hl, kd_app c _ l 1 (fun _ _ => h.dla)]; exact hC
  · rw [hl, List.length_append]; have := h.dla; omega
theorem TIs.one {F G : Nat → Prop} {A B : CopA} (h : TIs w wr F G A B b g c c' ja jb cl op d cl' op' d' vD vs D) (hj : ja ≤ 100) : OneX' c cl := ⟨h.ca.1, h.ca.2, logK_of h.bda hj (by omega) h.oka⟩
/-- a copy goes on, or waits -/
theorem TI.step (h : TI w b g c c' ja jb cl op d cl' op' d' vD vs D wr) (hj : ja ≤ 55) (hd : d < (logM cl).length) : ∃ r, Calls Tryz.prog 14 #[.pointer (some ⟨b, 0, none⟩), .int .i64 0] wr fun e w2 => e = .returned (.tuple #[.bool r, .int .i64 0]) ∧ TI w b g c c' ja jb cl op (d + 1) cl' op' d' vD vs D w2 := by
  obtain ⟨F, G, A, B, h⟩ := h
  refine ⟨okE (goC c (logM cl) d) (logM cl)[d], (step_kgE (i := 0) (n := 1) (h.one (by omega)) h.cop.one (by omega) hd).mono ?_⟩
  rintro e w2 ⟨h1, F', hC, K⟩
  exact ⟨h1, h.turn (by rw [kd_one c _ (e' := upD (fun _ => d) 0 (d + 1)) (by simp [upD])]; exact hC) K h.bda h.oka hd⟩
theorem TI.wait (h : TI w b g c c' ja jb cl op d cl' op' d' vD vs D wr) (hj : ja ≤ 55) (hd : d = (logM cl).length) : Calls Tryz.prog 14 #[.pointer (some ⟨b, 0, none⟩), .int .i64 0] wr fun e w2 => e = .returned (.tuple #[.bool false, .int .i64 6]) ∧ TI w b g c c' ja jb cl op d cl' op' d' vD vs D w2 := by
  have h0 := h
  obtain ⟨F, G, A, B, h⟩ := h
  refine (swait_kg (i := 0) (n := 1) (h.one (by omega)) ⟨A, h.cop.one⟩ (by omega) hd).mono ?_
  rintro e w2 ⟨h1, E⟩
  exact ⟨h1, h0.ext E⟩
theorem TI.all (h : TI w b g c c' ja jb cl op d cl' op' d' vD vs D wr) (hj : ja ≤ 55) :
    Calls Tryz.prog 15 #[.pointer (some ⟨b, 0, none⟩), .int .i64 0] wr fun e w' => ∃ v', e = .returned (.tuple #[v', .int .i64 0]) ∧ w'.ownsRow wr.heap.size 60 2 v' (goC c (logM cl) d).S.length (cP (goC c (logM cl) d).S) ∧ Ext wr w' := by
  obtain ⟨F, G, A, B, h⟩ := h
  exact all_kg (i := 0) (n := 1) (h.one (by omega)) ⟨A, h.cop.one⟩ (by omega) h.dla
theorem TI.done (h : TI w b g c c' ja jb cl op d cl' op' d' vD vs D wr) (hj : ja ≤ 55) :
    Calls Tryz.prog 16 #[.pointer (some ⟨b, 0, none⟩), .int .i64 0] wr fun e w' => ∃ v', e = .returned (.tuple #[v', .int .i64 0]) ∧ w'.ownsRow wr.heap.size 4 1 v' (goC c (logM cl) d).ok.length ((goC c (logM cl) d).ok.map Value.bool) ∧ Ext wr w' := by
  obtain ⟨F, G, A, B, h⟩ := h
  exact done_kg (i := 0) (n := 1) (h.one (by omega)) ⟨A, h.cop.one⟩ (by omega) h.dla
end
/-- the start -/
theorem TI.start {w w0 w1 w2 w3 : World} {F G : Nat → Prop} {b g : Nat} {c c' : Cop} (h : CopN w0 w1 F b 3 1 c) (E : Ext w1 w2) (h' : CopN w2 w3 G g 3 1 c') (hF : ∀ q, F q → w.heap.size ≤ q) (hG : ∀ q, G q → w2.heap.size ≤ q) (E3 : Ext w2 w3) (Ew : Ext w w2) (hc : CopOk 30 c ∧ c.dn = 0) (hc' : CopOk 30 c' ∧ c'.dn = 0) {vD : Value} {vs : List Value} {D : List Ops} (ds : DsK w3 vD vs D) :
    TI w b g c c' 0 0 (List.replicate 3 []) (List.replicate 3 []) 0 (List.replicate 3 []) (List.replicate 3 []) 0 vD vs D w3 := by
  obtain ⟨A, B, t⟩ := TwoC.new (h.ext E) E3 h' hG
  refine ⟨F, G, A, B, ?_, BdM.nil (by omega), OkM.nil 3, BdM.nil (by omega), OkM.nil 3, hc, hc', Nat.zero_le _, Nat.zero_le _, ds, Ew.trans E3, hF, fun q hq => Nat.le_trans Ew.size' (hG q hq)⟩
  rw [kd_rep c (logM (List.replicate 3 [])) 1, kd_rep c' (logM (List.replicate 3 [])) 1] at t
  exact t
end Go.Proofs.YtnepdfpooobmcaaGreat

/- Contracts and lemmas for the proofs of this seat; each theorem states its own conditions. -/
namespace Go.Proofs.YtnepdfpooobmcaaGreat
open Go.RowKit
end Go.Proofs.YtnepdfpooobmcaaGreat

/- Contracts and lemmas for the proofs of this seat; each theorem states its own conditions. -/
namespace Go.Proofs.YtnepdfpooobmcaaGreat
open Go.RowKit
/-! what lies beside copies that go on; rotop.begun -/
structure OneK (w : World) (F : Nat → Prop) (B bM : Nat) (sv ov u1 u2 : Value) (c : Cop) : Prop where
  one : OneS w B bM sv ov u1 u2 c
  own : Off F u2
  ok : Off F ov
theorem OneK.ext {w w' : World} {F : Nat → Prop} {B bM : Nat} {sv ov u1 u2 : Value} {c : Cop} (h : OneK w F B bM sv ov u1 u2 c) (E : Ext w w') : OneK w' F B bM sv ov u1 u2 c := ⟨h.one.ext E, h.own, h.ok⟩
theorem OneK.kp {w w' : World} {F F' : Nat → Prop} {B bM : Nat} {sv ov u1 u2 : Value} {c : Cop} (h : OneK w F B bM sv ov u1 u2 c) (ty : TyS w F cTy) (k : Kp F w w' F') : OneK w' F' B bM sv ov u1 u2 c :=
  ⟨⟨k.own h.one.s (ty.off h.one.s (by decide)), k.heap h.one.box (tyS_not ty h.one.box (by decide)), k.own h.one.cuts (ty.off h.one.cuts (by decide)), k.own h.one.own h.own, k.own h.one.ok h.ok⟩, k.off h.one.own h.own, k.off h.one.ok h.ok⟩
theorem rb_lit : keyB ⟨#[97]⟩ = true ∧ (withP [] ⟨#[97]⟩ 1).length = 1 := by decide +kernel
set_option maxRecDepth 100000 in
theorem rbegun_any (w : World) : Calls Tryz.prog 6 #[] w fun e w' => e = .returned (.bool true) ∧ Ext w w' := by
  have PO := put_ok' (.slice none 0 0) [] ⟨#[97]⟩ 1 w (Seg.nil _ _) (by simp) (store_ok (by decide +kernel)) rb_lit.1 (by omega)
  rw [rb_lit.2] at PO
  have PO := hid PO
  go_enter Tryz.func6, Tryz.ntmps6
  go_wp2_with fail
  refine (PO.out).mono ?_
  clear PO
  rintro e w1 ⟨v', rfl, o, E⟩
  obtain ⟨a, c, rfl⟩ := own_form o
  clear o
  go_wp2
  go_ret
  exact ⟨rfl, E⟩
end Go.Proofs.YtnepdfpooobmcaaGreat
