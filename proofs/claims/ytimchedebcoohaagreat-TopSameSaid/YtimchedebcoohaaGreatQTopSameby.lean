/- Contracts and lemmas for the proof of TopSame; each theorem states its own conditions. -/
import Derived.Test.YtimchedebcoohaaGreatQTopSamebg
import Derived.Test.YtimchedebcoohaaGreatQTopSameau
import Derived.Test.YtimchedebcoohaaGreatQTopSamebc
import Derived.Test.YtimchedebcoohaaGreatQTopSameav
import Derived.Test.YtimchedebcoohaaGreatQTopSamebw
import Derived.Test.YtimchedebcoohaaGreatQTopSamebk
set_option linter.unusedVariables false
set_option linter.unusedSimpArgs false
/- Contracts and lemmas for the proofs of this seat; each theorem states its own conditions. -/
namespace Go.Proofs.YtimchedebcoohaaGreat
open Go.RowKit
/-- the pairs of the owners below i -/
def uptoP (C : List ByteArray) (O : List Int) (l : Prs) (i : Nat) : Prs := l.filter fun x => decide (whose C O x.1 < (i : Int))
theorem upto_zero {C : List ByteArray} {O : List Int} (h : MapOk C O) (l : Prs) : uptoP C O l 0 = [] := by
  unfold uptoP
  rw [List.filter_eq_nil_iff]
  intro x _
  have := (whose_rng h x.1).1
  simp; omega
theorem upto_four {C : List ByteArray} {O : List Int} (h : MapOk C O) (l : Prs) : uptoP C O l 4 = l := by
  unfold uptoP
  rw [List.filter_eq_self]
  intro x _
  have := (whose_rng h x.1).2
  simp; omega
theorem upto_len (C : List ByteArray) (O : List Int) (l : Prs) (i : Nat) : (uptoP C O l i).length + (partP C O l i).length = (uptoP C O l (i + 1)).length := by
  unfold uptoP partP
  induction l with
  | nil => rfl
  | cons x l ih =>
    simp only [List.filter_cons]
    by_cases h1 : whose C O x.1 < (i : Int)
    · have h2 : (whose C O x.1 != (i : Int)) = true := by simp; omega
      have h3 : whose C O x.1 < ((i + 1 : Nat) : Int) := by omega
      simp only [h2, decide_eq_true h3, decide_eq_true h1]
      simp at ih ⊢; omega
    · by_cases h2 : whose C O x.1 = (i : Int)
      · have h3 : whose C O x.1 < ((i + 1 : Nat) : Int) := by omega
        have h4 : (whose C O x.1 != (i : Int)) = false := by simp [h2]
        simp only [h4, decide_eq_true h3, decide_eq_false h1]
        simp at ih ⊢; omega
      · have h3 : ¬ whose C O x.1 < ((i + 1 : Nat) : Int) := by omega
        have h4 : (whose C O x.1 != (i : Int)) = true := by simp [h2]
        simp only [h4, decide_eq_false h3, decide_eq_false h1]
        simp at ih ⊢; omega
theorem upto_join {C : List ByteArray} {O : List Int} {l : Prs} (h : StoreOk l) (i : Nat) : apartB (uptoP C O l i) (partP C O l i) = true ∧ joinP (uptoP C O l i) (partP C O l i) = uptoP C O l (i + 1) := by
  have ou : StoreOk (uptoP C O l i) := storeOk_filter h _
  have op : StoreOk (partP C O l i) := storeOk_filter h _
  have oq : StoreOk (uptoP C O l (i + 1)) := storeOk_filter h _
  have vu := fun k => val_filter h.srt (fun x => decide (whose C O x.1 < (i : Int))) k
  have vp := fun k => val_filter h.srt (fun x => !(whose C O x.1 != (i : Int))) k
  have vq := fun k => val_filter h.srt (fun x => decide (whose C O x.1 < ((i + 1 : Nat) : Int))) k
  refine ⟨apart_of op.srt op.nz fun k hk => ?_, store_ext (join_okS ou op) oq fun k => ?_⟩
  · have h1 := vp k
    have h2 := vu k
    change valP (partP C O l i) k = _ at h1
    change valP (uptoP C O l i) k = _ at h2
    rw [h1] at hk
    rw [h2]
    dsimp only at hk ⊢
    split at hk
    · rename_i e
      have e : whose C O k = (i : Int) := by simpa using e
      rw [if_neg (by simp; omega)]
    · exact absurd rfl hk
  · have h1 := vp k
    have h2 := vu k
    have h3 := vq k
    change valP (partP C O l i) k = _ at h1
    change valP (uptoP C O l i) k = _ at h2
    change valP (uptoP C O l (i + 1)) k = _ at h3
    rw [val_join ou.srt op.srt op.nz, h1, h2, h3]
    dsimp only
    by_cases e : whose C O k = (i : Int)
    · have e1 : (!(whose C O k != (i : Int))) = true := by simp [e]
      have e2 : decide (whose C O k < ((i + 1 : Nat) : Int)) = true := by simp; omega
      have e3 : decide (whose C O k < (i : Int)) = false := by simp; omega
      rw [e1, e2, e3]
      simp
      intro h; exact h.symm
    · have e1 : (!(whose C O k != (i : Int))) = false := by simp [e]
      rw [e1]
      by_cases e2 : whose C O k < (i : Int)
      · have e3 : decide (whose C O k < ((i + 1 : Nat) : Int)) = true := by simp; omega
        rw [e3, decide_eq_true e2]; simp
      · have e3 : decide (whose C O k < ((i + 1 : Nat) : Int)) = false := by simp; omega
        rw [e3, decide_eq_false e2]; simp
end Go.Proofs.YtimchedebcoohaaGreat

/- Contracts and lemmas for the proofs of this seat; each theorem states its own conditions. -/
namespace Go.Proofs.YtimchedebcoohaaGreat
open Go.RowKit
/-! what lies beside copies that go on; rotop.begun -/
structure OneK (w : World) (F : Nat → Prop) (B bM : Nat) (sv ov u1 u2 : Value) (c : Cop) : Prop where
  one : OneS w B bM sv ov u1 u2 c
  own : Off F u2
  ok : Off F ov
theorem OneK.ext {w w' : World} {F : Nat → Prop} {B bM : Nat} {sv ov u1 u2 : Value} {c : Cop} (h : OneK w F B bM sv ov u1 u2 c) (E : Ext w w') : OneK w' F B bM sv ov u1 u2 c := ⟨h.one.ext E, h.own, h.ok⟩
theorem OneK.kp {w w' : World} {F F' : Nat → Prop} {B bM : Nat} {sv ov u1 u2 : Value} {c : Cop} (h : OneK w F B bM sv ov u1 u2 c) (ty : TyS w F cTy) (k : Kp F w w' F') : OneK w' F' B bM sv ov u1 u2 c :=
  ⟨⟨k.own h.one.s (ty.off h.one.s (by decide)), k.heap h.one.box (tyS_not ty h.one.box (by decide)), k.own h.one.cuts (ty.off h.one.cuts (by decide)), k.own h.one.own h.own, k.own h.one.ok h.ok⟩, k.off h.one.own h.own, k.off h.one.ok h.ok⟩
theorem EntsK.at' {w : World} {F : Nat → Prop} {b off c : Nat} {X : List Ent} (h : EntsK w F (.slice (some ⟨b, off, none⟩) X.length c) X) {j : Nat} (hj : j < X.length) :
    ∃ e : EV, EntSt 0 w e X[j] ∧ Off F e.2.2.2 ∧ w.cell? ⟨b, off + j * 4, none⟩ = some e.1 ∧ w.cell? ⟨b, off + j * 4 + 1, none⟩ = some (.bool e.2.1) ∧ w.cell? ⟨b, off + j * 4 + 2, none⟩ = some e.2.2.1 ∧ w.cell? ⟨b, off + j * 4 + 3, none⟩ = some e.2.2.2 := by
  obtain ⟨es, h1, h2, _, h4⟩ := h
  obtain ⟨b', off', e, _, _, _, hc⟩ := seg_cells (own_seg h2) (by omega)
  injection e with e; injection e with e1 e2
  subst e1; subst e2
  have hje : j < es.length := by have := h1.1; omega
  obtain ⟨x0, x1, x2, x3⟩ := cEn_at es hje
  exact ⟨es[j], h1.2 j _ _ (List.getElem?_eq_getElem hje) (List.getElem?_eq_getElem hj), h4 _ (List.getElem_mem hje), hc _ _ x0, hc _ _ x1, hc _ _ x2, hc _ _ x3⟩
/-- how much a copy has before it -/
def muC (b i len : Nat) (w : World) : Nat := match w.cell? ⟨b, 2, none⟩ with
  | some (.slice (some a) _ _) => match w.cell? ⟨a.block, i, none⟩ with
    | some (.int _ z) => len - z.toNat
    | _ => 0
  | _ => 0
theorem muC_eq {w : World} {F : Nat → Prop} {b : Nat} {cl : List (List Bat)} {op : List Bat} {K : List Cop} (h : CopSt w F b cl op K) {i : Nat} (hi : i < K.length) (len : Nat) : muC b i len w = len - (K.getD i copZ).dn := by
  obtain ⟨A, h⟩ := h
  unfold muC
  rw [h.cells.2.2.1]
  dsimp only
  rw [(h.cellD hi).1]
  simp
theorem muC_kd {c : Cop} {cl : List (List Bat)} {op : List Bat} (hX : OneX' c cl) {n : Nat} {d : Nat → Nat} {w : World} {F : Nat → Prop} {b : Nat} (h : CopSt w F b cl op (KD c (logM cl) n d)) {i : Nat} (hi : i < n) (hd : d i ≤ (logM cl).length) : muC b i (logM cl).length w = (logM cl).length - d i := by
  rw [muC_eq h (by rw [kd_len]; exact hi), kd_at _ _ _ hi]
  obtain ⟨_, g2, _, _, _⟩ := goC_le hX.ok hX.dn hX.log.ok hX.log.len (by omega) hd
  rw [g2]
theorem rb_lit : keyB ⟨#[97]⟩ = true ∧ (withP [] ⟨#[97]⟩ 1).length = 1 := by decide +kernel
set_option maxRecDepth 100000 in
theorem rbegun_any (w : World) : Calls Tryz.prog 45 #[] w fun e w' => e = .returned (.bool true) ∧ Ext w w' := by
  have PO := put_ok' (.slice none 0 0) [] ⟨#[97]⟩ 1 w (Seg.nil _ _) (by simp) (store_ok (by decide +kernel)) rb_lit.1 (by omega)
  rw [rb_lit.2] at PO
  have PO := hid PO
  go_enter Tryz.func45, Tryz.ntmps45
  go_wp2_with fail
  refine (PO.out).mono ?_
  clear PO
  rintro e w1 ⟨v', rfl, o, E⟩
  obtain ⟨a, c, rfl⟩ := own_form o
  clear o
  go_wp2
  go_ret
  exact ⟨rfl, E⟩
end Go.Proofs.YtimchedebcoohaaGreat
