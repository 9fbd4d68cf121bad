/- Contracts and lemmas for the proof of MergePlays; each theorem states its own conditions. -/
import Derived.Test.YtddghaoejnbkaaaDoorQMergePlaysae
import Derived.Test.YtddghaoejnbkaaaDoorQMergePlaysbc
import Derived.Test.YtddghaoejnbkaaaDoorQMergePlaysbe
set_option linter.unusedVariables false
set_option linter.unusedSimpArgs false
/- Contracts and lemmas for the proofs of this seat; each theorem states its own conditions. -/
namespace Go.Proofs.YtddghaoejnbkaaaDoor
open Go.RowKit
/-! entries that lie in blocks of which something is known -/
def InP (P : Nat → Prop) (v : Value) : Prop := ∀ a n c, v = .slice (some a) n c → 0 < n → P a.block
theorem InP.nil (P : Nat → Prop) : InP P (.slice none 0 0) := fun a n c h => by cases h
theorem InP.mono {P Q : Nat → Prop} {v : Value} (h : InP P v) (k : ∀ q, P q → Q q) : InP Q v := fun a n c e q => k _ (h a n c e q)
/-- what is of P stands -/
def SameP (P : Nat → Prop) (w w' : World) : Prop := ∀ q o, P q → w.heap[q]? = some o → w'.heap[q]? = some o
theorem SameP.of_ext {P : Nat → Prop} {w w' : World} (E : Ext w w') : SameP P w w' := fun _ _ _ h => E.heap h
theorem SameP.trans {P : Nat → Prop} {a b c : World} (h : SameP P a b) (k : SameP P b c) : SameP P a c := fun q o p e => k q o p (h q o p e)
theorem SameP.of_kp {P S S' : Nat → Prop} {w w' : World} (k : Kp S w w' S') (dis : ∀ q, P q → ¬ S q) : SameP P w w' := fun q _ p e => k.heap e (dis q p)
theorem cell_same {w w' : World} {a : Addr} {u : Value} (h : w.cell? a = some u) (s : ∀ o, w.heap[a.block]? = some o → w'.heap[a.block]? = some o) : w'.cell? a = some u := by
  cases hb : w.heap[a.block]? with
  | none => unfold World.cell? at h; rw [hb] at h; cases h
  | some o =>
    have := s o hb
    unfold World.cell? at h ⊢
    rw [this]
    rw [hb] at h
    exact h
theorem Seg.same {P : Nat → Prop} {w w' : World} {v : Value} {sz n : Nat} {xs : List Value} (h : Seg w v sz n xs) (hP : InP P v) (s : SameP P w w') : Seg w' v sz n xs := by
  obtain ⟨h0, a, cap, h1, h2, h3, h4⟩ := h
  refine ⟨h0, a, cap, h1, h2, h3, fun hn => ?_⟩
  obtain ⟨b, off, h5, h6⟩ := h4 hn
  subst h5
  have hb : P b := hP ⟨b, off, none⟩ n cap h1 hn
  exact ⟨b, off, rfl, fun j u hu => cell_same (h6 j u hu) fun o ho => s b o hb ho⟩
theorem Seg.inP {w : World} {v : Value} {sz n : Nat} {xs : List Value} (h : Seg w v sz n xs) (hsz : 0 < sz) : InP (fun q => q < w.heap.size) v := by
  obtain ⟨h0, a, cap, h1, h2, h3, h4⟩ := h
  intro a' n' c' e hn
  rw [h1] at e
  injection e with e1 e2 e3
  subst e2
  obtain ⟨b, off, h5, h6⟩ := h4 hn
  rw [h5] at e1
  injection e1 with e1
  subst e1
  have hx : 0 < xs.length := by rw [h0]; exact Nat.mul_pos hn hsz
  exact World.block_lt_of_cell? w _ (h6 0 xs[0] (List.getElem?_eq_getElem hx))
structure EntP (w : World) (P : Nat → Prop) (e : EV) (x : Ent) : Prop where
  seg : EntSeg w e x
  o : InP P e.1
  c : InP P e.2.2.1
  w : InP P e.2.2.2
theorem EntSeg.inP {w : World} {e : EV} {x : Ent} (h : EntSeg w e x) : EntP w (fun q => q < w.heap.size) e x := ⟨h, h.ops.inP (by decide), h.cuts.inP (by decide), h.own.inP (by decide)⟩
theorem EntP.same {P : Nat → Prop} {w w' : World} {e : EV} {x : Ent} (h : EntP w P e x) (s : SameP P w w') : EntP w' P e x := ⟨⟨h.seg.ops.same h.o s, h.seg.im, h.seg.cuts.same h.c s, h.seg.own.same h.w s⟩, h.o, h.c, h.w⟩
theorem EntP.mono {P Q : Nat → Prop} {w : World} {e : EV} {x : Ent} (h : EntP w P e x) (k : ∀ q, P q → Q q) : EntP w Q e x := ⟨h.seg, h.o.mono k, h.c.mono k, h.w.mono k⟩
def EntsP (w : World) (P : Nat → Prop) (v : Value) (X : List Ent) : Prop := ∃ es : List EV, es.length = X.length ∧ Seg w v 4 X.length (cEn es) ∧ InP P v ∧ ∀ (j : Nat) (e : EV) (x : Ent), es[j]? = some e → X[j]? = some x → EntP w P e x
theorem EntsP.seg {P : Nat → Prop} {w : World} {v : Value} {X : List Ent} (h : EntsP w P v X) : EntsSeg w v X := by
  obtain ⟨es, h1, h2, _, h4⟩ := h
  exact ⟨es, h1, h2, fun j e x a b => (h4 j e x a b).seg⟩
theorem EntsP.same {P : Nat → Prop} {w w' : World} {v : Value} {X : List Ent} (h : EntsP w P v X) (s : SameP P w w') : EntsP w' P v X := by
  obtain ⟨es, h1, h2, h3, h4⟩ := h
  exact ⟨es, h1, h2.same h3 s, h3, fun j e x a b => (h4 j e x a b).same s⟩
theorem EntsP.mono {P Q : Nat → Prop} {w : World} {v : Value} {X : List Ent} (h : EntsP w P v X) (k : ∀ q, P q → Q q) : EntsP w Q v X := by
  obtain ⟨es, h1, h2, h3, h4⟩ := h
  exact ⟨es, h1, h2, h3.mono k, fun j e x a b => (h4 j e x a b).mono k⟩
theorem EntsP.nil (w : World) (P : Nat → Prop) : EntsP w P (.slice none 0 0) [] := ⟨[], rfl, Seg.nil _ _, InP.nil P, fun j e x h => by simp at h⟩
/-! roref.Merge in memory: of each input a row of its own, which holds its batches -/
def rTy : List Nat := [56, 52, 23]
structure RMG (w : World) (S P : Nat → Prop) (bm : Nat) (vB : Value) (us : List Value) (bs : List (List Bat)) : Prop where
  ln : us.length = bs.length
  n0 : 0 < bs.length
  n4 : bs.length ≤ 4
  box : w.heap[bm]? = some (.cells #[vB] 56 (0, 0))
  outer : w.ownsRow 0 52 1 vB us.length us
  rows : ∀ (i : Nat) (u : Value) (l : List Bat), us[i]? = some u → bs[i]? = some l → ∃ ts : List Value, w.ownsRow 0 23 1 u l.length ts ∧ (∀ (k : Nat) (t : Value) (X : Bat), ts[k]? = some t → l[k]? = some X → EntsP w P t X) ∧ 1 ≤ l.length ∧ l.length ≤ 61 ∧ ∀ k, u.ownBlock = some k → S k
  apart : ∀ (i j : Nat) (u v : Value), us[i]? = some u → us[j]? = some v → i ≠ j → ∀ k, u.ownBlock = some k → v.ownBlock ≠ some k
  sb : S bm
  so : ∀ k, vB.ownBlock = some k → S k
  ty : TyS w S rTy
  dis : ∀ q, P q → ¬ S q
  pl : ∀ q, P q → q < w.heap.size
def RMS (w : World) (S P : Nat → Prop) (bm : Nat) (bs : List (List Bat)) : Prop := ∃ vB us, RMG w S P bm vB us bs
theorem RMG.same {w w' : World} {S P : Nat → Prop} {bm : Nat} {vB : Value} {us : List Value} {bs : List (List Bat)} (h : RMG w S P bm vB us bs) (s : SameP (fun q => S q ∨ P q) w w') : RMG w' S P bm vB us bs := by
  have hS : ∀ {q : Nat} {o : Obj}, S q → w.heap[q]? = some o → w'.heap[q]? = some o := fun a b => s _ _ (.inl a) b
  have ow : ∀ {B e sz n : Nat} {v : Value} {xs : List Value}, w.ownsRow B e sz v n xs → (∀ k, v.ownBlock = some k → S k) → w'.ownsRow B e sz v n xs := fun ho hv => by
    refine ⟨ho.1, ?_⟩
    rcases ho.2 with hn | ⟨b, cap, cur, rfl, hb, hg, rest⟩
    · exact .inl hn
    · exact .inr ⟨b, cap, cur, rfl, hb, hS (hv b rfl) hg, rest⟩
  refine ⟨h.ln, h.n0, h.n4, hS h.sb h.box, ow h.outer h.so, fun i u l hu hl => ?_, h.apart, h.sb, h.so, fun k hk => ?_, h.dis, fun q hq => ?_⟩
  · obtain ⟨ts, h1, h2, h3, h4, h5⟩ := h.rows i u l hu hl
    exact ⟨ts, ow h1 h5, fun k t X a b => (h2 k t X a b).same fun q o p e => s q o (.inr p) e, h3, h4, h5⟩
  · obtain ⟨cs, t, hc, hm⟩ := h.ty k hk
    exact ⟨cs, t, hS hk hc, hm⟩
  · have hl := h.pl q hq
    have := s q w.heap[q] (.inr hq) (Array.getElem?_eq_getElem hl)
    exact (Array.getElem?_eq_some_iff.1 this).1
theorem RMG.ext {w w' : World} {S P : Nat → Prop} {bm : Nat} {vB : Value} {us : List Value} {bs : List (List Bat)} (h : RMG w S P bm vB us bs) (E : Ext w w') : RMG w' S P bm vB us bs := h.same (SameP.of_ext E)
theorem RMS.same {w w' : World} {S P : Nat → Prop} {bm : Nat} {bs : List (List Bat)} (h : RMS w S P bm bs) (s : SameP (fun q => S q ∨ P q) w w') : RMS w' S P bm bs := by
  obtain ⟨vB, us, h⟩ := h
  exact ⟨vB, us, h.same s⟩
theorem RMS.ext {w w' : World} {S P : Nat → Prop} {bm : Nat} {bs : List (List Bat)} (h : RMS w S P bm bs) (E : Ext w w') : RMS w' S P bm bs := h.same (SameP.of_ext E)
theorem RMS.ty {w : World} {S P : Nat → Prop} {bm : Nat} {bs : List (List Bat)} (h : RMS w S P bm bs) : TyS w S rTy := by
  obtain ⟨vB, us, h⟩ := h
  exact h.ty
theorem RMS.pl {w : World} {S P : Nat → Prop} {bm : Nat} {bs : List (List Bat)} (h : RMS w S P bm bs) : ∀ q, P q → q < w.heap.size := by
  obtain ⟨vB, us, h⟩ := h
  exact h.pl
theorem RMS.dis {w : World} {S P : Nat → Prop} {bm : Nat} {bs : List (List Bat)} (h : RMS w S P bm bs) : ∀ q, P q → ¬ S q := by
  obtain ⟨vB, us, h⟩ := h
  exact h.dis
set_option maxRecDepth 10000 in
theorem rmis_any {w : World} {S P : Nat → Prop} {bm : Nat} {bs : List (List Bat)} (h : RMS w S P bm bs) (i : Int) :
    Calls Tryd.prog 24 #[.pointer (some ⟨bm, 0, none⟩), .int .i64 i] w fun e w' => e = .returned (.bool (decide (0 ≤ i) && decide (i ≤ (bs.length : Int) - 1))) ∧ w' = w := by
  obtain ⟨vB, us, h⟩ := h
  have hb := blk1 h.box
  have hl := h.ln
  have h4 := h.n4
  obtain ⟨a, c, rfl⟩ := own_form h.outer
  rw [hl] at hb
  have WI := hid (rwithin_any i 0 ((bs.length : Int) - 1) w)
  generalize bs.length = n at *
  clear h hl
  go_enter Tryd.func24, Tryd.ntmps24
  go_wp2_with fail
  refine (WI.out).mono ?_
  rintro r w1 ⟨rfl, rfl⟩
  go_wp2
  go_ret
  exact ⟨rfl, rfl⟩
set_option maxRecDepth 100000 in
set_option maxHeartbeats 2000000 in
theorem rmrounds_any {w : World} {S P : Nat → Prop} {bm : Nat} {bs : List (List Bat)} (h : RMS w S P bm bs) :
    Calls Tryd.prog 15 #[.pointer (some ⟨bm, 0, none⟩)] w fun e w' => e = .returned (.int .i64 (rrTo bs bs.length)) ∧ w' = w := by
  obtain ⟨vB, us, h⟩ := h
  have hb := blk1 h.box
  have h4 := h.n4
  have H := hid h
  obtain ⟨a, c, rfl⟩ := own_form h.outer
  obtain ⟨b, off, rfl, _, p1, p2, hcs⟩ := seg_cells (own_seg h.outer) (by have := h.ln; have := h.n0; omega)
  unfold maxLen at p2
  have HC := hid hcs
  have hl := h.ln
  rw [hl] at hb p1
  have HLN := hid hl
  clear h hl hcs
  go_enter Tryd.func15, Tryd.ntmps15
  go_wp2_with fail
  go_loop [3, 5, 11] (fun nv _ iv => ∃ i : Nat, i ≤ bs.length ∧ iv = .int .i64 i ∧ nv = .int .i64 (rrTo bs i) ∧ rrTo bs i ≤ 60) (fun _ _ iv => bs.length - (intOf iv).toNat)
  case atStart => exact ⟨0, Nat.zero_le _, rfl, rfl, Nat.le_refl _⟩
  case round =>
    obtain ⟨i, hi, rfl, rfl, h60⟩ := hrel
    by_cases hil : i < bs.length
    · have hiu : i < us.length := by have := HLN.out; omega
      have c1 := HC.out i us[i] (List.getElem?_eq_getElem hiu)
      obtain ⟨ts, t1, _, t3, t4, _⟩ := H.out.rows i us[i] bs[i] (List.getElem?_eq_getElem hiu) (List.getElem?_eq_getElem hil)
      have hg : (bs.getD i []).length = (bs[i]).length := by simp [hil]
      generalize us[i] = u at c1 t1
      obtain ⟨a2, c2, rfl⟩ := own_form t1
      have HST := hid (show rrTo bs (i + 1) = min (rrTo bs i) (bs[i].length - 1) by rw [rrTo, hg])
      generalize bs[i].length = m at *
      generalize rrTo bs i = q at *
      have hmn : min (q : Int) ((m : Int) - 1) = ((min q (m - 1) : Nat) : Int) := by omega
      clear t1 hg
      go_wp2
      refine ⟨⟨i + 1, by omega, by go_num, by rw [HST.out], by rw [HST.out]; omega⟩, by simp [intOf]; omega⟩
    · obtain rfl : i = bs.length := by omega
      go_wp2
      go_ret
      exact ⟨rfl, rfl⟩
end Go.Proofs.YtddghaoejnbkaaaDoor
