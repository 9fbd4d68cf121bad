/- Contracts and lemmas for the proof of TopMoves; each theorem states its own conditions. -/
import Derived.Test.YtnepdfpooobmcaaGreatQTopMovesbw
import Derived.Test.YtnepdfpooobmcaaGreatQTopMovesbx
set_option linter.unusedVariables false
set_option linter.unusedSimpArgs false
/- Contracts and lemmas for the proofs of this seat; each theorem states its own conditions. -/
namespace Go.Proofs.YtnepdfpooobmcaaGreat
open Go.RowKit
/-! TopMoves: what moves, between keys and owners -/
def mvq (o : GOp) : GOp := if o.kind = 4 ∨ o.kind = 5 then o else { o with kind := 5, from_ := ⟨#[113]⟩ }
def mqs : Ops → Nat → Ops
  | [], _ => []
  | o :: d, 0 => o :: d
  | o :: d, j + 1 => mvq o :: mqs d j
theorem mqs_len : ∀ (d : Ops) (j : Nat), (mqs d j).length = d.length
  | [], _ => rfl
  | _ :: _, 0 => rfl
  | _ :: d, j + 1 => by simp [mqs, mqs_len d j]
theorem mqs_zero (d : Ops) : mqs d 0 = d := by cases d <;> rfl
theorem mqs_at : ∀ {d : Ops} {j : Nat} (h : j < d.length), (mqs d j)[j]? = some d[j]
  | [], _, h => by simp at h
  | o :: d, 0, h => by simp [mqs]
  | o :: d, j + 1, h => by simpa [mqs] using mqs_at (d := d) (j := j) (by simpa using h)
theorem mqs_step : ∀ {d : Ops} {j : Nat} (h : j < d.length) (f : GOp → GOp), f d[j] = mvq d[j] → (mqs d j).modify j f = mqs d (j + 1)
  | [], _, h, _, _ => by simp at h
  | o :: d, 0, h, f, hf => by simp at hf; simp [mqs, List.modify, hf, mqs_zero]
  | o :: d, j + 1, h, f, hf => by
    simp only [mqs, List.modify_succ_cons]
    rw [mqs_step (d := d) (j := j) (by simpa using h) f (by simpa using hf)]
theorem mqs_all : ∀ (d : Ops), mqs d d.length = d.map mvq
  | [] => rfl
  | o :: d => by simp [mqs, mqs_all d]
theorem mvq_ok {o : GOp} (h : OpG o) : OpOk (mvq o) := by
  unfold mvq
  by_cases e : o.kind = 4 ∨ o.kind = 5
  · rw [if_pos e]; exact h.ok
  · rw [if_neg e]
    exact ⟨by show (1 : Int) ≤ 5; omega, by show (5 : Int) ≤ 5; omega, keysL_key _ h.key, fun _ => ⟨q_not.2, fun e => q_not.1 _ h.key e.symm⟩, fun _ => by have := h.n0; have := h.n8; show _ ≤ o.n ∧ o.n ≤ _; omega, fun _ => h.n0⟩
theorem mvq_key (o : GOp) : (mvq o).key = o.key := by unfold mvq; split <;> rfl
theorem mvq_sm {o : GOp} (h : OpG o) : (mvq o).from_.size ≤ 9223372036854775807 := by
  have := h.sm
  unfold mvq
  split
  · omega
  · show (⟨#[113]⟩ : ByteArray).size ≤ _; decide
theorem mvq_kind (o : GOp) : (mvq o).kind = 4 ∨ (mvq o).kind = 5 := by
  unfold mvq; split
  · assumption
  · right; rfl
/-- one entry, turned -/
def mvE (x : Ent) : Ent := { x with ops := x.ops.map mvq }
/-- what goes into the other copies -/
def mvY (X : List Ent) : List Ent := X.map fun x => plainE (mvE x)
theorem mvY_len (X : List Ent) : (mvY X).length = X.length := by simp [mvY]
theorem mvY_take {X : List Ent} {k : Nat} (hk : k < X.length) : (mvY X).take (k + 1) = (mvY X).take k ++ [plainE (mvE X[k])] := by
  rw [List.take_succ_eq_append_getElem (by rw [mvY_len]; exact hk)]
  simp [mvY]
theorem mvE_ok {x : Ent} (h : EntOk x) (g : EntG x) : EntOk (mvE x) := by
  refine ⟨⟨by simpa [mvE] using h.sm.ops, h.sm.cuts, h.sm.own⟩, ⟨fun o ho => ?_, h.sz.cuts⟩, ?_⟩
  · obtain ⟨p, hp, rfl⟩ := List.mem_map.1 ho
    rw [mvq_key]
    exact ⟨(h.sz.ops p hp).1, mvq_sm (g p hp)⟩
  · have he := h.ok
    unfold entE at he ⊢
    by_cases q : x.im = true
    · rw [if_pos q] at he
      rw [if_pos (show (mvE x).im = true from q)]
      exact he
    · rw [if_neg q] at he
      rw [if_neg (show ¬ (mvE x).im = true from q)]
      have hd := deed_ok he
      exact deedE_ok ⟨by simpa [mvE] using hd.lo, by simpa [mvE] using hd.hi, fun o ho => by
        obtain ⟨p, hp, rfl⟩ := List.mem_map.1 ho
        exact mvq_ok (g p hp)⟩
theorem mvY_ok {X : List Ent} (h : ∀ x ∈ X, EntOk x) (g : ∀ x ∈ X, EntG x) : ∀ y ∈ mvY X, EntOk y := by
  intro y hy
  obtain ⟨x, hx, rfl⟩ := List.mem_map.1 hy
  exact plainE_ok (mvE_ok (h x hx) (g x hx))
theorem mvY_kind {X : List Ent} (g : ∀ x ∈ X, EntG x) : ∀ y ∈ mvY X, ∀ o ∈ y.ops, OpOk o ∧ (o.kind = 4 ∨ o.kind = 5) := by
  intro y hy o ho
  obtain ⟨x, hx, rfl⟩ := List.mem_map.1 hy
  unfold plainE at ho
  split at ho
  · simp at ho
  · obtain ⟨p, hp, rfl⟩ := List.mem_map.1 ho
    exact ⟨mvq_ok (g x hx p hp), mvq_kind p⟩
theorem tot_runS {l : Prs} (h : StoreOk l) {d : Ops} (hd : ∀ o ∈ d, OpOk o ∧ (o.kind = 4 ∨ o.kind = 5)) : totTo (runS l d) = totTo l := by
  unfold runS
  cases e : runP l d with
  | none => rfl
  | some l' => exact tot_run hd h e
theorem goC_tot {c : Cop} (hc : CopOk 30 c) {Y : List Ent} (hY : ∀ y ∈ Y, EntOk y) (hk : ∀ y ∈ Y, ∀ o ∈ y.ops, OpOk o ∧ (o.kind = 4 ∨ o.kind = 5)) : ∀ {k : Nat}, k ≤ Y.length → totTo (goC c Y k).S = totTo c.S
  | 0, _ => rfl
  | k + 1, h => by
    have ih := goC_tot hc hY hk (k := k) (by omega)
    have hx : k < Y.length := by omega
    rw [← goC_one hx]
    have ok := goC_ok hc hY k (by omega)
    unfold doE
    split
    · exact ih
    · show totTo (runS _ _) = _
      rw [tot_runS ok.sto (hk _ (List.getElem_mem hx)), ih]
/-! the operations of one deed, turned in their place -/
def MIq (W : World) (B g c : Nat) (d : Ops) (j : Nat) (wr : World) : Prop := wr.ownsRow B 69 4 (.slice (some ⟨g, 0, none⟩) d.length c) d.length (cO (mqs d j)) ∧ W.grownBy wr (some g)
theorem miq_step {W wr : World} {B g c j : Nat} {d : Ops} (h : MIq W B g c d j wr) (hj : j < d.length) :
    (d[j].kind = 4 ∨ d[j].kind = 5 → MIq W B g c d (j + 1) wr) ∧
    (¬ (d[j].kind = 4 ∨ d[j].kind = 5) → MIq W B g c d (j + 1) ((wr.setCell ⟨g, j * 4, none⟩ (.int .i64 5)).setCell ⟨g, j * 4 + 2, none⟩ (.string ⟨#[113]⟩))) := by
  obtain ⟨h1, h2⟩ := h
  have hl := mqs_len d j
  have hc : j * 4 < (cO (mqs d j)).length := by rw [cO_len, hl]; omega
  refine ⟨fun k => ⟨?_, h2⟩, fun k => ⟨?_, (h2.trans (set_grown _ _ _)).trans (set_grown _ _ _)⟩⟩
  · have := mqs_step hj id (by simp [mvq, k])
    rw [← this]
    simpa using h1
  · have e := own_cell_set h1 hc (.int .i64 5)
    rw [cO_set0] at e
    have e2 := own_cell_set e (i := j * 4 + 2) (by rw [cO_len]; simp [hl]; omega) (.string ⟨#[113]⟩)
    rw [show j * 4 + 2 = j * 4 + 1 + 1 from rfl, cO_set2, List.modify_modify_eq, mqs_step hj _ (by simp [mvq, k])] at e2
    exact e2
theorem miq_mid {W wr : World} {B g c j : Nat} {d : Ops} (h : MIq W B g c d j wr) (hj : j < d.length) :
    (wr.setCell ⟨g, j * 4, none⟩ (.int .i64 5)).cell? ⟨g, j * 4 + 2, none⟩ = some (.string d[j].from_) ∧ (wr.setCell ⟨g, j * 4, none⟩ (.int .i64 5)).frozen? ⟨g, j * 4 + 2, none⟩ = false := by
  have hl := mqs_len d j
  have hc : j * 4 < (cO (mqs d j)).length := by rw [cO_len, hl]; omega
  have e := own_cell_set h.1 hc (.int .i64 5)
  refine ⟨?_, own_free e _⟩
  obtain ⟨_, _, he, _, _, _, hcc⟩ := seg_cells (own_seg e) (by omega)
  injection he with he; injection he with he1 he2
  subst he1; subst he2
  have hget : (mqs d j)[j]'(by omega) = d[j] := by have := mqs_at hj; rwa [List.getElem?_eq_getElem (by omega), Option.some.injEq] at this
  have := hcc (j * 4 + 2) (.string d[j].from_) (by
    rw [List.getElem?_set_ne (by omega), cO_at2 _ j (by omega), hget])
  rwa [Nat.zero_add] at this
/-! copies, when operations turn that were there before them -/
theorem MergeSt.farOp {eB : Nat} {w w' : World} {S : Nat → Prop} {bm : Nat} {cl : List (List Bat)} {op : List Bat} (h : MergeSt eB w S bm cl op) {g : Nat} {cs : Array Value} {fr : Nat × Nat} (hb : w.heap[g]? = some (.cells cs 69 fr)) (hlt : g < eB) (hg : w.grownBy w' (some g)) : MergeSt eB w' S bm cl op := by
  obtain ⟨bc, bo, vc, vo, h⟩ := h
  have hm : ∀ e, e ∈ mTy → e ≠ 69 := fun e he q => by subst q; exact absurd he (by decide)
  have ent : ∀ {e : EV} {x : Ent}, EntSt eB w e x → EntSt eB w' e x := fun q => ⟨far_own hb hg q.ops (.inr hlt), q.im, far_own hb hg q.cuts (.inr hlt), far_own hb hg q.own (.inr hlt)⟩
  have bat : ∀ {u : Value} {b : Bat}, BatSt eB w S u b → BatSt eB w' S u b := by
    rintro u b ⟨es, a, k, i⟩
    exact ⟨es, ⟨a.1, fun j e x p q => ent (a.2 j e x p q)⟩, far_own hb hg k (.inl (hm _ (by decide))), i⟩
  refine ⟨bc, bo, vc, vo, h.n0, h.n4, h.ln, ?_, h.sm, h.sc, h.so, grown_heap hg h.box (far_ne hb h.box (fun e => hm _ (by decide) e.symm)), grown_heap hg h.crow (far_ne hb h.crow (fun e => hm _ (by decide) e.symm)), grown_heap hg h.orow (far_ne hb h.orow (fun e => hm _ (by decide) e.symm)), ?_, fun i hi => bat (h.opn i hi), h.clz, h.cbo, h.opz, Nat.le_trans h.bs hg.size⟩
  · intro k hk
    obtain ⟨cs', e, hc, hx⟩ := h.ty k hk
    exact ⟨cs', e, grown_heap hg hc (far_ne hb hc (fun q => hm _ hx q.symm)), hx⟩
  · intro i hi'
    obtain ⟨us, a1, a2, a3, a4⟩ := h.cls i hi'
    exact ⟨us, a1, far_own hb hg a2 (.inl (hm _ (by decide))), a3, fun j u b p q => ⟨bat (a4 j u b p q).1, (a4 j u b p q).2⟩⟩
theorem CopG.farOp {w w' : World} {F : Nat → Prop} {b : Nat} {A : CopA} {cl : List (List Bat)} {op : List Bat} {K : List Cop} (h : CopG w F b A cl op K) {g : Nat} {cs : Array Value} {fr : Nat × Nat} (hb : w.heap[g]? = some (.cells cs 69 fr)) (hlt : g < A.eB) (hg : w.grownBy w' (some g)) : CopG w' F b A cl op K := by
  have hm : ∀ e, e ∈ cTy → e ≠ 69 := fun e he q => by subst q; exact absurd he (by decide)
  have hm2 : ∀ {k : Nat} {cs' : Array Value} {e : TypeId} {fr' : Nat × Nat}, w.heap[k]? = some (.cells cs' e fr') → e ∈ cTy → w'.heap[k]? = some (.cells cs' e fr') := fun hk he => grown_heap hg hk (far_ne hb hk (fun q => hm _ he q.symm))
  exact { h with
    box := hm2 h.box (by decide)
    mer := h.mer.farOp hb hlt hg
    lrow := far_own hb hg h.lrow (.inl (hm _ (by decide)))
    drow := hm2 h.drow (by decide)
    orow := hm2 h.orow (by decide)
    parts := fun i hi => (h.parts i hi).far hb (fun e => by
      have a := (h.parts i hi).box
      rw [← e, hb] at a; injection a with a; injection a with _ a; exact hm 157 (by decide) a.symm) (by decide) (by decide) (.inl (hm _ (by decide))) hg
    oks := fun i hi => far_own hb hg (h.oks i hi) (.inl (hm _ (by decide)))
    fi := fun k cs fr hk hc => by
      obtain ⟨cs', e, hc', hx⟩ := h.ty k hk
      rw [hm2 hc' hx] at hc
      injection hc with hc; injection hc with h3 h4 h5
      subst h3; subst h4; subst h5
      exact h.fi k _ _ hk hc'
    ty := fun k hk => by
      obtain ⟨cs', e, hc, hx⟩ := h.ty k hk
      exact ⟨cs', e, hm2 hc hx, hx⟩ }
theorem cadd_oneE {w : World} {F : Nat → Prop} {b : Nat} {A : CopA} {P : Bat} {K : List Cop} (h : CopG w F b A [[]] [P] K) (e : EV) (x : Ent) (hx : EntSeg w e x) (ok : EntOk x) (hp : P.length < 60) :
    Calls Tryz.prog 11 #[.pointer (some ⟨A.bm, 0, none⟩), .int .i64 0, evV e] w fun r w' => r = .returned (.int .i64 0) ∧ ∃ F', CopE A w' F' b [[]] [P ++ [plainE x]] K ∧ Kp F w w' F' := by
  refine (madd_ok h.mer 0 (by simp) e x hx ok.sm ok.sz ok.ok (by simp [manyM, manyTo]; omega) (fun i hi => ?_) (by simpa using hp)).mono ?_
  · have : i = 0 := by simp at hi; omega
    subst this; simp
  · rintro r w' ⟨rfl, S', hM, hk⟩
    obtain ⟨F', g, k⟩ := h.merge hM hk
    exact ⟨rfl, F', ⟨_, g, rfl, rfl, rfl⟩, k⟩
/-- where the loop over the log stands -/
structure TMo (w w5 wr : World) (F : Nat → Prop) (A : CopA) (b : Nat) (c0 : Cop) (X : List Ent) (es : List EV) (k : Nat) (rv : Value) : Prop where
  g : CopG wr F b A [[]] [(mvY X).take k] (List.replicate 1 c0)
  z : ∀ q, q < w5.heap.size → A.Z q
  low : ∀ q, F q → w5.heap.size ≤ q
  E : Ext w wr
  row : wr.ownsRow w.heap.size 47 4 rv X.length (cEn es)
  rl : ∀ q, rv.ownBlock = some q → q < w5.heap.size
  len : es.length = X.length
  ents : ∀ j e x, k ≤ j → es[j]? = some e → X[j]? = some x → EntSt w.heap.size wr e x
  lows : ∀ e ∈ es, (∀ q, e.1.ownBlock = some q → q < w5.heap.size) ∧ (∀ q, e.2.2.1.ownBlock = some q → q < w5.heap.size) ∧ ∀ q, e.2.2.2.ownBlock = some q → q < w5.heap.size
  ap : ApE es
theorem TMo.ext {w w5 wr w' : World} {F : Nat → Prop} {A : CopA} {b : Nat} {c0 : Cop} {X : List Ent} {es : List EV} {k : Nat} {rv : Value} (h : TMo w w5 wr F A b c0 X es k rv) (E : Ext wr w') : TMo w w5 w' F A b c0 X es k rv :=
  { h with g := h.g.ext E, E := h.E.trans E, row := own_ext h.row E, ents := fun j e x a p q => (h.ents j e x a p q).ext E }
/-- one deed's operations have turned -/
theorem TMo.turn {w w5 wr w' : World} {F : Nat → Prop} {A : CopA} {b : Nat} {c0 : Cop} {X : List Ent} {es : List EV} {k : Nat} {rv : Value} (h : TMo w w5 wr F A b c0 X es k rv) {e : EV} {x : Ent} (he : es[k]? = some e) (hx : X[k]? = some x) {g c : Nat} (hv : e.1 = .slice (some ⟨g, 0, none⟩) x.ops.length c) (hn : 0 < x.ops.length)
    (hM : MIq wr w.heap.size g c x.ops x.ops.length w') :
    CopG w' F b A [[]] [(mvY X).take k] (List.replicate 1 c0) ∧ EntSt w.heap.size w' e (mvE x) ∧ Ext w w' ∧ w'.ownsRow w.heap.size 47 4 rv X.length (cEn es) ∧ (∀ j e x, k + 1 ≤ j → es[j]? = some e → X[j]? = some x → EntSt w.heap.size w' e x) := by
  have hE := h.ents k e x (Nat.le_refl _) he hx
  have hob : e.1.ownBlock = some g := by rw [hv]; rfl
  have hgl : g < w5.heap.size := (h.lows e (List.mem_of_getElem? he)).1 g hob
  have hops := hE.ops
  rw [hv] at hops
  obtain ⟨cs, hb⟩ := own_heap hops
  have hgb := hM.2
  refine ⟨h.g.farOp hb (h.g.zb g (h.z g hgl)) hgb, ⟨?_, hE.im, far_own hb hgb hE.cuts (.inl (by decide)), far_own hb hgb hE.own (.inl (by decide))⟩, ?_, far_own hb hgb h.row (.inl (by decide)), fun j e2 x2 hj p q => ?_⟩
  · have := hM.1
    rw [mqs_all] at this
    show w'.ownsRow w.heap.size 69 4 e.1 (x.ops.map mvq).length (cO (x.ops.map mvq))
    rw [List.length_map, hv]
    exact this
  · exact h.E.grown hgb (fun q hq => by injection hq with hq; subst hq; exact own_ge hE.ops g hob)
  · have s := h.ents j e2 x2 (by omega) p q
    refine ⟨grown_own hgb s.ops (.inr ?_), s.im, far_own hb hgb s.cuts (.inl (by decide)), far_own hb hgb s.own (.inl (by decide))⟩
    exact h.ap k j e e2 he p (by omega) g hob
/-- one entry has been added -/
theorem TMo.add {w w5 wr w1 w' : World} {F F' : Nat → Prop} {A : CopA} {b : Nat} {c0 : Cop} {X : List Ent} {es : List EV} {k : Nat} {rv : Value} (h : TMo w w5 wr F A b c0 X es k rv) (hk : k < X.length)
    (hE : Ext w w1) (hty : TyS w1 F cTy) (hr : w1.ownsRow w.heap.size 47 4 rv X.length (cEn es)) (hs : ∀ j e x, k + 1 ≤ j → es[j]? = some e → X[j]? = some x → EntSt w.heap.size w1 e x)
    (hC : CopE A w' F' b [[]] [(mvY X).take k ++ [plainE (mvE X[k])]] (List.replicate 1 c0)) (K : Kp F w1 w' F') (hz : w5.heap.size ≤ w1.heap.size) (hw : w.heap.size ≤ w5.heap.size) : ∃ A', TMo w w5 w' F' A' b c0 X es (k + 1) rv := by
  obtain ⟨A', g, hZ, _, _⟩ := hC
  have hoff : ∀ {v : Value}, (∀ q, v.ownBlock = some q → q < w5.heap.size) → Off F v := fun hv q hq hF => by
    have := hv q hq
    have := h.low q hF
    omega
  rw [← mvY_take hk] at g
  obtain ⟨E', _⟩ := K.low hE (fun q hq => Nat.le_trans hw (h.low q hq))
  refine ⟨A', ⟨g, fun q hq => by rw [hZ]; exact h.z q hq, ?_, E', K.own hr (hoff h.rl), h.rl, h.len, fun j e x hj p q => ?_, h.lows, h.ap⟩⟩
  · intro q hq
    rcases K.2.2 q hq with a | a
    · exact h.low q a
    · omega
  · have s := hs j e x hj p q
    have lo := h.lows e (List.mem_of_getElem? p)
    exact ⟨K.own s.ops (hoff lo.1), s.im, K.own s.cuts (hoff lo.2.1), K.own s.own (hoff lo.2.2)⟩
end Go.Proofs.YtnepdfpooobmcaaGreat
