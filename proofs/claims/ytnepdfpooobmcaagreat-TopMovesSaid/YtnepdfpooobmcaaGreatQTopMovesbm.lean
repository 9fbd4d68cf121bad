/- Contracts and lemmas for the proof of TopMoves; each theorem states its own conditions. -/
import Derived.Test.YtnepdfpooobmcaaGreatQTopMovesbd
import Derived.Test.YtnepdfpooobmcaaGreatQTopMovesbj
import Derived.Test.YtnepdfpooobmcaaGreatQTopMovesbk
import Derived.Test.YtnepdfpooobmcaaGreatQTopMovesbl
import Derived.Test.YtnepdfpooobmcaaGreatQTopMovesau
set_option linter.unusedVariables false
set_option linter.unusedSimpArgs false
/- Contracts and lemmas for the proofs of this seat; each theorem states its own conditions. -/
namespace Go.Proofs.YtnepdfpooobmcaaGreat
open Go.RowKit
/-! copies, in plain lists and in memory -/
structure Cop where
  C : List ByteArray
  O : List Int
  S : Prs
  dn : Nat
  ok : List Bool
/-- an entry, done -/
def doE (c : Cop) (x : Ent) : Cop := if x.im = true then ⟨x.cuts, x.own, c.S, c.dn + 1, c.ok ++ [true]⟩ else ⟨c.C, c.O, runS c.S x.ops, c.dn + 1, c.ok ++ [runB c.S x.ops]⟩
def okE (c : Cop) (x : Ent) : Bool := if x.im = true then true else runB c.S x.ops
structure CopOk (N : Nat) (c : Cop) : Prop where
  map : MapOk c.C c.O
  sm : ∀ k ∈ c.C, k.size ≤ 9223372036854775807
  sto : StoreOk c.S
  len : c.S.length ≤ N + 32 * c.dn
  okl : c.ok.length = c.dn
theorem CopOk.do {N : Nat} {c : Cop} (h : CopOk N c) {x : Ent} (hx : EntOk x) : CopOk N (doE c x) := by
  unfold doE
  have he := hx.ok
  unfold entE at he
  by_cases q : x.im = true
  · rw [if_pos q] at he ⊢
    exact ⟨ok_of_mapErr he, hx.sz.cuts, h.sto, by have := h.len; simp only; omega, by simp [h.okl]⟩
  · rw [if_neg q] at he ⊢
    have dok := deed_ok he
    obtain ⟨r1, _, _⟩ := run_val h.sto dok.ops
    refine ⟨h.map, h.sm, r1, ?_, by simp [h.okl]⟩
    have h1 := run_len c.S x.ops
    have h2 := dok.hi
    have := h.len
    simp only; omega
theorem far_own {w w' : World} {g : Nat} {cs : Array Value} {t : TypeId} {fr : Nat × Nat} (hb : w.heap[g]? = some (.cells cs t fr)) (hg : w.grownBy w' (some g)) {B e sz n : Nat} {v : Value} {xs : List Value} (ho : w.ownsRow B e sz v n xs) (hne : e ≠ t ∨ g < B) : w'.ownsRow B e sz v n xs := by
  refine grown_own hg ho (.inr ?_)
  rcases hne with h | h
  · exact own_ne ho hb h
  · intro e; have := own_ge ho g e; omega
theorem far_ne {w : World} {g k : Nat} {cs cs' : Array Value} {t t' : TypeId} {fr fr' : Nat × Nat} (hb : w.heap[g]? = some (.cells cs t fr)) (hk : w.heap[k]? = some (.cells cs' t' fr')) (h : t ≠ t') : (some g : Option Nat) ≠ some k := fun e => by
  injection e with e; subst e; rw [hb] at hk; injection hk with hk; injection hk with _ hk; exact h hk
/-- a merge, when a block turns that is none of its own -/
theorem MergeG.far {eB : Nat} {w w' : World} {S : Nat → Prop} {bm bc bo : Nat} {vc vo : Nat → Value} {cl : List (List Bat)} {op : List Bat} (h : MergeG eB w S bm bc bo vc vo cl op) {g : Nat} {cs : Array Value} {t : TypeId} {fr : Nat × Nat} (hb : w.heap[g]? = some (.cells cs t fr))
    (ht : t ∉ mTy ∧ 69 ≠ t ∧ 9 ≠ t) (hi : 3 ≠ t ∨ g < eB) (hg : w.grownBy w' (some g)) : MergeG eB w' S bm bc bo vc vo cl op := by
  have hm : ∀ e, e ∈ mTy → e ≠ t := fun e he q => ht.1 (q ▸ he)
  have ent : ∀ {e : EV} {x : Ent}, EntSt eB w e x → EntSt eB w' e x := fun q => ⟨far_own hb hg q.ops (.inl ht.2.1), q.im, far_own hb hg q.cuts (.inl ht.2.2), far_own hb hg q.own hi⟩
  have bat : ∀ {u : Value} {b : Bat}, BatSt eB w S u b → BatSt eB w' S u b := by
    rintro u b ⟨es, a, k, i⟩
    exact ⟨es, ⟨a.1, fun j e x p q => ent (a.2 j e x p q)⟩, far_own hb hg k (.inl (hm _ (by decide))), i⟩
  refine ⟨h.n0, h.n4, h.ln, ?_, h.sm, h.sc, h.so, grown_heap hg h.box (far_ne hb h.box (fun e => hm _ (by decide) e.symm)), grown_heap hg h.crow (far_ne hb h.crow (fun e => hm _ (by decide) e.symm)), grown_heap hg h.orow (far_ne hb h.orow (fun e => hm _ (by decide) e.symm)), ?_, fun i hi => bat (h.opn i hi), h.clz, h.cbo, h.opz, Nat.le_trans h.bs hg.size⟩
  · intro k hk
    obtain ⟨cs', e, hc, hx⟩ := h.ty k hk
    exact ⟨cs', e, grown_heap hg hc (far_ne hb hc (fun q => hm _ hx q.symm)), hx⟩
  · intro i hi'
    obtain ⟨us, a1, a2, a3, a4⟩ := h.cls i hi'
    exact ⟨us, a1, far_own hb hg a2 (.inl (hm _ (by decide))), a3, fun j u b p q => ⟨bat (a4 j u b p q).1, (a4 j u b p q).2⟩⟩
theorem MergeSt.far {eB : Nat} {w w' : World} {S : Nat → Prop} {bm : Nat} {cl : List (List Bat)} {op : List Bat} (h : MergeSt eB w S bm cl op) {g : Nat} {cs : Array Value} {t : TypeId} {fr : Nat × Nat} (hb : w.heap[g]? = some (.cells cs t fr))
    (ht : t ∉ mTy ∧ 69 ≠ t ∧ 9 ≠ t) (hi : 3 ≠ t ∨ g < eB) (hg : w.grownBy w' (some g)) : MergeSt eB w' S bm cl op := by
  obtain ⟨bc, bo, vc, vo, h⟩ := h
  exact ⟨bc, bo, vc, vo, h.far hb ht hi hg⟩
/-- a merge in which nothing is, under any base -/
theorem MergeSt.rebase {w : World} {S : Nat → Prop} {bm n e0 : Nat} (h : MergeSt e0 w S bm (List.replicate n []) (List.replicate n [])) {eB : Nat} (hB : eB ≤ w.heap.size) : MergeSt eB w S bm (List.replicate n []) (List.replicate n []) := by
  obtain ⟨bc, bo, vc, vo, h⟩ := h
  refine ⟨bc, bo, vc, vo, h.n0, h.n4, h.ln, h.ty, h.sm, h.sc, h.so, h.box, h.crow, h.orow, fun i hi => ?_, fun i hi => ?_, h.clz, h.cbo, h.opz, hB⟩
  · obtain ⟨us, a1, a2, a3, a4⟩ := h.cls i hi
    refine ⟨us, a1, a2, a3, fun j u b p q => ?_⟩
    rw [getD_repl] at q; simp at q
  · obtain ⟨es, a1, a2, a3⟩ := h.opn i hi
    refine ⟨es, ⟨a1.1, fun j e x p q => ?_⟩, a2, a3⟩
    rw [getD_repl'] at q; simp at q
theorem PartsSt.far {w w' : World} {bt : Nat} {C : List ByteArray} {O : List Int} {P : Nat → Prs} {vc vo : Value} {pv : Nat → Value} (h : PartsSt w bt C O P vc vo pv) {g : Nat} {cs : Array Value} {t : TypeId} {fr : Nat × Nat} (hb : w.heap[g]? = some (.cells cs t fr)) (hne : g ≠ bt) (h1 : 9 ≠ t) (h2 : 60 ≠ t) (h3 : 3 ≠ t ∨ vo.ownBlock ≠ some g) (hg : w.grownBy w' (some g)) : PartsSt w' bt C O P vc vo pv := by
  refine ⟨grown_heap hg h.box (fun e => by injection e with e; exact hne e), far_own hb hg h.cuts (.inl h1), ?_, fun i hi => far_own hb hg (h.rows i hi) (.inl h2)⟩
  rcases h3 with e | e
  · exact far_own hb hg h.owners (.inl e)
  · exact grown_own hg h.owners (.inr e)
/-- the types of what copies turn -/
def cTy : List Nat := mTy ++ [45, 111, 3, 55, 4, 157]
theorem op_cTy : 69 ∉ cTy ∧ 9 ∉ cTy ∧ 60 ∉ cTy ∧ 39 ∉ cTy := by decide
/-- where copies lie -/
structure CopA where
  bm : Nat
  bd : Nat
  bo : Nat
  lv : Value
  vo : Nat → Value
  bt : Nat → Nat
  vc : Nat → Value
  vs : Nat → Value
  pv : Nat → Nat → Value
  S : Nat → Prop
  eB : Nat
  Z : Nat → Prop
def copZ : Cop := ⟨[], [], [], 0, []⟩
def ptrsC (A : CopA) (n : Nat) : List Value := rowV n fun i => .pointer (some ⟨A.bt i, 0, none⟩)
def dnsC (K : List Cop) : List Value := rowV K.length fun i => .int .i64 ((K.getD i copZ).dn : Nat)
structure CopG (w : World) (F : Nat → Prop) (b : Nat) (A : CopA) (cl : List (List Bat)) (op : List Bat) (K : List Cop) : Prop where
  k0 : 0 < K.length
  k4 : K.length ≤ 4
  box : w.heap[b]? = some (.cells #[.pointer (some ⟨A.bm, 0, none⟩), A.lv, .slice (some ⟨A.bd, 0, none⟩) K.length K.length, .slice (some ⟨A.bo, 0, none⟩) K.length K.length] 45 (0, 0))
  mer : MergeSt A.eB w A.S A.bm cl op
  lrow : w.ownsRow 0 111 1 A.lv K.length (ptrsC A K.length)
  drow : w.heap[A.bd]? = some (.cells (dnsC K).toArray 3 (0, 0))
  orow : w.heap[A.bo]? = some (.cells (rowV K.length A.vo).toArray 55 (0, 0))
  parts : ∀ i, i < K.length → PartsSt w (A.bt i) (K.getD i copZ).C (K.getD i copZ).O (parP (K.getD i copZ).C (K.getD i copZ).O (K.getD i copZ).S) (A.vc i) (A.vs i) (A.pv i)
  oks : ∀ i, i < K.length → w.ownsRow 0 4 1 (A.vo i) (K.getD i copZ).ok.length ((K.getD i copZ).ok.map Value.bool)
  far : ∀ i, i < K.length → ∀ k, (A.vs i).ownBlock = some k → ¬ A.Z k
  okz : ∀ i j, i < K.length → j < K.length → i ≠ j → Apart (A.vo i) (A.vo j)
  btz : ∀ i j, i < K.length → j < K.length → i ≠ j → A.bt i ≠ A.bt j
  zd : A.Z A.bd
  zb : ∀ k, A.Z k → k < A.eB
  fi : ∀ k cs fr, F k → w.heap[k]? = some (.cells cs 3 fr) → k = A.bd
  ty : TyS w F cTy
  fb : F b
  fd : F A.bd
  fo : F A.bo
  fl : InS F A.lv
  fS : ∀ k, A.S k → F k
  ft : ∀ i, i < K.length → F (A.bt i)
  fv : ∀ i, i < K.length → InS F (A.vo i)
theorem CopG.ext {w w' : World} {F : Nat → Prop} {b : Nat} {A : CopA} {cl : List (List Bat)} {op : List Bat} {K : List Cop} (h : CopG w F b A cl op K) (E : Ext w w') : CopG w' F b A cl op K :=
  { h with box := E.heap h.box, mer := h.mer.ext E, lrow := own_ext h.lrow E, drow := E.heap h.drow, orow := E.heap h.orow, parts := fun i hi => (h.parts i hi).ext E, oks := fun i hi => own_ext (h.oks i hi) E, ty := h.ty.ext E, fi := fun k cs fr hk hc => h.fi k cs fr hk (by
    obtain ⟨cs', e, hc', _⟩ := h.ty k hk
    rw [E.heap hc'] at hc
    injection hc with hc; injection hc with h1 h2 h3
    subst h1; subst h2; subst h3; exact hc') }
theorem CopG.lt {w : World} {F : Nat → Prop} {b : Nat} {A : CopA} {cl : List (List Bat)} {op : List Bat} {K : List Cop} (h : CopG w F b A cl op K) : A.bd < A.eB := h.zb _ h.zd
theorem CopG.farD {w : World} {F : Nat → Prop} {b : Nat} {A : CopA} {cl : List (List Bat)} {op : List Bat} {K : List Cop} (h : CopG w F b A cl op K) {i : Nat} (hi : i < K.length) : (A.vs i).ownBlock ≠ some A.bd := fun e => h.far i hi _ e h.zd
/-- copies, wherever they lie -/
def CopSt (w : World) (F : Nat → Prop) (b : Nat) (cl : List (List Bat)) (op : List Bat) (K : List Cop) : Prop := ∃ A, CopG w F b A cl op K
theorem CopSt.ext {w w' : World} {F : Nat → Prop} {b : Nat} {cl : List (List Bat)} {op : List Bat} {K : List Cop} (h : CopSt w F b cl op K) (E : Ext w w') : CopSt w' F b cl op K := by
  obtain ⟨A, h⟩ := h
  exact ⟨A, h.ext E⟩
theorem CopG.cells {w : World} {F : Nat → Prop} {b : Nat} {A : CopA} {cl : List (List Bat)} {op : List Bat} {K : List Cop} (h : CopG w F b A cl op K) :
    w.cell? ⟨b, 0, none⟩ = some (.pointer (some ⟨A.bm, 0, none⟩)) ∧ w.cell? ⟨b, 1, none⟩ = some A.lv ∧ w.cell? ⟨b, 2, none⟩ = some (.slice (some ⟨A.bd, 0, none⟩) K.length K.length) ∧ w.cell? ⟨b, 3, none⟩ = some (.slice (some ⟨A.bo, 0, none⟩) K.length K.length) := by
  have hb := h.box
  simp [World.cell?, hb]
theorem CopG.cellD {w : World} {F : Nat → Prop} {b : Nat} {A : CopA} {cl : List (List Bat)} {op : List Bat} {K : List Cop} (h : CopG w F b A cl op K) {i : Nat} (hi : i < K.length) :
    w.cell? ⟨A.bd, i, none⟩ = some (.int .i64 ((K.getD i copZ).dn : Nat)) ∧ w.frozen? ⟨A.bd, i, none⟩ = false := by
  have hb := h.drow
  refine ⟨cells_of hb i _ (rowV_at _ hi), ?_⟩
  simp [World.frozen?, hb]
theorem CopG.cellO {w : World} {F : Nat → Prop} {b : Nat} {A : CopA} {cl : List (List Bat)} {op : List Bat} {K : List Cop} (h : CopG w F b A cl op K) {i : Nat} (hi : i < K.length) :
    w.cell? ⟨A.bo, i, none⟩ = some (A.vo i) ∧ w.frozen? ⟨A.bo, i, none⟩ = false := by
  have hb := h.orow
  refine ⟨cells_of hb i _ (rowV_at _ hi), ?_⟩
  simp [World.frozen?, hb]
theorem CopG.lform {w : World} {F : Nat → Prop} {b : Nat} {A : CopA} {cl : List (List Bat)} {op : List Bat} {K : List Cop} (h : CopG w F b A cl op K) : ∃ g c, A.lv = .slice (some ⟨g, 0, none⟩) K.length c ∧ K.length ≤ c ∧ c ≤ maxLen ∧ F g ∧ ∃ cur, w.heap[g]? = some (.cells cur 111 (0, 0)) := by
  rcases h.lrow.2 with ⟨_, e⟩ | ⟨g, c, cur, e, _, h1, h2, h3, _⟩
  · have := h.k0; omega
  · exact ⟨g, c, e, h2, h3, h.fl g (by rw [e]; rfl), cur, h1⟩
theorem CopG.cellL {w : World} {F : Nat → Prop} {b : Nat} {A : CopA} {cl : List (List Bat)} {op : List Bat} {K : List Cop} (h : CopG w F b A cl op K) {g c : Nat} (e : A.lv = .slice (some ⟨g, 0, none⟩) K.length c) {i : Nat} (hi : i < K.length) :
    w.cell? ⟨g, i, none⟩ = some (.pointer (some ⟨A.bt i, 0, none⟩)) ∧ w.frozen? ⟨g, i, none⟩ = false := by
  rcases h.lrow.2 with ⟨_, q⟩ | ⟨g', c', cur, e', _, h1, h2, h3, h4, h5⟩
  · have := h.k0; omega
  · rw [e] at e'
    injection e' with e1 _ _; injection e1 with e1; injection e1 with e1; subst e1
    refine ⟨cells_of h1 i _ ?_, by simp [World.frozen?, h1]⟩
    have q := rowV_at (fun i => Value.pointer (some ⟨A.bt i, 0, none⟩)) hi
    have q2 : (ptrsC A K.length)[i]? = some (.pointer (some ⟨A.bt i, 0, none⟩)) := q
    rw [← h5, List.getElem?_take_of_lt (by omega)] at q2
    exact q2
end Go.Proofs.YtnepdfpooobmcaaGreat
