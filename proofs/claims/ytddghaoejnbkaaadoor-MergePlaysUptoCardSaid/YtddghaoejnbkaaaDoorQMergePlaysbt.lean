/- Contracts and lemmas for the proof of MergePlays; each theorem states its own conditions. -/
import Derived.Test.YtddghaoejnbkaaaDoorQMergePlaysbq
import Derived.Test.YtddghaoejnbkaaaDoorQMergePlaysbr
import Derived.Test.YtddghaoejnbkaaaDoorQMergePlaysbs
import Derived.Test.YtddghaoejnbkaaaDoorQMergePlaysba
set_option linter.unusedVariables false
set_option linter.unusedSimpArgs false
/- Contracts and lemmas for the proofs of this seat; each theorem states its own conditions. -/
namespace Go.Proofs.YtddghaoejnbkaaaDoor
open Go.RowKit
/-! merge.Merge and roref.Merge beside each other -/
theorem MergeSt.besideT {T : List Nat} (hT : 71 ∉ T ∧ 9 ∉ T ∧ 3 ∉ T) {eB : Nat} {w w' : World} {F F' S : Nat → Prop} {bm : Nat} {cl : List (List Bat)} {op : List Bat} (h : MergeSt eB w S bm cl op) (ty : TyS w F T) (dis : ∀ q, S q → ¬ F q) (k : Kp F w w' F') : MergeSt eB w' S bm cl op := by
  obtain ⟨bc, bo, vc, vo, h⟩ := h
  have hp : ∀ {q : Nat} {o : Obj}, w.heap[q]? = some o → S q → w'.heap[q]? = some o := fun a b => k.heap a (dis _ b)
  have ow : ∀ {B e sz n : Nat} {v : Value} {xs : List Value}, w.ownsRow B e sz v n xs → InS S v → w'.ownsRow B e sz v n xs := fun a b => k.own a (fun q hq => dis q (b q hq))
  have ent : ∀ {e : EV} {x : Ent}, EntSt eB w e x → EntSt eB w' e x := fun s => ⟨k.own s.ops (ty.off s.ops hT.1), s.im, k.own s.cuts (ty.off s.cuts hT.2.1), k.own s.own (ty.off s.own hT.2.2)⟩
  have bat : ∀ {u : Value} {b : Bat}, BatSt eB w S u b → BatSt eB w' S u b := by
    rintro u b ⟨es, a, c, d⟩
    exact ⟨es, ⟨a.1, fun j e x p q => ent (a.2 j e x p q)⟩, ow c d, d⟩
  refine ⟨bc, bo, vc, vo, h.n0, h.n4, h.ln, fun q hq => ?_, h.sm, h.sc, h.so, hp h.box h.sm, hp h.crow h.sc, hp h.orow h.so, fun i hi' => ?_, fun i hi' => bat (h.opn i hi'), h.clz, h.cbo, h.opz, Nat.le_trans h.bs k.size⟩
  · obtain ⟨cs, e, hc, hx⟩ := h.ty q hq
    exact ⟨cs, e, hp hc hq, hx⟩
  · obtain ⟨us, a1, a2, a3, a4⟩ := h.cls i hi'
    exact ⟨us, a1, ow a2 a3, a3, fun j u b p q => ⟨bat (a4 j u b p q).1, (a4 j u b p q).2⟩⟩
theorem rTy_off : 71 ∉ rTy ∧ 9 ∉ rTy ∧ 3 ∉ rTy := by decide
structure MPG (w0 wr : World) (S1 S2 P : Nat → Prop) (bm br : Nat) (cl : List (List Bat)) (op : List Bat) (bs : List (List Bat)) : Prop where
  mer : MergeSt 0 wr S1 bm cl op
  ref : RMS wr S2 P br bs
  d12 : ∀ q, S1 q → ¬ S2 q
  d1P : ∀ q, S1 q → ¬ P q
  E : Ext w0 wr
  lo1 : ∀ q, S1 q → w0.heap.size ≤ q
  lo2 : ∀ q, S2 q → w0.heap.size ≤ q
  P0 : ∀ q, q < w0.heap.size → P q
theorem MPG.ext {w0 wr w' : World} {S1 S2 P : Nat → Prop} {bm br : Nat} {cl : List (List Bat)} {op : List Bat} {bs : List (List Bat)} (h : MPG w0 wr S1 S2 P bm br cl op bs) (E : Ext wr w') : MPG w0 w' S1 S2 P bm br cl op bs :=
  { h with mer := h.mer.ext E, ref := h.ref.ext E, E := h.E.trans E }
theorem RMS.ltP {w : World} {S P : Nat → Prop} {bm : Nat} {bs : List (List Bat)} (h : RMS w S P bm bs) {q : Nat} (hq : P q) : q < w.heap.size := h.pl q hq
/-- the merge turns -/
theorem MPG.turnM {w0 wr w' : World} {S1 S2 P S1' : Nat → Prop} {bm br : Nat} {cl cl' : List (List Bat)} {op op' : List Bat} {bs : List (List Bat)} (h : MPG w0 wr S1 S2 P bm br cl op bs) (m : MergeSt 0 w' S1' bm cl' op') (k : Kp S1 wr w' S1') : MPG w0 w' S1' S2 P bm br cl' op' bs := by
  obtain ⟨E', lo'⟩ := k.low h.E h.lo1
  refine ⟨m, h.ref.same (SameP.of_kp k fun q hq hs => ?_), fun q hq hs => ?_, fun q hq hp => ?_, E', lo', h.lo2, h.P0⟩
  · rcases hq with a | a
    · exact h.d12 q hs a
    · exact h.d1P q hs a
  · rcases k.2.2 q hq with a | a
    · exact h.d12 q a hs
    · have := h.ref.ty.lt hs; omega
  · rcases k.2.2 q hq with a | a
    · exact h.d1P q a hp
    · have := h.ref.ltP hp; omega
/-- the document's merge turns -/
theorem MPG.turnR {w0 wr w' : World} {S1 S2 P S2' P' : Nat → Prop} {bm br : Nat} {cl : List (List Bat)} {op : List Bat} {bs bs' : List (List Bat)} (h : MPG w0 wr S1 S2 P bm br cl op bs) (m : RMS w' S2' P' br bs') (k : Kp S2 wr w' S2') (hP : ∀ q, P q → P' q) (hN : ∀ q, P' q → P q ∨ wr.heap.size ≤ q) : MPG w0 w' S1 S2' P' bm br cl op bs' := by
  obtain ⟨E', lo'⟩ := k.low h.E h.lo2
  refine ⟨h.mer.besideT rTy_off h.ref.ty h.d12 k, m, fun q hq hs => ?_, fun q hq hp => ?_, E', h.lo1, lo', fun q hq => hP q (h.P0 q hq)⟩
  · rcases k.2.2 q hs with a | a
    · exact h.d12 q hq a
    · have := h.mer.ty.lt hq; omega
  · rcases hN q hp with a | a
    · exact h.d1P q hq a
    · have := h.mer.ty.lt hq; omega
/-! plain: the two logs, told alike -/
theorem half_plain (x : Ent) : halfE x = plainE x := rfl
theorem batR_set {cl : List (List Bat)} {op : List Bat} (i : Nat) (x : Ent) : (batR cl op i).set ((batR cl op i).length - 1) ((batR cl op i).getD ((batR cl op i).length - 1) [] ++ [x]) = cl.getD i [] ++ [op.getD i [] ++ [x]] := by
  have hl : (batR cl op i).length - 1 = (cl.getD i []).length := by rw [batR_len]; omega
  rw [hl]
  unfold batR
  generalize cl.getD i [] = c
  generalize op.getD i [] = o
  have e : (c ++ [o]).getD c.length [] = o := by simp
  rw [e]
  apply List.ext_getElem?
  intro j
  rw [List.getElem?_set]
  by_cases h : c.length = j
  · subst h; simp
  · rw [if_neg h]
    by_cases hj : j < c.length
    · rw [List.getElem?_append_left hj, List.getElem?_append_left hj]
    · rw [List.getElem?_eq_none (by simp; omega), List.getElem?_eq_none (by simp; omega)]
theorem bat_addR {cl : List (List Bat)} {op : List Bat} {i : Nat} (hi : i < cl.length) (ho : op.length = cl.length) (x : Ent) :
    (batM cl op).set i (((batM cl op).getD i []).set (((batM cl op).getD i []).length - 1) (((batM cl op).getD i []).getD (((batM cl op).getD i []).length - 1) [] ++ [halfE x])) = batM cl (addM op i (plainE x)) := by
  rw [batM_at op hi, batR_set, half_plain, bat_add hi ho]
theorem bat_clsR {cl : List (List Bat)} {op : List Bat} {i : Nat} (hi : i < cl.length) (ho : op.length = cl.length) :
    (batM cl op).set i ((batM cl op).getD i [] ++ [[]]) = batM (clsM cl i (op.getD i [])) (op.set i []) := by
  rw [batM_at op hi, bat_cls hi ho]
/-- what is asked of both, in plain lists -/
structure MPL (n : Nat) (cl : List (List Bat)) (op : List Bat) : Prop where
  lc : cl.length = n
  lo : op.length = n
  few : ∀ i, i < cl.length → (cl.getD i []).length ≤ 60
  many : manyM cl op ≤ 60
  sm : ∀ l ∈ cl, ∀ b ∈ l, ∀ x ∈ b, EntSm x
  smo : ∀ b ∈ op, ∀ x ∈ b, EntSm x
theorem MPL.rounds {n : Nat} {cl : List (List Bat)} {op : List Bat} (h : MPL n cl op) (h0 : 0 < n) : rrTo (batM cl op) (batM cl op).length = rdM cl := by
  rw [batM_len]; exact rr_eq op (by rw [h.lc]; exact h0) h.few
theorem MPL.waits {n : Nat} {cl : List (List Bat)} {op : List Bat} (h : MPL n cl op) (h0 : 0 < n) : rwTo (batM cl op) (rrTo (batM cl op) (batM cl op).length) (batM cl op).length = wtM cl := by
  rw [h.rounds h0, batM_len]; exact rw_eq op (Nat.le_refl _)
theorem MPL.log {n : Nat} {cl : List (List Bat)} {op : List Bat} (h : MPL n cl op) (h0 : 0 < n) : logTo (batM cl op) (rrTo (batM cl op) (batM cl op).length) = logM cl := by
  rw [h.rounds h0]; exact log_eq op (Nat.le_refl _)
theorem MPL.logl {n : Nat} {cl : List (List Bat)} {op : List Bat} (h : MPL n cl op) : (logM cl).length ≤ 60 := by
  have h1 := log_many cl op
  have h2 := h.many
  omega
theorem MPL.logb {n : Nat} {cl : List (List Bat)} {op : List Bat} (h : MPL n cl op) (h0 : 0 < n) : ∀ r i, r < rrTo (batM cl op) (batM cl op).length → i < (batM cl op).length → (logTo (batM cl op) r).length + (rowTo (batM cl op) r i).length + (((batM cl op).getD i []).getD r []).length ≤ 100000 := by
  intro r i hr hi
  rw [h.rounds h0] at hr
  rw [batM_len] at hi
  rw [log_eq op (by omega), row_eq op hr (by omega), batM_at op hi]
  have e : (batR cl op i).getD r [] = (cl.getD i []).getD r [] := by
    have hlt : r < (cl.getD i []).length := Nat.lt_of_lt_of_le hr (rdM_le hi)
    unfold batR
    generalize cl.getD i [] = c at hlt
    simp only [List.getD_eq_getElem?_getD, List.getElem?_append_left hlt]
  rw [e]
  have h1 := log_len hr hi
  have h2 := h.logl
  omega
theorem MPL.nil {n : Nat} : MPL n (List.replicate n []) (List.replicate n []) where
  lc := by simp
  lo := by simp
  few := fun i hi => by rw [getD_repl]; simp
  many := by
    have : ∀ k, manyTo (List.replicate n ([] : List Bat)) (List.replicate n []) k = 0 := fun k => by
      induction k with
      | zero => rfl
      | succ k ih => rw [manyTo, ih, getD_repl, getD_repl']; rfl
    unfold manyM; rw [this]; omega
  sm := fun l hl b hb => by rw [List.eq_of_mem_replicate hl] at hb; simp at hb
  smo := fun b hb x hx => by rw [List.eq_of_mem_replicate hb] at hx; simp at hx
theorem batM_nil (n : Nat) : batM (List.replicate n []) (List.replicate n []) = List.replicate n [[]] := by
  refine bat_ext (by simp [batM]) fun i hi => ?_
  have hi' : i < n := by simpa [batM] using hi
  rw [batM_at _ (by simpa using hi')]
  unfold batR
  rw [getD_repl, getD_repl']
  simp [hi']
theorem MPL.add {n : Nat} {cl : List (List Bat)} {op : List Bat} (h : MPL n cl op) {i : Nat} (hi : i < n) (hm : manyM cl op < 60) {x : Ent} (hx : EntSm (plainE x)) : MPL n cl (addM op i (plainE x)) where
  lc := h.lc
  lo := by rw [add_len]; exact h.lo
  few := h.few
  many := by rw [many_add (by rw [h.lc, h.lo]) (by rw [h.lo]; exact hi)]; omega
  sm := h.sm
  smo := fun b hb y hy => by
    obtain ⟨j, hj, rfl⟩ := List.mem_iff_getElem.1 hb
    rw [add_len] at hj
    have e : (addM op i (plainE x)).getD j [] = (addM op i (plainE x))[j]'(by rw [add_len]; exact hj) := by simp [add_len, hj]
    rw [← e, add_at (by rw [h.lo]; exact hi)] at hy
    have hmem : ∀ k, k < op.length → ∀ z ∈ op.getD k [], EntSm z := fun k hk z hz => by
      have : op.getD k [] = op[k] := by simp [hk]
      rw [this] at hz
      exact h.smo _ (List.getElem_mem hk) z hz
    split at hy
    · rcases List.mem_append.1 hy with a | a
      · exact hmem i (by rw [h.lo]; exact hi) y a
      · simp at a; subst a; exact hx
    · exact hmem j hj y hy
theorem MPL.cls {n : Nat} {cl : List (List Bat)} {op : List Bat} (h : MPL n cl op) {i : Nat} (hi : i < n) (hf : (cl.getD i []).length < 60) : MPL n (clsM cl i (op.getD i [])) (op.set i []) where
  lc := by rw [cls_len]; exact h.lc
  lo := by rw [List.length_set]; exact h.lo
  few := fun j hj => by
    rw [cls_len] at hj
    rw [cls_at (by rw [h.lc]; exact hi)]
    split
    · rename_i e
      subst e
      rw [List.length_append]; simp only [List.length_cons, List.length_nil]; omega
    · exact h.few j hj
  many := by rw [many_cls (by rw [h.lc, h.lo]) (by rw [h.lc]; exact hi)]; exact h.many
  sm := fun l hl b hb x hx => by
    obtain ⟨j, hj, rfl⟩ := List.mem_iff_getElem.1 hl
    rw [cls_len] at hj
    have e : (clsM cl i (op.getD i [])).getD j [] = (clsM cl i (op.getD i []))[j]'(by rw [cls_len]; exact hj) := by simp [cls_len, hj]
    rw [← e, cls_at (by rw [h.lc]; exact hi)] at hb
    have hmem : ∀ k, k < cl.length → ∀ b ∈ cl.getD k [], ∀ x ∈ b, EntSm x := fun k hk b hb => by
      have : cl.getD k [] = cl[k] := by simp [hk]
      rw [this] at hb
      exact h.sm _ (List.getElem_mem hk) b hb
    split at hb
    · rcases List.mem_append.1 hb with a | a
      · exact hmem i (by rw [h.lc]; exact hi) b a x hx
      · have a := List.mem_singleton.1 a
        subst a
        have ho : i < op.length := by rw [h.lo]; exact hi
        have : op.getD i [] = op[i] := by simp [ho]
        rw [this] at hx
        exact h.smo _ (List.getElem_mem ho) x hx
    · exact hmem j hj b hb x hx
  smo := fun b hb x hx => by
    rcases List.mem_or_eq_of_mem_set hb with a | a
    · exact h.smo b a x hx
    · subst a; simp at hx
/-- an entry that may be is not long -/
theorem sm_of_ok {x : Ent} (h : entE x = 0) : EntSm (plainE x) := by
  unfold entE at h
  unfold plainE
  by_cases q : x.im = true
  · rw [if_pos q] at h ⊢
    have m := ok_of_mapErr h
    have h1 := m.few
    have h2 := m.len
    exact ⟨by simp, by simp only; omega, by simp only; omega⟩
  · rw [if_neg q] at h ⊢
    have d := (deed_ok h).hi
    exact ⟨by simp only; omega, by simp, by simp⟩
end Go.Proofs.YtddghaoejnbkaaaDoor
