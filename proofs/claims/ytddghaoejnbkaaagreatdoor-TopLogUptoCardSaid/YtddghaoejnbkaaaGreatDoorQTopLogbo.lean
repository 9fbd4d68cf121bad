/- Contracts and lemmas for the proof of TopLog; each theorem states its own conditions. -/
import Derived.Test.YtddghaoejnbkaaaGreatDoorQTopLogbn
import Derived.Test.YtddghaoejnbkaaaGreatDoorQTopLogba
set_option linter.unusedVariables false
set_option linter.unusedSimpArgs false
/- Contracts and lemmas for the proofs of this seat; each theorem states its own conditions. -/
namespace Go.Proofs.YtddghaoejnbkaaaGreatDoor
open Go.RowKit
/-! copies: what each turn leaves -/
theorem set_at {K : List Cop} {i : Nat} (hi : i < K.length) (k : Cop) (j : Nat) : (K.set i k).getD j copZ = if j = i then k else K.getD j copZ := by
  by_cases e : j = i
  · subst e; rw [if_pos rfl]; simp [hi]
  · rw [if_neg e]
    simp only [List.getD_eq_getElem?_getD]
    rw [List.getElem?_set_ne (fun h => e h.symm)]
theorem rowV_congr {n : Nat} {f g : Nat → Value} (h : ∀ i, i < n → f i = g i) : rowV n f = rowV n g := by
  unfold rowV
  exact List.map_congr_left fun i hi => h i (List.mem_range.1 hi)
theorem dns_set {K : List Cop} {i : Nat} (hi : i < K.length) (k : Cop) : dnsC (K.set i k) = rowV K.length (fun j => if j = i then .int .i64 (k.dn : Nat) else .int .i64 ((K.getD j copZ).dn : Nat)) := by
  unfold dnsC
  rw [List.length_set]
  refine rowV_congr fun j hj => ?_
  rw [set_at hi]
  by_cases e : j = i
  · rw [if_pos e, if_pos e]
  · rw [if_neg e, if_neg e]
theorem dns_same {K : List Cop} {i : Nat} (hi : i < K.length) {k : Cop} (h : k.dn = (K.getD i copZ).dn) : dnsC (K.set i k) = dnsC K := by
  rw [dns_set hi]
  unfold dnsC
  refine rowV_congr fun j hj => ?_
  by_cases e : j = i
  · subst e; rw [if_pos rfl, h]
  · rw [if_neg e]
section
variable {w w' : World} {F : Nat → Prop} {b : Nat} {A : CopA} {cl : List (List Bat)} {op : List Bat} {K : List Cop}
theorem tyS_grown {T : List Nat} (h : TyS w F T) {g : Nat} {cs : Array Value} {t : TypeId} (hb : w'.heap[g]? = some (.cells cs t (0, 0))) (ht : t ∈ T) (hg : w.grownBy w' (some g)) : TyS w' F T := fun k hk => by
  by_cases e : k = g
  · subst e; exact ⟨_, _, hb, ht⟩
  · obtain ⟨cs', t', hc, hm⟩ := h k hk
    exact ⟨cs', t', grown_heap hg hc (fun q => by injection q with q; exact e q.symm), hm⟩
theorem fi_grown {T : List Nat} {d : Nat} (ty : TyS w F T) (fi : ∀ k cs fr, F k → w.heap[k]? = some (.cells cs 3 fr) → k = d) {g : Nat} {cs0 : Array Value} {t : TypeId} {fr0 : Nat × Nat} (hb : w'.heap[g]? = some (.cells cs0 t fr0)) (ht : t ≠ 3 ∨ g = d) (hg : w.grownBy w' (some g)) : ∀ k cs fr, F k → w'.heap[k]? = some (.cells cs 3 fr) → k = d := by
  intro k cs fr hk hc
  by_cases e : k = g
  · subst e
    rcases ht with q | q
    · rw [hb] at hc; injection hc with hc; injection hc with _ hc; exact absurd hc q
    · exact q
  · obtain ⟨cs', t', hc', _⟩ := ty k hk
    have h2 := grown_heap hg hc' (fun q => by injection q with q; exact e q.symm)
    rw [h2] at hc
    injection hc with hc; injection hc with h3 h4 h5
    subst h3; subst h4; subst h5
    exact fi k _ _ hk hc'
/-- one copy's parts turn -/
theorem CopG0.turn (h : CopG0 w F b A cl op K) {i : Nat} (hi : i < K.length) {C : List ByteArray} {O : List Int} {S : Prs} {vc vs : Value} {pv : Nat → Value} (hp : PartsSt w' (A.bt i) C O (parP C O S) vc vs pv) (hvs : ∀ k, vs.ownBlock = some k → ¬ A.Z k) (hg : w.grownBy w' (some (A.bt i))) :
    CopG0 w' F b { A with vc := fun j => if j = i then vc else A.vc j, vs := fun j => if j = i then vs else A.vs j, pv := fun j => if j = i then pv else A.pv j } cl op (K.set i ⟨C, O, S, (K.getD i copZ).dn, (K.getD i copZ).ok⟩) ∧ Kp F w w' F := by
  have hb := (h.parts i hi).box
  refine ⟨⟨by rw [List.length_set]; exact h.k0, by rw [List.length_set]; exact h.k4, by rw [List.length_set]; exact grown_heap hg h.box (far_ne hb h.box (by decide)), h.mer.far hb (by decide) (.inl (by decide)) hg, by rw [List.length_set]; exact far_own hb hg h.lrow (.inl (by decide)), ?_, ?_, ?_, ?_, ?_, by rw [List.length_set]; exact h.okz, by rw [List.length_set]; exact h.btz, h.zd, (fun k hk => Nat.lt_of_lt_of_le (h.zb k hk) hg.size), h.zl, ?_, ?_, h.fb, h.fd, h.fo, h.fl, by rw [List.length_set]; exact h.ft, by rw [List.length_set]; exact h.fv⟩, Kp.of_grown hg (fun k e => by injection e with e; subst e; exact h.ft i hi)⟩
  · rw [dns_same hi (k := ⟨C, O, S, (K.getD i copZ).dn, (K.getD i copZ).ok⟩) rfl]
    exact grown_heap hg h.drow (far_ne hb h.drow (by decide))
  · rw [List.length_set]
    exact grown_heap hg h.orow (far_ne hb h.orow (by decide))
  · intro j hj
    rw [List.length_set] at hj
    rw [set_at hi]
    try dsimp only
    by_cases e : j = i
    · subst e
      simp only [if_pos]
      exact hp
    · simp only [if_neg e]
      exact (h.parts j hj).far hb (fun q => h.btz j i hj hi e q.symm) (by decide) (by decide) (.inl (by decide)) hg
  · intro j hj
    rw [List.length_set] at hj
    have := far_own hb hg (h.oks j hj) (.inl (by decide))
    rw [set_at hi]
    by_cases e : j = i
    · subst e
      rw [if_pos rfl]; exact this
    · rw [if_neg e]; exact this
  · intro j hj
    rw [List.length_set] at hj
    try dsimp only
    by_cases e : j = i
    · rw [if_pos e]; exact hvs
    · rw [if_neg e]; exact h.far j hj
  · exact fi_grown h.ty h.fi hp.box (.inl (by decide)) hg
  · exact tyS_grown h.ty hp.box (by decide) hg
/-- how many are done, set -/
theorem CopG0.count (h : CopG0 w F b A cl op K) {i : Nat} (hi : i < K.length) (m : Nat) :
    CopG0 (w.setCell ⟨A.bd, i, none⟩ (.int .i64 (m : Int))) F b A cl op (K.set i ⟨(K.getD i copZ).C, (K.getD i copZ).O, (K.getD i copZ).S, m, (K.getD i copZ).ok⟩) ∧ Kp F w (w.setCell ⟨A.bd, i, none⟩ (.int .i64 (m : Int))) F := by
  have hb := h.drow
  have hg := grown_set w A.bd i (.int .i64 (m : Int))
  have hrow := row_set hb (i := i) (.int .i64 (m : Int))
  refine ⟨⟨by rw [List.length_set]; exact h.k0, by rw [List.length_set]; exact h.k4, by rw [List.length_set]; exact grown_heap hg h.box (far_ne hb h.box (by decide)), h.mer.far hb (by decide) (.inr h.lt) hg, by rw [List.length_set]; exact far_own hb hg h.lrow (.inl (by decide)), ?_, ?_, ?_, ?_, by rw [List.length_set]; exact h.far, by rw [List.length_set]; exact h.okz, by rw [List.length_set]; exact h.btz, h.zd, (fun k hk => Nat.lt_of_lt_of_le (h.zb k hk) hg.size), h.zl, ?_, ?_, h.fb, h.fd, h.fo, h.fl, by rw [List.length_set]; exact h.ft, by rw [List.length_set]; exact h.fv⟩, Kp.of_grown hg (fun k e => by injection e with e; subst e; exact h.fd)⟩
  · rw [dns_set hi]; exact hrow
  · rw [List.length_set]
    exact grown_heap hg h.orow (far_ne hb h.orow (by decide))
  · intro j hj
    rw [List.length_set] at hj
    have := (h.parts j hj).far hb (fun e => by
      have a := (h.parts j hj).box
      rw [← e, hb] at a; injection a with a; injection a with _ a; exact absurd a (by decide)) (by decide) (by decide) (.inr (h.farD hj)) hg
    rw [set_at hi]
    by_cases e : j = i
    · subst e
      rw [if_pos rfl]; exact this
    · rw [if_neg e]; exact this
  · intro j hj
    rw [List.length_set] at hj
    have := far_own hb hg (h.oks j hj) (.inl (by decide))
    rw [set_at hi]
    by_cases e : j = i
    · subst e
      rw [if_pos rfl]; exact this
    · rw [if_neg e]; exact this
  · exact fi_grown h.ty h.fi hrow (.inr rfl) hg
  · exact tyS_grown h.ty hrow (by decide) hg
/-- what one copy tells grows -/
theorem CopG0.told (h : CopG0 w F b A cl op K) {i : Nat} (hi : i < K.length) {v : Value} {ok : List Bool} (hown : w'.ownsRow 0 4 1 v ok.length (ok.map Value.bool)) (hg : w.grownBy w' (A.vo i).ownBlock) (hv : ∀ k, v.ownBlock = some k → (A.vo i).ownBlock = some k ∨ w.heap.size ≤ k) :
    ∃ F', CopG0 (w'.setCell ⟨A.bo, i, none⟩ v) F' b { A with vo := fun j => if j = i then v else A.vo j } cl op (K.set i ⟨(K.getD i copZ).C, (K.getD i copZ).O, (K.getD i copZ).S, (K.getD i copZ).dn, ok⟩) ∧ Kp F w (w'.setCell ⟨A.bo, i, none⟩ v) F' ∧ ∀ k, A.S k → F k → F' k := by
  have ho := h.oks i hi
  have keep : ∀ {B e sz n : Nat} {u : Value} {xs : List Value}, w.ownsRow B e sz u n xs → e ≠ 4 → w'.ownsRow B e sz u n xs := fun q hne => grown_own hg q (own_own_ne q ho hne)
  have heapk : ∀ {k : Nat} {cs : Array Value} {t : TypeId} {fr : Nat × Nat}, w.heap[k]? = some (.cells cs t fr) → 4 ≠ t → w'.heap[k]? = some (.cells cs t fr) := fun q hne => grown_heap hg q (own_ne ho q hne)
  have hbo := heapk h.orow (by decide)
  have hs := grown_set w' A.bo i v
  have hvo := own_ne hown hbo (by decide)
  have nb : b ≠ A.bo := fun e => by have a := h.box; rw [e, h.orow] at a; injection a with a; injection a with _ a; exact absurd a (by decide)
  have nd : A.bd ≠ A.bo := fun e => by have a := h.drow; rw [e, h.orow] at a; injection a with a; injection a with _ a; exact absurd a (by decide)
  have mer1 : MergeSt A.eB w' A.S A.bm cl op := by
    rcases hq : (A.vo i).ownBlock with _ | g
    · rw [hq] at hg; exact h.mer.ext (ext_of_grown hg)
    · obtain ⟨cur, hc⟩ := own_some ho hq
      rw [hq] at hg
      exact h.mer.far hc (by decide) (.inl (by decide)) hg
  have lt : ∀ {j : Nat}, j < K.length → ∀ k, (A.vo j).ownBlock = some k → k < w.heap.size := fun hj k hk => ((h.oks _ hj).lt k hk).2
  have hK1 : Kp F w (w'.setCell ⟨A.bo, i, none⟩ v) F := (Kp.of_grown hg (fun k e => h.fv i hi k e)).put h.fo v
  refine ⟨fun k => (F k ∧ (A.vo i).ownBlock ≠ some k) ∨ v.ownBlock = some k, ⟨by rw [List.length_set]; exact h.k0, by rw [List.length_set]; exact h.k4, by rw [List.length_set]; exact heap_set_far (heapk h.box (by decide)) nb, mer1.far hbo (by decide) (.inl (by decide)) hs, by rw [List.length_set]; exact own_set_other (keep h.lrow (by decide)) (own_ne (keep h.lrow (by decide)) hbo (by decide)) v, ?_, ?_, ?_, ?_, by rw [List.length_set]; exact h.far, ?_, by rw [List.length_set]; exact h.btz, h.zd, (fun k hk => Nat.lt_of_lt_of_le (h.zb k hk) (Nat.le_trans hg.size hs.size)), h.zl, ?_, ?_, .inl ⟨h.fb, own_ne ho h.box (by decide)⟩, .inl ⟨h.fd, own_ne ho h.drow (by decide)⟩, .inl ⟨h.fo, own_ne ho h.orow (by decide)⟩, ?_, ?_, ?_⟩, hK1.wide (fun k hk => ?_), fun k hs' hf => ?_⟩
  · rw [dns_same hi (k := ⟨(K.getD i copZ).C, (K.getD i copZ).O, (K.getD i copZ).S, (K.getD i copZ).dn, ok⟩) rfl]
    exact heap_set_far (heapk h.drow (by decide)) nd
  · rw [List.length_set]
    exact row_set hbo v
  · intro j hj
    rw [List.length_set] at hj
    have p := h.parts j hj
    have p1 : PartsSt w' (A.bt j) _ _ _ _ _ _ := ⟨heapk p.box (by decide), keep p.cuts (by decide), keep p.owners (by decide), fun q hq => keep (p.rows q hq) (by decide)⟩
    have p2 := p1.far hbo (fun e => by have a := p1.box; rw [← e, hbo] at a; injection a with a; injection a with _ a; exact absurd a (by decide)) (by decide) (by decide) (.inl (by decide)) hs
    rw [set_at hi]
    by_cases e : j = i
    · subst e
      rw [if_pos rfl]; exact p2
    · rw [if_neg e]; exact p2
  · intro j hj
    rw [List.length_set] at hj
    rw [set_at hi]
    try dsimp only
    by_cases e : j = i
    · subst e
      simp only [if_pos]
      exact own_set_other hown hvo v
    · simp only [if_neg e]
      have q := grown_own hg (h.oks j hj) (apart_ne (h.okz j i hj hi e))
      exact own_set_other q (own_ne q hbo (by decide)) v
  · rw [List.length_set]
    intro j j' hj hj' hne
    try dsimp only
    by_cases e : j = i
    · subst e
      rw [if_pos rfl, if_neg (fun e => hne e.symm)]
      intro k hk hk'
      rcases hv k hk with c | c
      · exact h.okz j j' hj hj' hne k c hk'
      · have := lt hj' k hk'; omega
    · rw [if_neg e]
      split
      · rename_i e'
        subst e'
        intro k hk hk'
        rcases hv k hk' with c | c
        · exact h.okz j j' hj hj' hne k hk c
        · have := lt hj k hk; omega
      · exact h.okz j j' hj hj' hne
  · intro k cs fr hk hc
    by_cases e2 : k = A.bo
    · subst e2
      rw [row_set hbo v] at hc
      injection hc with hc; injection hc with _ hc; exact absurd hc (by decide)
    · rcases hk with ⟨a, c⟩ | a
      · obtain ⟨cs', e, hc', hm⟩ := h.ty k a
        have h2 := heap_set_far (p := ⟨A.bo, i, none⟩) (u := v) (grown_heap hg hc' c) e2
        rw [h2] at hc
        injection hc with hc; injection hc with h3 h4 h5
        subst h3; subst h4; subst h5
        exact h.fi k _ _ a hc'
      · obtain ⟨cur, hc'⟩ := own_some hown a
        have h2 := heap_set_far (p := ⟨A.bo, i, none⟩) (u := v) hc' e2
        rw [h2] at hc
        injection hc with hc; injection hc with _ hc; exact absurd hc (by decide)
  · intro k hk
    rcases hk with ⟨a, c⟩ | a
    · obtain ⟨cs, e, hc, hm⟩ := h.ty k a
      have hc' := grown_heap hg hc c
      by_cases e2 : k = A.bo
      · subst e2; exact ⟨_, _, row_set hbo v, by decide⟩
      · exact ⟨cs, e, heap_set_far hc' e2, hm⟩
    · obtain ⟨cur, hc⟩ := own_some hown a
      exact ⟨cur, _, heap_set_far hc (fun e => hvo (by rw [a, e])), by decide⟩
  · intro k hk
    exact .inl ⟨h.fl k hk, fun q => by
      rcases own_own_ne h.lrow ho (by decide) with z | z
      · rw [z] at hk; cases hk
      · exact z (hk.trans q.symm)⟩
  · rw [List.length_set]
    intro j hj
    exact .inl ⟨h.ft j hj, own_ne ho (h.parts j hj).box (by decide)⟩
  · rw [List.length_set]
    intro j hj k hk
    try dsimp only at hk
    by_cases e : j = i
    · rw [if_pos e] at hk; exact .inr hk
    · rw [if_neg e] at hk
      exact .inl ⟨h.fv j hj k hk, h.okz j i hj hi e k hk⟩
  · rcases hk with a | a
    · exact .inl a.1
    · rcases hv k a with c | c
      · exact .inl (h.fv i hi k c)
      · exact .inr c
  · obtain ⟨cs, e, hc, hm⟩ := h.mer.ty k hs'
    exact .inl ⟨hf, own_ne ho hc (fun q => by rw [← q] at hm; exact absurd hm (by decide))⟩
/-- other parts for one copy -/
theorem CopG0.put (h : CopG0 w F b A cl op K) {i : Nat} (hi : i < K.length) {g c : Nat} (hlv : A.lv = .slice (some ⟨g, 0, none⟩) K.length c) {p : Nat} {C : List ByteArray} {O : List Int} {S : Prs} {vc vs : Value} {pv : Nat → Value} (hp : PartsSt w p C O (parP C O S) vc vs pv) (hvs : ∀ k, vs.ownBlock = some k → ¬ A.Z k) {w0 : World} (E : Ext w0 w) (hn : w0.heap.size ≤ p) (hold : ∀ j, j < K.length → A.bt j < w0.heap.size) :
    CopG0 (w.setCell ⟨g, i, none⟩ (.pointer (some ⟨p, 0, none⟩))) (fun k => F k ∨ k = p) b { A with bt := fun j => if j = i then p else A.bt j, vc := fun j => if j = i then vc else A.vc j, vs := fun j => if j = i then vs else A.vs j, pv := fun j => if j = i then pv else A.pv j } cl op (K.set i ⟨C, O, S, (K.getD i copZ).dn, (K.getD i copZ).ok⟩) ∧ Kp F w0 (w.setCell ⟨g, i, none⟩ (.pointer (some ⟨p, 0, none⟩))) (fun k => F k ∨ k = p) := by
  have hlr := h.lrow
  rw [hlv] at hlr
  obtain ⟨hst, hg⟩ := World.ownsRow.stored hlr i (.pointer (some ⟨p, 0, none⟩))
  obtain ⟨cur, hb⟩ := own_some hlr (k := g) rfl
  obtain ⟨cur2, hb2⟩ := own_some hst (k := g) rfl
  have hFg : F g := h.fl g (by rw [hlv]; rfl)
  have pf : ∀ {t' : Nat} {C : List ByteArray} {O : List Int} {P : Nat → Prs} {vc vo : Value} {pv : Nat → Value}, PartsSt w t' C O P vc vo pv → PartsSt (w.setCell ⟨g, i, none⟩ (.pointer (some ⟨p, 0, none⟩))) t' C O P vc vo pv := fun q => q.far hb (fun e => by have a := q.box; rw [← e, hb] at a; injection a with a; injection a with _ a; exact absurd a (by decide)) (by decide) (by decide) (.inl (by decide)) hg
  refine ⟨⟨by rw [List.length_set]; exact h.k0, by rw [List.length_set]; exact h.k4, by rw [List.length_set]; exact grown_heap hg h.box (far_ne hb h.box (by decide)), h.mer.far hb (by decide) (.inl (by decide)) hg, ?_, ?_, ?_, ?_, ?_, ?_, by rw [List.length_set]; exact h.okz, ?_, h.zd, (fun k hk => Nat.lt_of_lt_of_le (h.zb k hk) hg.size), h.zl, ?_, ?_, .inl h.fb, .inl h.fd, .inl h.fo, fun k hk => .inl (h.fl k hk), ?_, by rw [List.length_set]; exact fun j hj k hk => .inl (h.fv j hj k hk)⟩, ?_⟩
  · rw [List.length_set]
    have e : (ptrsC A K.length).set i (.pointer (some ⟨p, 0, none⟩)) = rowV K.length (fun j => .pointer (some ⟨(if j = i then p else A.bt j), 0, none⟩)) := by
      unfold ptrsC
      rw [rowV_set]
      refine rowV_congr fun j _ => ?_
      by_cases q : j = i
      · rw [if_pos q, if_pos q]
      · rw [if_neg q, if_neg q]
    rw [e] at hst
    show World.ownsRow _ 0 _ 1 A.lv _ _
    rw [hlv]
    exact hst
  · rw [dns_same hi (k := ⟨C, O, S, (K.getD i copZ).dn, (K.getD i copZ).ok⟩) rfl]
    exact grown_heap hg h.drow (far_ne hb h.drow (by decide))
  · rw [List.length_set]
    exact grown_heap hg h.orow (far_ne hb h.orow (by decide))
  · intro j hj
    rw [List.length_set] at hj
    rw [set_at hi]
    try dsimp only
    by_cases e : j = i
    · simp only [if_pos e]
      exact pf hp
    · simp only [if_neg e]
      exact pf (h.parts j hj)
  · intro j hj
    rw [List.length_set] at hj
    have := far_own hb hg (h.oks j hj) (.inl (by decide))
    rw [set_at hi]
    by_cases e : j = i
    · subst e
      rw [if_pos rfl]; exact this
    · rw [if_neg e]; exact this
  · intro j hj
    rw [List.length_set] at hj
    try dsimp only
    by_cases e : j = i
    · rw [if_pos e]; exact hvs
    · rw [if_neg e]; exact h.far j hj
  · rw [List.length_set]
    intro j j' hj hj' hne
    try dsimp only
    have l1 := hold j hj
    have l2 := hold j' hj'
    by_cases e : j = i
    · rw [if_pos e, if_neg (fun q => hne (e.trans q.symm))]; omega
    · rw [if_neg e]
      split
      · omega
      · exact h.btz j j' hj hj' hne
  · intro k cs fr hk hc
    rcases hk with a | a
    · exact fi_grown h.ty h.fi hb2 (.inl (by decide)) hg k cs fr a hc
    · subst a
      rw [(pf hp).box] at hc
      injection hc with hc; injection hc with _ hc; exact absurd hc (by decide)
  · intro k hk
    rcases hk with a | a
    · by_cases e : k = g
      · subst e; exact ⟨_, _, hb2, by decide⟩
      · obtain ⟨cs, t, hc, hm⟩ := h.ty k a
        exact ⟨cs, t, grown_heap hg hc (fun q => by injection q with q; exact e q.symm), hm⟩
    · subst a
      exact ⟨_, _, (pf hp).box, by decide⟩
  · rw [List.length_set]
    intro j hj
    try dsimp only
    by_cases e : j = i
    · rw [if_pos e]; exact .inr rfl
    · rw [if_neg e]; exact .inl (h.ft j hj)
  · have k1 : Kp F w0 (w.setCell ⟨g, i, none⟩ (.pointer (some ⟨p, 0, none⟩))) F := Kp.after E (Kp.of_grown hg (fun k e => by injection e with e; subst e; exact hFg))
    exact k1.wide fun k hk => by
      rcases hk with a | a
      · exact .inl a
      · subst a; exact .inr hn
theorem CopG.turn (h : CopG w F b A cl op K) {i : Nat} (hi : i < K.length) {C : List ByteArray} {O : List Int} {S : Prs} {vc vs : Value} {pv : Nat → Value} (hp : PartsSt w' (A.bt i) C O (parP C O S) vc vs pv) (hvs : ∀ k, vs.ownBlock = some k → ¬ A.Z k) (hg : w.grownBy w' (some (A.bt i))) :
    CopG w' F b { A with vc := fun j => if j = i then vc else A.vc j, vs := fun j => if j = i then vs else A.vs j, pv := fun j => if j = i then pv else A.pv j } cl op (K.set i ⟨C, O, S, (K.getD i copZ).dn, (K.getD i copZ).ok⟩) ∧ Kp F w w' F := by
  obtain ⟨g, k⟩ := h.toCopG0.turn hi hp hvs hg
  exact ⟨⟨g, h.fS⟩, k⟩
theorem CopG.count (h : CopG w F b A cl op K) {i : Nat} (hi : i < K.length) (m : Nat) :
    CopG (w.setCell ⟨A.bd, i, none⟩ (.int .i64 (m : Int))) F b A cl op (K.set i ⟨(K.getD i copZ).C, (K.getD i copZ).O, (K.getD i copZ).S, m, (K.getD i copZ).ok⟩) ∧ Kp F w (w.setCell ⟨A.bd, i, none⟩ (.int .i64 (m : Int))) F := by
  obtain ⟨g, k⟩ := h.toCopG0.count hi m
  exact ⟨⟨g, h.fS⟩, k⟩
theorem CopG.put (h : CopG w F b A cl op K) {i : Nat} (hi : i < K.length) {g c : Nat} (hlv : A.lv = .slice (some ⟨g, 0, none⟩) K.length c) {p : Nat} {C : List ByteArray} {O : List Int} {S : Prs} {vc vs : Value} {pv : Nat → Value} (hp : PartsSt w p C O (parP C O S) vc vs pv) (hvs : ∀ k, vs.ownBlock = some k → ¬ A.Z k) {w0 : World} (E : Ext w0 w) (hn : w0.heap.size ≤ p) (hold : ∀ j, j < K.length → A.bt j < w0.heap.size) :
    CopG (w.setCell ⟨g, i, none⟩ (.pointer (some ⟨p, 0, none⟩))) (fun k => F k ∨ k = p) b { A with bt := fun j => if j = i then p else A.bt j, vc := fun j => if j = i then vc else A.vc j, vs := fun j => if j = i then vs else A.vs j, pv := fun j => if j = i then pv else A.pv j } cl op (K.set i ⟨C, O, S, (K.getD i copZ).dn, (K.getD i copZ).ok⟩) ∧ Kp F w0 (w.setCell ⟨g, i, none⟩ (.pointer (some ⟨p, 0, none⟩))) (fun k => F k ∨ k = p) := by
  obtain ⟨g, k⟩ := h.toCopG0.put hi hlv hp hvs E hn hold
  exact ⟨⟨g, fun q hq => .inl (h.fS q hq)⟩, k⟩
theorem CopG.told (h : CopG w F b A cl op K) {i : Nat} (hi : i < K.length) {v : Value} {ok : List Bool} (hown : w'.ownsRow 0 4 1 v ok.length (ok.map Value.bool)) (hg : w.grownBy w' (A.vo i).ownBlock) (hv : ∀ k, v.ownBlock = some k → (A.vo i).ownBlock = some k ∨ w.heap.size ≤ k) :
    ∃ F', CopG (w'.setCell ⟨A.bo, i, none⟩ v) F' b { A with vo := fun j => if j = i then v else A.vo j } cl op (K.set i ⟨(K.getD i copZ).C, (K.getD i copZ).O, (K.getD i copZ).S, (K.getD i copZ).dn, ok⟩) ∧ Kp F w (w'.setCell ⟨A.bo, i, none⟩ v) F' := by
  obtain ⟨F', g, k, z⟩ := h.toCopG0.told hi hown hg hv
  exact ⟨F', ⟨g, fun q hq => z q hq (h.fS q hq)⟩, k⟩
/-- the merge turns -/
theorem CopG.merge (h : CopG w F b A cl op K) {S' : Nat → Prop} {cl' : List (List Bat)} {op' : List Bat} (hm : MergeSt A.eB w' S' A.bm cl' op') (hk : Kp A.S w w' S') :
    ∃ F', CopG w' F' b { A with S := S' } cl' op' K ∧ Kp F w w' F' := by
  have ty := h.mer.ty
  have hk0 := hk.size
  have no : ∀ {k : Nat} {cs : Array Value} {t : TypeId} {fr : Nat × Nat}, w.heap[k]? = some (.cells cs t fr) → t ∉ mTy → ¬ A.S k := fun q ht => tyS_not ty q ht
  have hp : ∀ {k : Nat} {cs : Array Value} {t : TypeId} {fr : Nat × Nat}, w.heap[k]? = some (.cells cs t fr) → t ∉ mTy → w'.heap[k]? = some (.cells cs t fr) := fun q ht => hk.heap q (no q ht)
  have ow : ∀ {B e sz n : Nat} {v : Value} {xs : List Value}, w.ownsRow B e sz v n xs → e ∉ mTy → w'.ownsRow B e sz v n xs := fun q ht => hk.own q (ty.off q ht)
  have kF : Kp F w w' (fun k => (F k ∧ ¬ A.S k) ∨ S' k) := ⟨hk.1, fun k hl hF => hk.2.1 k hl (fun q => hF (h.fS k q)), fun k hq => by
    rcases hq with a | a
    · exact .inl a.1
    · rcases hk.2.2 k a with c | c
      · exact .inl (h.fS k c)
      · exact .inr c⟩
  refine ⟨fun k => (F k ∧ ¬ A.S k) ∨ S' k, ⟨⟨h.k0, h.k4, hp h.box (by decide), hm, ow h.lrow (by decide), hp h.drow (by decide), hp h.orow (by decide), fun i hi => ?_, fun i hi => ow (h.oks i hi) (by decide), h.far, h.okz, h.btz, h.zd, fun k hk => Nat.lt_of_lt_of_le (h.zb k hk) hk0, h.zl, ?_, ?_, .inl ⟨h.fb, no h.box (by decide)⟩, .inl ⟨h.fd, no h.drow (by decide)⟩, .inl ⟨h.fo, no h.orow (by decide)⟩, fun k q => .inl ⟨h.fl k q, ty.off h.lrow (by decide) k q⟩, fun i hi => .inl ⟨h.ft i hi, no (h.parts i hi).box (by decide)⟩, fun i hi k q => .inl ⟨h.fv i hi k q, ty.off (h.oks i hi) (by decide) k q⟩⟩, fun k q => .inr q⟩, kF⟩
  · have p := h.parts i hi
    exact ⟨hp p.box (by decide), ow p.cuts (by decide), ow p.owners (by decide), fun j hj => ow (p.rows j hj) (by decide)⟩
  · intro k cs fr hq hc
    rcases hq with ⟨a, c⟩ | a
    · obtain ⟨cs', t', hc', _⟩ := h.ty k a
      rw [hk.heap hc' c] at hc
      injection hc with hc; injection hc with h3 h4 h5
      subst h3; subst h4; subst h5
      exact h.fi k _ _ a hc'
    · obtain ⟨cs', t', hc', hx⟩ := hm.ty k a
      rw [hc'] at hc
      injection hc with hc; injection hc with _ h4
      rw [h4] at hx
      exact absurd hx (by decide)
  · intro k hq
    rcases hq with ⟨a, c⟩ | a
    · obtain ⟨cs, t, hc, hm⟩ := h.ty k a
      exact ⟨cs, t, hk.heap hc c, hm⟩
    · obtain ⟨cs, t, hc, hx⟩ := hm.ty k a
      exact ⟨cs, t, hc, List.mem_append.2 (.inl hx)⟩
end
end Go.Proofs.YtddghaoejnbkaaaGreatDoor

/- Contracts and lemmas for the proofs of this seat; each theorem states its own conditions. -/
namespace Go.Proofs.YtddghaoejnbkaaaGreatDoor
open Go.RowKit
/-! a region that draws its order, in which one operation (m) turns what lies there: all others only read and make -/
def MStep (P : Program) (l : List Oper) (t0 : Array Value) (ds : List Deferred) (c : Nat → Option Value) (m : Nat) (K S0 S1 : World → Prop) (i : Nat) (o : Oper) : Prop :=
  ∀ (x : Nat → Value) (w : World), (∀ e ∈ o.after, Region.binds .any e = true → ∀ v, c e.on = some v → x e.on = v) →
    (i ≠ m → K w → TPost P l t0 ds x o (fun v w' => (∀ u, c i = some u → v = u) ∧ Ext w w') w) ∧
    (i = m → S0 w → TPost P l t0 ds x o (fun v w' => (∀ u, c i = some u → v = u) ∧ S1 w') w)
theorem wp_region_mid {P : Program} {l : List Oper} {id : Nat} {Q : Exit → Act → World → Prop} {t0 : Array Value} {ds : List Deferred} {w : World} (hm : P.follows .mixedOrders = true) (hB : regB l.toArray = true)
    (c : Nat → Option Value) (m : Nat) (hmo : decide (m < l.length) = true) (K S0 S1 : World → Prop)
    (st0 : ∀ {a b}, Ext a b → S0 a → S0 b) (st1 : ∀ {a b}, Ext a b → S1 a → S1 b) (k0 : ∀ {a}, S0 a → K a) (k1 : ∀ {a}, S1 a → K a)
    (h0 : S0 w.drew) (hs : AllFrom (MStep P l t0 ds c m K S0 S1) l 0)
    (hend : ∀ x w', (∀ i, i < l.length → ∀ v, c i = some v → x i = v) → S1 w' → Q .normal ⟨frL x l 0 t0, ds⟩ w') : (Code.region id l.toArray true).wp P Q ⟨t0, ds⟩ w := by
  have hmo : m < l.length := of_decide_eq_true hmo
  refine wp_region_lit_inv hm hB c (fun L _ w' => (L m = false → S0 w') ∧ (L m = true → S1 w')) ⟨fun _ => h0, fun h => (by cases h)⟩ ?_ ?_
  · have : ∀ (r : List Oper) (k : Nat), (∀ i o, r[i]? = some o → l[k + i]? = some o) → AllFrom (Step P l t0 ds c (fun L _ w' => (L m = false → S0 w') ∧ (L m = true → S1 w'))) r k := by
      intro r
      induction r with
      | nil => intro k _; exact trivial
      | cons o r ih =>
        intro k hk
        refine ⟨?_, ih (k + 1) fun i o' ho' => by
          have := hk (i + 1) o' (by simpa using ho')
          rwa [show k + (i + 1) = k + 1 + i from by omega] at this⟩
        intro L x w' hLk hcl hd hG
        have hok : l[k]? = some o := by simpa using hk 0 o rfl
        have ht := hs.get k o hok
        rw [Nat.zero_add] at ht
        obtain ⟨t1, t2⟩ := ht x w' fun e he hb v hv => (hd e he hb).2 v hv
        obtain ⟨g1, g2⟩ := hG
        show TPost P l t0 ds x o (fun v w'' => (∀ u, c k = some u → v = u) ∧ _) w'
        by_cases hkm : k = m
        · subst hkm
          refine (t2 rfl (g1 hLk)).mono fun v w'' h => ⟨h.1, fun h' => ?_, fun _ => h.2⟩
          rw [upd_same] at h'; cases h'
        · have hK : K w' := by
            cases e : L m with
            | false => exact k0 (g1 e)
            | true => exact k1 (g2 e)
          refine (t1 hkm hK).mono fun v w'' h => ⟨h.1, fun h' => ?_, fun h' => ?_⟩
          · rw [upd_ne _ _ (Ne.symm hkm)] at h'; exact st0 h.2 (g1 h')
          · rw [upd_ne _ _ (Ne.symm hkm)] at h'; exact st1 h.2 (g2 h')
    exact this l 0 fun i o ho => by rw [Nat.zero_add]; exact ho
  · intro L x w' hall hG
    exact hend x w' (fun i hi v hv => (hall i hi).2 v hv) (hG.2 (hall m hmo).1)
end Go.Proofs.YtddghaoejnbkaaaGreatDoor

/- Contracts and lemmas for the proofs of this seat; each theorem states its own conditions. -/
namespace Go.Proofs.YtddghaoejnbkaaaGreatDoor
open Go.RowKit
/-! copies: is, Done, All, Part -/
theorem cis_ok0 {w : World} {F : Nat → Prop} {b : Nat} {A : CopA} {cl : List (List Bat)} {op : List Bat} {K : List Cop} (h : CopG0 w F b A cl op K) (z : Int) :
    Calls Tryz.prog 99 #[.pointer (some ⟨b, 0, none⟩), .int .i64 z] w fun e w' => e = .returned (.bool (decide (0 ≤ z ∧ z < (K.length : Int)))) ∧ w' = w := by
  obtain ⟨g, c, e, _, _, _, _⟩ := h.lform
  obtain ⟨_, c1, _, _⟩ := h.cells
  rw [e] at c1
  clear h e
  by_cases h0 : z ≥ 0
  · by_cases h1 : z < (K.length : Int)
    · rw [show decide (0 ≤ z ∧ z < (K.length : Int)) = true by simp; omega]
      go_enter Tryz.func99, Tryz.ntmps99
      go_wp2
      go_ret
      exact ⟨rfl, rfl⟩
    · rw [show decide (0 ≤ z ∧ z < (K.length : Int)) = false by simp; omega]
      go_enter Tryz.func99, Tryz.ntmps99
      go_wp2
      go_ret
      exact ⟨rfl, rfl⟩
  · rw [show decide (0 ≤ z ∧ z < (K.length : Int)) = false by simp; omega]
    go_enter Tryz.func99, Tryz.ntmps99
    go_wp2
    go_ret
    exact ⟨rfl, rfl⟩
theorem cis_in0 {w : World} {F : Nat → Prop} {b : Nat} {A : CopA} {cl : List (List Bat)} {op : List Bat} {K : List Cop} (h : CopG0 w F b A cl op K) {i : Nat} (hi : i < K.length) :
    Calls Tryz.prog 99 #[.pointer (some ⟨b, 0, none⟩), .int .i64 i] w fun e w' => e = .returned (.bool true) ∧ w' = w := by
  have := cis_ok0 h (i : Int)
  rw [show decide (0 ≤ (i : Int) ∧ (i : Int) < (K.length : Int)) = true by simp; omega] at this
  exact this
theorem cis_in {w : World} {F : Nat → Prop} {b : Nat} {A : CopA} {cl : List (List Bat)} {op : List Bat} {K : List Cop} (h : CopG w F b A cl op K) {i : Nat} (hi : i < K.length) :
    Calls Tryz.prog 99 #[.pointer (some ⟨b, 0, none⟩), .int .i64 i] w fun e w' => e = .returned (.bool true) ∧ w' = w := cis_in0 h.toCopG0 hi
theorem infoB : (Tryz.prog.info? 4).map (fun i => (i.zero, i.size, i.bytes)) = some (some (.bool false), 1, 1) := by kernel_rfl
theorem one_bools (l : List Bool) : ∀ u ∈ l.map Value.bool, u.oneCell' = true := by
  intro u hu
  obtain ⟨x, _, rfl⟩ := List.mem_map.1 hu
  rfl
theorem call_ok {w : World} {F : Nat → Prop} {b : Nat} {A : CopA} {cl : List (List Bat)} {op : List Bat} {K : List Cop} (h : CopG w F b A cl op K) {i : Nat} (hi : i < K.length) {N : Nat} (ok : CopOk N (K.getD i copZ)) (hl : (K.getD i copZ).S.length ≤ 440000) :
    Calls Tryz.prog 18 #[.pointer (some ⟨b, 0, none⟩), .int .i64 i] w fun e w' => ∃ v', e = .returned (.tuple #[v', .int .i64 0]) ∧ w'.ownsRow w.heap.size 62 2 v' (K.getD i copZ).S.length (cP (K.getD i copZ).S) ∧ Ext w w' := by
  have IS := hid (cis_in h hi)
  obtain ⟨_, c1, _, _⟩ := h.cells
  obtain ⟨g, c, e, _, _, _, _⟩ := h.lform
  have ci := (h.cellL e hi).1
  rw [e] at c1
  have AL := hid (pall_ok (h.parts i hi) ok.map ok.sto (by omega))
  have k4 := h.k4
  generalize (K.getD i copZ).S = S at AL hl ⊢
  clear h e
  go_enter Tryz.func18, Tryz.ntmps18
  go_wp2_with fail
  refine (IS.out).mono ?_
  clear IS
  rintro e w1 ⟨rfl, rfl⟩
  obtain ⟨w, rfl⟩ : ∃ wq : World, wq = w1 := ⟨_, rfl⟩
  go_wp2_with fail
  refine (AL.out).mono ?_
  clear AL
  rintro e w2 ⟨v', rfl, ho, E⟩
  obtain ⟨a9, c9, rfl⟩ := own_form ho
  have HO := hid ho
  clear ho
  go_wp2
  go_ret2
  exact ⟨_, rT2 rfl rfl, HO.out, E⟩
end Go.Proofs.YtddghaoejnbkaaaGreatDoor
