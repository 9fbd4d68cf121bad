/- Contracts and lemmas for the proof of TopLog; each theorem states its own conditions. -/
import Derived.Test.YtddghaoejnbkaaaGreatDoorQTopLogaz
import Derived.Test.YtddghaoejnbkaaaGreatDoorQTopLogan
import Derived.Deep.RegionLawGrows
import Derived.Test.YtddghaoejnbkaaaGreatDoorQTopLogab
import Derived.Test.YtddghaoejnbkaaaGreatDoorQTopLogaa
set_option linter.unusedVariables false
set_option linter.unusedSimpArgs false
/- Contracts and lemmas for the proofs of this seat; each theorem states its own conditions. -/
namespace Go.Proofs.YtddghaoejnbkaaaGreatDoor
open Go.RowKit
/-! appends in place, as a frame: block k may turn from what it was to what it is with (o, ns) laid into it, once for all -/
theorem spl_spl {cur ns : List Value} {o : Nat} (h : o + ns.length ≤ cur.length) : spl (spl cur o ns) o ns = spl cur o ns := by
  have h1 : (spl cur o ns).take o = cur.take o := spl_take_lo (by omega) (Nat.le_refl _)
  have h2 : (spl cur o ns).drop (o + ns.length) = cur.drop (o + ns.length) := by
    have hl : (cur.take o ++ ns).length = o + ns.length := by rw [List.length_append, List.length_take]; omega
    conv => lhs; unfold spl
    rw [← hl, List.drop_left]
  unfold spl at *
  rw [h1, h2]
def GF (G : Nat → Option (Nat × List Value)) (w w' : World) : Prop :=
  w'.os = w.os ∧ w'.tape = w.tape ∧ w'.output = w.output ∧ w.heap.size ≤ w'.heap.size ∧
  ∀ k, k < w.heap.size → w'.heap[k]? = w.heap[k]? ∨ ∃ o ns e cur, G k = some (o, ns) ∧ o + ns.length ≤ cur.length ∧ RowB w k e cur ∧ RowB w' k e (spl cur o ns)
theorem rowB_inj {w : World} {k : Nat} {e e' : TypeId} {cur cur' : List Value} (h : RowB w k e cur) (h' : RowB w k e' cur') : e = e' ∧ cur = cur' := by
  unfold RowB at h h'
  rw [h] at h'
  injection h' with h'; injection h' with h1 h2
  exact ⟨h2, by simpa using h1⟩
theorem gf_fr (G : Nat → Option (Nat × List Value)) : PR.Fr (GF G) where
  refl w := ⟨rfl, rfl, rfl, Nat.le_refl _, fun _ _ => .inl rfl⟩
  drew w := ⟨rfl, rfl, rfl, Nat.le_refl _, fun _ _ => .inl rfl⟩
  trans := by
    rintro a b c ⟨a1, a2, a3, a4, a5⟩ ⟨b1, b2, b3, b4, b5⟩
    refine ⟨b1.trans a1, b2.trans a2, b3.trans a3, Nat.le_trans a4 b4, fun k hk => ?_⟩
    rcases a5 k hk with h | ⟨o, ns, e, cur, h1, h2, h3, h4⟩
    · rcases b5 k (by omega) with h' | ⟨o, ns, e, cur, h1, h2, h3, h4⟩
      · exact .inl (h'.trans h)
      · exact .inr ⟨o, ns, e, cur, h1, h2, by unfold RowB at h3 ⊢; rw [← h]; exact h3, h4⟩
    · rcases b5 k (by omega) with h' | ⟨o', ns', e', cur', g1, g2, g3, g4⟩
      · exact .inr ⟨o, ns, e, cur, h1, h2, h3, by unfold RowB at h4 ⊢; rw [h']; exact h4⟩
      · rw [h1] at g1
        injection g1 with g1; injection g1 with e1 e2
        subst e1; subst e2
        obtain ⟨rfl, rfl⟩ := rowB_inj h4 g3
        rw [spl_spl h2] at g4
        exact .inr ⟨o, ns, e, cur, h1, h2, h3, g4⟩
theorem gf_ext {G : Nat → Option (Nat × List Value)} {w w' : World} (h : Ext w w') : GF G w w' := ⟨h.os, h.tape, h.output, h.size', fun k hk => .inl (Below.block h k hk)⟩
theorem gf_heap {G : Nat → Option (Nat × List Value)} {w w' : World} (h : GF G w w') {k : Nat} {o : Obj} (hk : w.heap[k]? = some o) (hG : G k = none) : w'.heap[k]? = some o := by
  rcases h.2.2.2.2 k (Array.getElem?_eq_some_iff.1 hk).1 with e | ⟨_, _, _, _, h1, _⟩
  · rw [e]; exact hk
  · rw [hG] at h1; cases h1
/-- a row of one's own that stands under the frame -/
def OwnG (G : Nat → Option (Nat × List Value)) (B : Nat) (e : TypeId) (sz : Nat) (v : Value) (n : Nat) (xs : List Value) (w : World) : Prop :=
  w.ownsRow B e sz v n xs ∧ ∀ g, v.ownBlock = some g → ∀ o ns, G g = some (o, ns) → n * sz ≤ o ∨ (o + ns.length = n * sz ∧ xs.drop o = ns)
theorem OwnG.st {G : Nat → Option (Nat × List Value)} {B e sz n : Nat} {v : Value} {xs : List Value} {w w' : World} (hF : GF G w w') (h : OwnG G B e sz v n xs w) : OwnG G B e sz v n xs w' := by
  refine ⟨?_, h.2⟩
  obtain ⟨⟨h1, h2⟩, h3⟩ := h
  refine ⟨h1, ?_⟩
  rcases h2 with hn | ⟨g, cap, cur, rfl, hb, hg, hn, hc, hs, ht⟩
  · exact .inl hn
  · right
    rcases hF.2.2.2.2 g (Array.getElem?_eq_some_iff.1 hg).1 with q | ⟨o, ns, e', cur', q1, q2, q3, q4⟩
    · exact ⟨g, cap, cur, rfl, hb, q.trans hg, hn, hc, hs, ht⟩
    · have hg' : RowB w g e cur.toList := by unfold RowB; rw [Array.toArray_toList]; exact hg
      obtain ⟨rfl, rfl⟩ := rowB_inj hg' q3
      refine ⟨g, cap, (spl cur.toList o ns).toArray, rfl, hb, q4, hn, hc, by rw [List.size_toArray, spl_len q2]; simpa using hs, ?_⟩
      show (spl cur.toList o ns).take (n * sz) = xs
      rcases h3 g rfl o ns q1 with r | ⟨r1, r2⟩
      · rw [spl_take_lo (by omega) r]; exact ht
      · rw [← r1, spl_take q2]
        have hx : xs.take o = cur.toList.take o := by rw [← ht, List.take_take, Nat.min_eq_left (by omega)]
        rw [← hx, ← r2, List.take_append_drop]
theorem setRow_gf {G : Nat → Option (Nat × List Value)} {w : World} {g : Nat} {e : TypeId} {cur ns : List Value} {o : Nat} (hrow : RowB w g e cur) (hG : G g = some (o, ns)) (hl : o + ns.length ≤ cur.length) : GF G w (w.setRow g (spl cur o ns).toArray) := by
  have hB := below_setRow (Below.refl 0 w) (Nat.zero_le g) (spl cur o ns).toArray
  refine ⟨hB.os, hB.tape, hB.output, hB.size, fun k hk => ?_⟩
  by_cases e' : k = g
  · subst e'; exact .inr ⟨o, ns, e, cur, hG, hl, hrow, hrow.set _⟩
  · exact .inl (setRow_other w g k _ e')
theorem ext_of_grown' {w w' : World} (h : w.grownBy w' none) : Ext w w' := ⟨h.os, h.tape, h.output, h.size, fun k hk => h.block k hk (by simp)⟩
theorem grown_but {a c : World} (h : a.grownBy c none) (row : Option Nat) : a.grownBy c row := ⟨h.os, h.tape, h.output, h.size, fun i hi _ => h.block i hi (by simp)⟩
/-- append to a row of one's own, told whole: what it makes, what it turns, where it lies -/
theorem run_app {P : Program} (w : World) (t ty e : TypeId) (z : Value) (size bytes : Nat) (ht : P.underlying t = some (.slice e))
    (hinfo : (P.info? e).map (fun i => (i.zero, i.size, i.bytes)) = some (some z, size, bytes)) (hzs : z.cells.size = size) (hsz : 0 < size)
    (base : Nat) (v : Value) (n : Nat) (xs : List Value) (hown : w.ownsRow base e size v n xs) (ad : Addr) (m c : Nat) (news : List Value) (hl : news.length = m * size) (hnews : ∀ j u, news[j]? = some u → w.cell? (ad.add j) = some u)
    (h1 : ∀ u ∈ news, u.oneCell' = true) (hbytes : (n + m) * bytes ≤ 140737488355328) (h63 : n + m ≤ maxLen) (hbase : base ≤ w.heap.size)
    (G : Nat → Option (Nat × List Value)) (hG : ∀ g, v.ownBlock = some g → G g = some (n * size, news)) (hGlt : ∀ k, w.heap.size ≤ k → G k = none) :
    ∃ v' w', (Builtin.append_ #[t, t] ty #[v, .slice (some ad) m c]).run P w = .ok v' w' ∧ OwnG G base e size v' (n + m) (xs ++ news) w' ∧ GF G w w' ∧ w.grownBy w' v.ownBlock ∧ (∀ k, v'.ownBlock = some k → v.ownBlock = some k ∨ w.heap.size ≤ k) := by
  obtain ⟨i, hi, hz0, hz1, hz2⟩ := info_parts hinfo
  have hlen : (xs ++ news).length = (n + m) * size := by rw [List.length_append, hown.1, hl, Nat.add_mul]
  have hdrop : (xs ++ news).drop (n * size) = news := by rw [← hown.1, List.drop_left]
  rcases hown.2 with ⟨rfl, hn0⟩ | ⟨g, cap, cur, rfl, hb, hg, hn, hc, hs, htk⟩
  · obtain ⟨v', w', r1, r2, r3, _⟩ := run_append_own (P := P) (w := w) w.heap.size t ty e i z size bytes ht hi hz0 hz1 hz2 hzs hsz (.slice none 0 0) n xs ⟨hown.1, .inl ⟨rfl, hn0⟩⟩ ad m c news hl hnews h1 h63 hbytes (Nat.le_refl _)
    have hfr : ∀ k, v'.ownBlock = some k → w.heap.size ≤ k := fun k hk => own_ge r2 k hk
    refine ⟨v', w', r1, ⟨own_base r2 hbase, fun k hk o ns hGk => ?_⟩, gf_ext (ext_of_grown' r3), r3, fun k hk => .inr (hfr k hk)⟩
    rw [hGlt k (hfr k hk)] at hGk; cases hGk
  · by_cases hroom : n + m ≤ cap
    · have hg' : RowB w g e cur.toList := by unfold RowB; rw [Array.toArray_toList]; exact hg
      have hfit : n * size + news.length ≤ cur.toList.length := by
        rw [hl, ← Nat.add_mul, Array.length_toList, hs]; exact Nat.mul_le_mul_right _ hroom
      have hr := run_app_row (P := P) w t ty e i ht hi g n cap cur.toList hg' ad m c news (by rw [hz1]; exact hl) hnews h1 hroom (by rw [hz1]; exact hfit)
      rw [hz1] at hr
      have hset := hg'.set (spl cur.toList (n * size) news)
      have hlt : g < w.heap.size := (Array.getElem?_eq_some_iff.1 hg).1
      refine ⟨_, _, hr, ⟨own_of_row hset hb hroom hc (by rw [spl_len hfit]; simpa using hs) hlen ?_, fun k hk o ns hGk => ?_⟩, setRow_gf hg' (hG g rfl) hfit, ?_, fun k hk => .inl hk⟩
      · rw [Nat.add_mul, ← hl, spl_take hfit]
        have : cur.toList.take (n * size) = xs := htk
        rw [this]
      · have hkg : k = g := by simpa [Value.ownBlock] using hk.symm
        subst hkg
        rw [hG k rfl] at hGk
        injection hGk with hGk; injection hGk with e1 e2
        subst e1; subst e2
        right; exact ⟨by rw [hl, ← Nat.add_mul], hdrop⟩
      · have hB := below_setRow (Below.refl 0 w) (Nat.zero_le g) (spl cur.toList (n * size) news).toArray
        exact ⟨hB.os, hB.tape, hB.output, hB.size, fun k _ hne => setRow_other w g k _ (fun e' => hne (by rw [e']; rfl))⟩
    · obtain ⟨v', w', r1, r2, r3⟩ := run_append_arg_grows (P := P) w t ty e i z size bytes ht hi hz0 hz1 hz2 hzs hsz ⟨g, 0, none⟩ n cap xs hown.1 (fun j u hu => by
          rw [addr_add, Nat.zero_add]
          have := own_seg (w := w) (B := base) (e := e) (sz := size) (v := .slice (some ⟨g, 0, none⟩) n cap) (n := n) (xs := xs) hown
          obtain ⟨_, a', c', hq, _, _, hcell⟩ := this
          injection hq with q1 _ _
          obtain ⟨b', off', hq', hcc⟩ := hcell (by
            have := (List.getElem?_eq_some_iff.1 hu).1
            rw [hown.1] at this
            rcases Nat.eq_zero_or_pos n with h0 | h0
            · subst h0; simp at this
            · exact h0)
          rw [← q1] at hq'; injection hq' with hq'; injection hq' with q2 q3
          subst q2; subst q3
          have := hcc j u hu
          rwa [Nat.zero_add] at this) ad m c news hl hnews (by omega) h63 hbytes
      have hfr : ∀ k, v'.ownBlock = some k → w.heap.size ≤ k := fun k hk => own_ge r2 k hk
      refine ⟨v', w', r1, ⟨own_base r2 hbase, fun k hk o ns hGk => ?_⟩, gf_ext (ext_of_grown' r3), grown_but r3 _, fun k hk => .inr (hfr k hk)⟩
      rw [hGlt k (hfr k hk)] at hGk; cases hGk
end Go.Proofs.YtddghaoejnbkaaaGreatDoor

/- Contracts and lemmas for the proofs of this seat; each theorem states its own conditions. -/
namespace Go.Proofs.YtddghaoejnbkaaaGreatDoor
open Go.RowKit
/-- append to a row of one's own: what it makes, what it turns, where it lies -/
theorem wpList_appR {P : Program} {w : World} {ops : Array Oper} {rest : List Oper} {o : Oper} {a : Act} {Q : Exit → Act → World → Prop} (hgd : o.guard = none) (s x : Operand) (t : TypeId)
    (ho : o.op = .call { callee := .builtin .append, args := #[s, x], argTypes := #[t, t] })
    (base : Nat) (e : TypeId) (z : Value) (size bytes : Nat) (ht : P.underlying t = some (.slice e))
    (hinfo : (P.info? e).map (fun i => (i.zero, i.size, i.bytes)) = some (some z, size, bytes)) (hzs : z.cells.size = size) (hsz : 0 < size)
    (v : Value) (n : Nat) (xs : List Value) (hs : a.eval s = v) (hown : w.ownsRow base e size v n xs)
    (xv : Value) (m : Nat) (news : List Value) (hx : a.eval x = xv) (hm : 0 < m) (hseg : Seg w xv size m news) (h1 : ∀ u ∈ news, u.oneCell' = true)
    (hbytes : (n + m) * bytes ≤ 140737488355328) (h63 : n + m ≤ maxLen) (hbase : base ≤ w.heap.size)
    (h : ∀ v' w', w'.ownsRow base e size v' (n + m) (xs ++ news) → w.grownBy w' v.ownBlock → (∀ k, v'.ownBlock = some k → v.ownBlock = some k ∨ w.heap.size ≤ k) → wpList P ops Q rest (a.put o.dst v') w') : wpList P ops Q (o :: rest) a w := by
  obtain ⟨hl, ad, cap, rfl, hc1, hc2, hc3⟩ := hseg
  obtain ⟨b, off, rfl, h6⟩ := hc3 hm
  have hlt : ∀ k, v.ownBlock = some k → k < w.heap.size := fun k hk => (hown.lt k hk).2
  obtain ⟨v', w', r1, r2, _, r4, r5⟩ := run_app (P := P) w t o.type e z size bytes ht hinfo hzs hsz base v n xs hown ⟨b, off, none⟩ m cap news hl (fun j u hu => by rw [addr_add]; exact h6 j u hu) h1 hbytes h63 hbase
    (fun g => if v.ownBlock = some g then some (n * size, news) else none) (fun g hg => by simp [hg]) (fun k hk => by rw [if_neg (fun e => by have := hlt k e; omega)])
  refine wpList_plain hgd fun K hK => ?_
  unfold Oper.wp
  simp [execOp, ho, resolve, invoke, builtin, hs, hx, r1, Result.andThen]
  exact hK _ _ (h v' w' r2.1 r4 r5)
theorem grown_extR {a b c : World} {row : Option Nat} (h : a.grownBy b row) (E : Ext b c) : a.grownBy c row :=
  ⟨E.os.trans h.os, E.tape.trans h.tape, E.output.trans h.output, Nat.le_trans h.size E.size', fun j hj hne => (Below.block E j (Nat.lt_of_lt_of_le hj h.size)).trans (h.block j hj hne)⟩
theorem ext_grown {a b c : World} {row : Option Nat} (E : Ext a b) (h : b.grownBy c row) : a.grownBy c row :=
  ⟨h.os.trans E.os, h.tape.trans E.tape, h.output.trans E.output, Nat.le_trans E.size' h.size, fun j hj hne => (h.block j (Nat.lt_of_lt_of_le hj E.size') hne).trans (Below.block E j hj)⟩
end Go.Proofs.YtddghaoejnbkaaaGreatDoor

/- Contracts and lemmas for the proofs of this seat; each theorem states its own conditions. -/
namespace Go.Proofs.YtddghaoejnbkaaaGreatDoor
open Go.RowKit
/-! a region that draws its order, in which one operation (m) turns what lies there and the last one (z) stores: all others only read and make -/
/-- the last one waits for all -/
def lastB (l : List Oper) (z : Nat) : Bool := match l[z]? with
  | none => false
  | some o => decide (z < l.length) && (List.range l.length).all fun i => i == z || o.after.any fun e => Region.binds .any e && e.on == i
def TPost (P : Program) (l : List Oper) (t0 : Array Value) (ds : List Deferred) (x : Nat → Value) (o : Oper) (R : Value → World → Prop) (w : World) : Prop :=
  wpList P l.toArray (fun e a' w' => e = .normal ∧ ∃ v, a' = (⟨frL x l 0 t0, ds⟩ : Act).put o.dst v ∧ R v w') [o] ⟨frL x l 0 t0, ds⟩ w
theorem TPost.mono {P : Program} {l : List Oper} {t0 : Array Value} {ds : List Deferred} {x : Nat → Value} {o : Oper} {R R' : Value → World → Prop} {w : World} (h : TPost P l t0 ds x o R w) (k : ∀ v w', R v w' → R' v w') : TPost P l t0 ds x o R' w := by
  unfold TPost wpList at *
  split
  · rename_i hw
    rw [if_pos hw] at h
    rcases h with h | ⟨_, h⟩
    · left
      refine Oper.upon_both (fun a' w'' hh => ?_) (fun e a' w'' hne hh => ?_) h
      · obtain ⟨h1, v, h2, h3⟩ := hh
        exact ⟨h1, v, h2, k _ _ h3⟩
      · exact absurd hh.1 hne
    · obtain ⟨a', w'', he, _⟩ := h; cases he
  · rename_i hw
    rw [if_neg hw] at h
    obtain ⟨h1, v, h2, h3⟩ := h
    exact ⟨h1, v, h2, k _ _ h3⟩
end Go.Proofs.YtddghaoejnbkaaaGreatDoor

/- Contracts and lemmas for the proofs of this seat; each theorem states its own conditions. -/
namespace Go.Proofs.YtddghaoejnbkaaaGreatDoor
open Go.RowKit
/-! a region that draws its order, of the form a[i] = append(a[i], f(x)): p calls, q makes a block of what p gave, m turns, z (the last one) stores -/
def edgeB (l : List Oper) (a b : Nat) : Bool := match l[b]? with
  | none => false
  | some o => o.after.any fun e => Region.binds .any e && e.on == a
theorem edge_on {l : List Oper} {a b : Nat} (h : edgeB l a b = true) {o : Oper} (ho : l[b]? = some o) : ∃ e ∈ o.after, Region.binds .any e = true ∧ e.on = a := by
  unfold edgeB at h
  rw [ho] at h
  obtain ⟨e1, e2, e3⟩ := Array.any_eq_true'.1 h
  simp only [Bool.and_eq_true, beq_iff_eq] at e3
  exact ⟨e1, e2, e3.1, e3.2⟩
def PStep (P : Program) (l : List Oper) (t0 : Array Value) (ds : List Deferred) (c : Nat → Option Value) (p q m z : Nat) (K S0 : World → Prop) (SP : Value → World → Prop) (SQ : Value → Value → World → Prop) (S1 : Value → World → Prop) (S2 : World → Prop) (i : Nat) (o : Oper) : Prop :=
  ∀ (x : Nat → Value) (w : World), (∀ e ∈ o.after, Region.binds .any e = true → ∀ v, c e.on = some v → x e.on = v) →
    (i ≠ p → i ≠ q → i ≠ m → i ≠ z → K w → TPost P l t0 ds x o (fun v w' => (∀ u, c i = some u → v = u) ∧ Ext w w') w) ∧
    (i = p → S0 w → TPost P l t0 ds x o (fun v w' => (∀ u, c i = some u → v = u) ∧ Ext w w' ∧ SP v w') w) ∧
    (i = q → S0 w → SP (x p) w → TPost P l t0 ds x o (fun v w' => (∀ u, c i = some u → v = u) ∧ Ext w w' ∧ SQ (x p) v w') w) ∧
    (i = m → S0 w → SQ (x p) (x q) w → TPost P l t0 ds x o (fun v w' => (∀ u, c i = some u → v = u) ∧ S1 v w') w) ∧
    (i = z → S1 (x m) w → TPost P l t0 ds x o (fun v w' => (∀ u, c i = some u → v = u) ∧ S2 w') w)
theorem wp_region_pq {P : Program} {l : List Oper} {id : Nat} {Q : Exit → Act → World → Prop} {t0 : Array Value} {ds : List Deferred} {w : World} (hm : P.follows .mixedOrders = true) (hB : regB l.toArray = true)
    (c : Nat → Option Value) (p q m z : Nat) (hne : p ≠ q ∧ p ≠ m ∧ p ≠ z ∧ q ≠ m ∧ q ≠ z ∧ m ≠ z) (hmo : decide (m < l.length) = true) (hqo : decide (q < l.length) = true) (hpq : edgeB l p q = true) (hqm : edgeB l q m = true) (hl : lastB l z = true)
    (K S0 : World → Prop) (SP : Value → World → Prop) (SQ : Value → Value → World → Prop) (S1 : Value → World → Prop) (S2 : World → Prop)
    (st0 : ∀ {a b}, Ext a b → S0 a → S0 b) (stp : ∀ {v a b}, Ext a b → SP v a → SP v b) (stq : ∀ {u v a b}, Ext a b → SQ u v a → SQ u v b) (st1 : ∀ {v a b}, Ext a b → S1 v a → S1 v b) (k0 : ∀ {a}, S0 a → K a) (k1 : ∀ {v a}, S1 v a → K a)
    (h0 : S0 w.drew) (hs : AllFrom (PStep P l t0 ds c p q m z K S0 SP SQ S1 S2) l 0)
    (hend : ∀ x w', (∀ i, i < l.length → ∀ v, c i = some v → x i = v) → S2 w' → Q .normal ⟨frL x l 0 t0, ds⟩ w') : (Code.region id l.toArray true).wp P Q ⟨t0, ds⟩ w := by
  have hmo : m < l.length := of_decide_eq_true hmo
  have hqo : q < l.length := of_decide_eq_true hqo
  obtain ⟨npq, npm, npz, nqm, nqz, nmz⟩ := hne
  obtain ⟨oz, hoz, hzl, hza⟩ : ∃ oz, l[z]? = some oz ∧ z < l.length ∧ ∀ i, i < l.length → i ≠ z → ∃ e ∈ oz.after, Region.binds .any e = true ∧ e.on = i := by
    unfold lastB at hl
    split at hl
    · cases hl
    · rename_i oz hoz
      simp only [Bool.and_eq_true, decide_eq_true_eq, List.all_eq_true, List.mem_range, Bool.or_eq_true, beq_iff_eq] at hl
      refine ⟨oz, hoz, hl.1, fun i hi hne => ?_⟩
      rcases hl.2 i hi with e | e
      · exact absurd e hne
      · obtain ⟨e1, e2, e3⟩ := Array.any_eq_true'.1 e
        simp only [Bool.and_eq_true, beq_iff_eq] at e3
        exact ⟨e1, e2, e3.1, e3.2⟩
  have toM : ∀ {L : Nat → Bool}, Closed l.toArray L → L m = true → L q = true := fun {L} hcl h => by
    obtain ⟨e, e1, e2, e3⟩ := edge_on hqm (List.getElem?_eq_getElem hmo)
    have := hcl m l[m] (by simp) h e e1 e2
    rwa [e3] at this
  have toQ : ∀ {L : Nat → Bool}, Closed l.toArray L → L q = true → L p = true := fun {L} hcl h => by
    obtain ⟨e, e1, e2, e3⟩ := edge_on hpq (List.getElem?_eq_getElem hqo)
    have := hcl q l[q] (by simp) h e e1 e2
    rwa [e3] at this
  refine wp_region_lit_inv hm hB c (fun L x w' => (L m = false → S0 w' ∧ (L p = true → SP (x p) w') ∧ (L q = true → SQ (x p) (x q) w')) ∧ (L m = true → L z = false → S1 (x m) w') ∧ (L z = true → S2 w')) ⟨fun _ => ⟨h0, fun h => (by cases h), fun h => (by cases h)⟩, fun h => (by cases h), fun h => (by cases h)⟩ ?_ ?_
  · have : ∀ (r : List Oper) (k : Nat), (∀ i o, r[i]? = some o → l[k + i]? = some o) → AllFrom (Step P l t0 ds c (fun L x w' => (L m = false → S0 w' ∧ (L p = true → SP (x p) w') ∧ (L q = true → SQ (x p) (x q) w')) ∧ (L m = true → L z = false → S1 (x m) w') ∧ (L z = true → S2 w'))) r k := by
      intro r
      induction r with
      | nil => intro k _; exact trivial
      | cons o r ih =>
        intro k hk
        refine ⟨?_, ih (k + 1) fun i o' ho' => by
          have := hk (i + 1) o' (by simpa using ho')
          rwa [show k + (i + 1) = k + 1 + i from by omega] at this⟩
        intro L x w' hLk hcl hd hG
        have hok : l[k]? = some o := by simpa using hk 0 o rfl
        have ht := hs.get k o hok
        rw [Nat.zero_add] at ht
        obtain ⟨t1, tp, tq, t2, t3⟩ := ht x w' fun e he hb v hv => (hd e he hb).2 v hv
        obtain ⟨g1, g2, g3⟩ := hG
        have dep : ∀ {a : Nat}, edgeB l a k = true → L a = true := fun {a} h => by
          obtain ⟨e, e1, e2, e3⟩ := edge_on h hok
          have := (hd e e1 e2).1
          rwa [e3] at this
        show TPost P l t0 ds x o (fun v w'' => (∀ u, c k = some u → v = u) ∧ _) w'
        by_cases hkz : k = z
        · subst hkz
          have hLm : L m = true := by
            obtain ⟨e, e1, e2, e3⟩ := hza m hmo nmz
            have ho : o = oz := by rw [hok] at hoz; injection hoz
            rw [← ho] at e1
            have := (hd e e1 e2).1
            rwa [e3] at this
          refine (t3 rfl (g2 hLm hLk)).mono fun v w'' h => ⟨h.1, fun h' => ?_, fun _ h' => ?_, fun _ => h.2⟩
          · rw [upd_ne _ _ nmz, hLm] at h'; cases h'
          · rw [upd_same] at h'; cases h'
        · have hLz : L z = false := by
            cases e : L z with
            | false => rfl
            | true =>
              obtain ⟨e', e1, e2, e3⟩ := hza k (List.getElem?_eq_some_iff.1 hok).1 hkz
              have := hcl z oz (by simpa using hoz) e e' e1 e2
              rw [e3, hLk] at this; cases this
          have hz0 : ∀ v, upd L k true z = true → S2 v := fun v h' => by rw [upd_ne _ _ (Ne.symm hkz), hLz] at h'; cases h'
          by_cases hkm : k = m
          · subst hkm
            have hLq := dep hqm
            refine (t2 rfl (g1 hLk).1 ((g1 hLk).2.2 hLq)).mono fun v w'' h => ⟨h.1, fun h' => ?_, fun _ _ => ?_, hz0 w''⟩
            · rw [upd_same] at h'; cases h'
            · rw [upd_same]; exact h.2
          · by_cases hkp : k = p
            · subst hkp
              have hLm : L m = false := by
                cases e : L m with
                | false => rfl
                | true => rw [toQ hcl (toM hcl e)] at hLk; cases hLk
              have hLq : L q = false := by
                cases e : L q with
                | false => rfl
                | true => rw [toQ hcl e] at hLk; cases hLk
              refine (tp rfl (g1 hLm).1).mono fun v w'' h => ⟨h.1, fun _ => ⟨st0 h.2.1 (g1 hLm).1, fun _ => by rw [upd_same]; exact h.2.2, fun h' => ?_⟩, fun h' => ?_, hz0 w''⟩
              · rw [upd_ne _ _ (Ne.symm npq), hLq] at h'; cases h'
              · rw [upd_ne _ _ (Ne.symm hkm), hLm] at h'; cases h'
            · by_cases hkq : k = q
              · subst hkq
                have hLm : L m = false := by
                  cases e : L m with
                  | false => rfl
                  | true => rw [toM hcl e] at hLk; cases hLk
                have hLp := dep hpq
                refine (tq rfl (g1 hLm).1 ((g1 hLm).2.1 hLp)).mono fun v w'' h => ⟨h.1, fun _ => ⟨st0 h.2.1 (g1 hLm).1, fun _ => ?_, fun _ => ?_⟩, fun h' => ?_, hz0 w''⟩
                · rw [upd_ne _ _ npq]; exact stp h.2.1 ((g1 hLm).2.1 hLp)
                · rw [upd_ne _ _ npq, upd_same]; exact h.2.2
                · rw [upd_ne _ _ (Ne.symm hkm), hLm] at h'; cases h'
              · have hK : K w' := by
                  cases e : L m with
                  | false => exact k0 (g1 e).1
                  | true => exact k1 (g2 e hLz)
                refine (t1 hkp hkq hkm hkz hK).mono fun v w'' h => ⟨h.1, fun h' => ?_, fun h' _ => ?_, hz0 w''⟩
                · rw [upd_ne _ _ (Ne.symm hkm)] at h'
                  rw [upd_ne _ _ (Ne.symm hkp), upd_ne _ _ (Ne.symm hkq), upd_ne _ _ (Ne.symm hkp), upd_ne _ _ (Ne.symm hkq)]
                  exact ⟨st0 h.2 (g1 h').1, fun a => stp h.2 ((g1 h').2.1 a), fun a => stq h.2 ((g1 h').2.2 a)⟩
                · rw [upd_ne _ _ (Ne.symm hkm)] at h' ⊢; exact st1 h.2 (g2 h' hLz)
    exact this l 0 fun i o ho => by rw [Nat.zero_add]; exact ho
  · intro L x w' hall hG
    exact hend x w' (fun i hi v hv => (hall i hi).2 v hv) (hG.2.2 (hall z hzl).1)
end Go.Proofs.YtddghaoejnbkaaaGreatDoor
