/- Contracts and lemmas for the proof of MergePlays; each theorem states its own conditions. -/
import Derived.Test.YtddghaoejnbkaaaDoorQMergePlaysat
import Derived.Test.YtddghaoejnbkaaaDoorQMergePlaysal
import Derived.Deep.RegionLawGrows
import Derived.Test.YtddghaoejnbkaaaDoorQMergePlaysai
import Derived.Test.YtddghaoejnbkaaaDoorQMergePlaysaa
set_option linter.unusedVariables false
set_option linter.unusedSimpArgs false
/- Contracts and lemmas for the proofs of this seat; each theorem states its own conditions. -/
namespace Go.Proofs.YtddghaoejnbkaaaDoor
open Go.RowKit
/-! appends in place, as a frame: block k may turn from what it was to what it is with (o, ns) laid into it, once for all -/
def GF (G : Nat → Option (Nat × List Value)) (w w' : World) : Prop :=
  w'.os = w.os ∧ w'.tape = w.tape ∧ w'.output = w.output ∧ w.heap.size ≤ w'.heap.size ∧
  ∀ k, k < w.heap.size → w'.heap[k]? = w.heap[k]? ∨ ∃ o ns e cur, G k = some (o, ns) ∧ o + ns.length ≤ cur.length ∧ RowB w k e cur ∧ RowB w' k e (spl cur o ns)
theorem gf_ext {G : Nat → Option (Nat × List Value)} {w w' : World} (h : Ext w w') : GF G w w' := ⟨h.os, h.tape, h.output, h.size', fun k hk => .inl (Below.block h k hk)⟩
/-- a row of one's own that stands under the frame -/
def OwnG (G : Nat → Option (Nat × List Value)) (B : Nat) (e : TypeId) (sz : Nat) (v : Value) (n : Nat) (xs : List Value) (w : World) : Prop :=
  w.ownsRow B e sz v n xs ∧ ∀ g, v.ownBlock = some g → ∀ o ns, G g = some (o, ns) → n * sz ≤ o ∨ (o + ns.length = n * sz ∧ xs.drop o = ns)
theorem setRow_gf {G : Nat → Option (Nat × List Value)} {w : World} {g : Nat} {e : TypeId} {cur ns : List Value} {o : Nat} (hrow : RowB w g e cur) (hG : G g = some (o, ns)) (hl : o + ns.length ≤ cur.length) : GF G w (w.setRow g (spl cur o ns).toArray) := by
  have hB := below_setRow (Below.refl 0 w) (Nat.zero_le g) (spl cur o ns).toArray
  refine ⟨hB.os, hB.tape, hB.output, hB.size, fun k hk => ?_⟩
  by_cases e' : k = g
  · subst e'; exact .inr ⟨o, ns, e, cur, hG, hl, hrow, hrow.set _⟩
  · exact .inl (setRow_other w g k _ e')
theorem ext_of_grown' {w w' : World} (h : w.grownBy w' none) : Ext w w' := ⟨h.os, h.tape, h.output, h.size, fun k hk => h.block k hk (by simp)⟩
theorem grown_but {a c : World} (h : a.grownBy c none) (row : Option Nat) : a.grownBy c row := ⟨h.os, h.tape, h.output, h.size, fun i hi _ => h.block i hi (by simp)⟩
/-- append to a row of one's own, told whole: what it makes, what it turns, where it lies -/
theorem run_app {P : Program} (w : World) (t ty e : TypeId) (z : Value) (size bytes : Nat) (ht : P.underlying t = some (.slice e))
    (hinfo : (P.info? e).map (fun i => (i.zero, i.size, i.bytes)) = some (some z, size, bytes)) (hzs : z.cells.size = size) (hsz : 0 < size)
    (base : Nat) (v : Value) (n : Nat) (xs : List Value) (hown : w.ownsRow base e size v n xs) (ad : Addr) (m c : Nat) (news : List Value) (hl : news.length = m * size) (hnews : ∀ j u, news[j]? = some u → w.cell? (ad.add j) = some u)
    (h1 : ∀ u ∈ news, u.oneCell' = true) (hbytes : (n + m) * bytes ≤ 140737488355328) (h63 : n + m ≤ maxLen) (hbase : base ≤ w.heap.size)
    (G : Nat → Option (Nat × List Value)) (hG : ∀ g, v.ownBlock = some g → G g = some (n * size, news)) (hGlt : ∀ k, w.heap.size ≤ k → G k = none) :
    ∃ v' w', (Builtin.append_ #[t, t] ty #[v, .slice (some ad) m c]).run P w = .ok v' w' ∧ OwnG G base e size v' (n + m) (xs ++ news) w' ∧ GF G w w' ∧ w.grownBy w' v.ownBlock ∧ (∀ k, v'.ownBlock = some k → v.ownBlock = some k ∨ w.heap.size ≤ k) := by
  obtain ⟨i, hi, hz0, hz1, hz2⟩ := info_parts hinfo
  have hlen : (xs ++ news).length = (n + m) * size := by rw [List.length_append, hown.1, hl, Nat.add_mul]
  have hdrop : (xs ++ news).drop (n * size) = news := by rw [← hown.1, List.drop_left]
  rcases hown.2 with ⟨rfl, hn0⟩ | ⟨g, cap, cur, rfl, hb, hg, hn, hc, hs, htk⟩
  · obtain ⟨v', w', r1, r2, r3, _⟩ := run_append_own (P := P) (w := w) w.heap.size t ty e i z size bytes ht hi hz0 hz1 hz2 hzs hsz (.slice none 0 0) n xs ⟨hown.1, .inl ⟨rfl, hn0⟩⟩ ad m c news hl hnews h1 h63 hbytes (Nat.le_refl _)
    have hfr : ∀ k, v'.ownBlock = some k → w.heap.size ≤ k := fun k hk => own_ge r2 k hk
    refine ⟨v', w', r1, ⟨own_base r2 hbase, fun k hk o ns hGk => ?_⟩, gf_ext (ext_of_grown' r3), r3, fun k hk => .inr (hfr k hk)⟩
    rw [hGlt k (hfr k hk)] at hGk; cases hGk
  · by_cases hroom : n + m ≤ cap
    · have hg' : RowB w g e cur.toList := by unfold RowB; rw [Array.toArray_toList]; exact hg
      have hfit : n * size + news.length ≤ cur.toList.length := by
        rw [hl, ← Nat.add_mul, Array.length_toList, hs]; exact Nat.mul_le_mul_right _ hroom
      have hr := run_app_row (P := P) w t ty e i ht hi g n cap cur.toList hg' ad m c news (by rw [hz1]; exact hl) hnews h1 hroom (by rw [hz1]; exact hfit)
      rw [hz1] at hr
      have hset := hg'.set (spl cur.toList (n * size) news)
      have hlt : g < w.heap.size := (Array.getElem?_eq_some_iff.1 hg).1
      refine ⟨_, _, hr, ⟨own_of_row hset hb hroom hc (by rw [spl_len hfit]; simpa using hs) hlen ?_, fun k hk o ns hGk => ?_⟩, setRow_gf hg' (hG g rfl) hfit, ?_, fun k hk => .inl hk⟩
      · rw [Nat.add_mul, ← hl, spl_take hfit]
        have : cur.toList.take (n * size) = xs := htk
        rw [this]
      · have hkg : k = g := by simpa [Value.ownBlock] using hk.symm
        subst hkg
        rw [hG k rfl] at hGk
        injection hGk with hGk; injection hGk with e1 e2
        subst e1; subst e2
        right; exact ⟨by rw [hl, ← Nat.add_mul], hdrop⟩
      · have hB := below_setRow (Below.refl 0 w) (Nat.zero_le g) (spl cur.toList (n * size) news).toArray
        exact ⟨hB.os, hB.tape, hB.output, hB.size, fun k _ hne => setRow_other w g k _ (fun e' => hne (by rw [e']; rfl))⟩
    · obtain ⟨v', w', r1, r2, r3⟩ := run_append_arg_grows (P := P) w t ty e i z size bytes ht hi hz0 hz1 hz2 hzs hsz ⟨g, 0, none⟩ n cap xs hown.1 (fun j u hu => by
          rw [addr_add, Nat.zero_add]
          have := own_seg (w := w) (B := base) (e := e) (sz := size) (v := .slice (some ⟨g, 0, none⟩) n cap) (n := n) (xs := xs) hown
          obtain ⟨_, a', c', hq, _, _, hcell⟩ := this
          injection hq with q1 _ _
          obtain ⟨b', off', hq', hcc⟩ := hcell (by
            have := (List.getElem?_eq_some_iff.1 hu).1
            rw [hown.1] at this
            rcases Nat.eq_zero_or_pos n with h0 | h0
            · subst h0; simp at this
            · exact h0)
          rw [← q1] at hq'; injection hq' with hq'; injection hq' with q2 q3
          subst q2; subst q3
          have := hcc j u hu
          rwa [Nat.zero_add] at this) ad m c news hl hnews (by omega) h63 hbytes
      have hfr : ∀ k, v'.ownBlock = some k → w.heap.size ≤ k := fun k hk => own_ge r2 k hk
      refine ⟨v', w', r1, ⟨own_base r2 hbase, fun k hk o ns hGk => ?_⟩, gf_ext (ext_of_grown' r3), grown_but r3 _, fun k hk => .inr (hfr k hk)⟩
      rw [hGlt k (hfr k hk)] at hGk; cases hGk
end Go.Proofs.YtddghaoejnbkaaaDoor

/- Contracts and lemmas for the proofs of this seat; each theorem states its own conditions. -/
namespace Go.Proofs.YtddghaoejnbkaaaDoor
open Go.RowKit
/-- append to a row of one's own: what it makes, what it turns, where it lies -/
theorem wpList_appR {P : Program} {w : World} {ops : Array Oper} {rest : List Oper} {o : Oper} {a : Act} {Q : Exit → Act → World → Prop} (hgd : o.guard = none) (s x : Operand) (t : TypeId)
    (ho : o.op = .call { callee := .builtin .append, args := #[s, x], argTypes := #[t, t] })
    (base : Nat) (e : TypeId) (z : Value) (size bytes : Nat) (ht : P.underlying t = some (.slice e))
    (hinfo : (P.info? e).map (fun i => (i.zero, i.size, i.bytes)) = some (some z, size, bytes)) (hzs : z.cells.size = size) (hsz : 0 < size)
    (v : Value) (n : Nat) (xs : List Value) (hs : a.eval s = v) (hown : w.ownsRow base e size v n xs)
    (xv : Value) (m : Nat) (news : List Value) (hx : a.eval x = xv) (hm : 0 < m) (hseg : Seg w xv size m news) (h1 : ∀ u ∈ news, u.oneCell' = true)
    (hbytes : (n + m) * bytes ≤ 140737488355328) (h63 : n + m ≤ maxLen) (hbase : base ≤ w.heap.size)
    (h : ∀ v' w', w'.ownsRow base e size v' (n + m) (xs ++ news) → w.grownBy w' v.ownBlock → (∀ k, v'.ownBlock = some k → v.ownBlock = some k ∨ w.heap.size ≤ k) → wpList P ops Q rest (a.put o.dst v') w') : wpList P ops Q (o :: rest) a w := by
  obtain ⟨hl, ad, cap, rfl, hc1, hc2, hc3⟩ := hseg
  obtain ⟨b, off, rfl, h6⟩ := hc3 hm
  have hlt : ∀ k, v.ownBlock = some k → k < w.heap.size := fun k hk => (hown.lt k hk).2
  obtain ⟨v', w', r1, r2, _, r4, r5⟩ := run_app (P := P) w t o.type e z size bytes ht hinfo hzs hsz base v n xs hown ⟨b, off, none⟩ m cap news hl (fun j u hu => by rw [addr_add]; exact h6 j u hu) h1 hbytes h63 hbase
    (fun g => if v.ownBlock = some g then some (n * size, news) else none) (fun g hg => by simp [hg]) (fun k hk => by rw [if_neg (fun e => by have := hlt k e; omega)])
  refine wpList_plain hgd fun K hK => ?_
  unfold Oper.wp
  simp [execOp, ho, resolve, invoke, builtin, hs, hx, r1, Result.andThen]
  exact hK _ _ (h v' w' r2.1 r4 r5)
theorem grown_extR {a b c : World} {row : Option Nat} (h : a.grownBy b row) (E : Ext b c) : a.grownBy c row :=
  ⟨E.os.trans h.os, E.tape.trans h.tape, E.output.trans h.output, Nat.le_trans h.size E.size', fun j hj hne => (Below.block E j (Nat.lt_of_lt_of_le hj h.size)).trans (h.block j hj hne)⟩
theorem ext_grown {a b c : World} {row : Option Nat} (E : Ext a b) (h : b.grownBy c row) : a.grownBy c row :=
  ⟨h.os.trans E.os, h.tape.trans E.tape, h.output.trans E.output, Nat.le_trans E.size' h.size, fun j hj hne => (h.block j (Nat.lt_of_lt_of_le hj E.size') hne).trans (Below.block E j hj)⟩
end Go.Proofs.YtddghaoejnbkaaaDoor

/- Contracts and lemmas for the proofs of this seat; each theorem states its own conditions. -/
namespace Go.Proofs.YtddghaoejnbkaaaDoor
open Go.RowKit
/-! a region that draws its order, in which one operation (m) turns what lies there and the last one (z) stores: all others only read and make -/
/-- the last one waits for all -/
def lastB (l : List Oper) (z : Nat) : Bool := match l[z]? with
  | none => false
  | some o => decide (z < l.length) && (List.range l.length).all fun i => i == z || o.after.any fun e => Region.binds .any e && e.on == i
def TPost (P : Program) (l : List Oper) (t0 : Array Value) (ds : List Deferred) (x : Nat → Value) (o : Oper) (R : Value → World → Prop) (w : World) : Prop :=
  wpList P l.toArray (fun e a' w' => e = .normal ∧ ∃ v, a' = (⟨frL x l 0 t0, ds⟩ : Act).put o.dst v ∧ R v w') [o] ⟨frL x l 0 t0, ds⟩ w
theorem TPost.mono {P : Program} {l : List Oper} {t0 : Array Value} {ds : List Deferred} {x : Nat → Value} {o : Oper} {R R' : Value → World → Prop} {w : World} (h : TPost P l t0 ds x o R w) (k : ∀ v w', R v w' → R' v w') : TPost P l t0 ds x o R' w := by
  unfold TPost wpList at *
  split
  · rename_i hw
    rw [if_pos hw] at h
    rcases h with h | ⟨_, h⟩
    · left
      refine Oper.upon_both (fun a' w'' hh => ?_) (fun e a' w'' hne hh => ?_) h
      · obtain ⟨h1, v, h2, h3⟩ := hh
        exact ⟨h1, v, h2, k _ _ h3⟩
      · exact absurd hh.1 hne
    · obtain ⟨a', w'', he, _⟩ := h; cases he
  · rename_i hw
    rw [if_neg hw] at h
    obtain ⟨h1, v, h2, h3⟩ := h
    exact ⟨h1, v, h2, k _ _ h3⟩
end Go.Proofs.YtddghaoejnbkaaaDoor
