/- Contracts and lemmas for the proof of TextLines; each theorem states its own conditions. -/
import Derived.Test.YtnepdfpooobmcaaGreatDoorQTextLinesbc
import Derived.Test.YtnepdfpooobmcaaGreatDoorQTextLinesas
import Derived.Deep.RegionLawGrows
set_option linter.unusedVariables false
set_option linter.unusedSimpArgs false
/- Contracts and lemmas for the proofs of this seat; each theorem states its own conditions. -/
namespace Go.Proofs.YtnepdfpooobmcaaGreatDoor
open Go.RowKit
/-! appends in place, as a frame: block k may turn from what it was to what it is with (o, ns) laid into it, once for all -/
theorem spl_spl {cur ns : List Value} {o : Nat} (h : o + ns.length ≤ cur.length) : spl (spl cur o ns) o ns = spl cur o ns := by
  have h1 : (spl cur o ns).take o = cur.take o := spl_take_lo (by omega) (Nat.le_refl _)
  have h2 : (spl cur o ns).drop (o + ns.length) = cur.drop (o + ns.length) := by
    have hl : (cur.take o ++ ns).length = o + ns.length := by rw [List.length_append, List.length_take]; omega
    conv => lhs; unfold spl
    rw [← hl, List.drop_left]
  unfold spl at *
  rw [h1, h2]
def GF (G : Nat → Option (Nat × List Value)) (w w' : World) : Prop :=
  w'.os = w.os ∧ w'.tape = w.tape ∧ w'.output = w.output ∧ w.heap.size ≤ w'.heap.size ∧
  ∀ k, k < w.heap.size → w'.heap[k]? = w.heap[k]? ∨ ∃ o ns e cur, G k = some (o, ns) ∧ o + ns.length ≤ cur.length ∧ RowB w k e cur ∧ RowB w' k e (spl cur o ns)
theorem rowB_inj {w : World} {k : Nat} {e e' : TypeId} {cur cur' : List Value} (h : RowB w k e cur) (h' : RowB w k e' cur') : e = e' ∧ cur = cur' := by
  unfold RowB at h h'
  rw [h] at h'
  injection h' with h'; injection h' with h1 h2
  exact ⟨h2, by simpa using h1⟩
theorem gf_fr (G : Nat → Option (Nat × List Value)) : PR.Fr (GF G) where
  refl w := ⟨rfl, rfl, rfl, Nat.le_refl _, fun _ _ => .inl rfl⟩
  drew w := ⟨rfl, rfl, rfl, Nat.le_refl _, fun _ _ => .inl rfl⟩
  trans := by
    rintro a b c ⟨a1, a2, a3, a4, a5⟩ ⟨b1, b2, b3, b4, b5⟩
    refine ⟨b1.trans a1, b2.trans a2, b3.trans a3, Nat.le_trans a4 b4, fun k hk => ?_⟩
    rcases a5 k hk with h | ⟨o, ns, e, cur, h1, h2, h3, h4⟩
    · rcases b5 k (by omega) with h' | ⟨o, ns, e, cur, h1, h2, h3, h4⟩
      · exact .inl (h'.trans h)
      · exact .inr ⟨o, ns, e, cur, h1, h2, by unfold RowB at h3 ⊢; rw [← h]; exact h3, h4⟩
    · rcases b5 k (by omega) with h' | ⟨o', ns', e', cur', g1, g2, g3, g4⟩
      · exact .inr ⟨o, ns, e, cur, h1, h2, h3, by unfold RowB at h4 ⊢; rw [h']; exact h4⟩
      · rw [h1] at g1
        injection g1 with g1; injection g1 with e1 e2
        subst e1; subst e2
        obtain ⟨rfl, rfl⟩ := rowB_inj h4 g3
        rw [spl_spl h2] at g4
        exact .inr ⟨o, ns, e, cur, h1, h2, h3, g4⟩
theorem gf_ext {G : Nat → Option (Nat × List Value)} {w w' : World} (h : Ext w w') : GF G w w' := ⟨h.os, h.tape, h.output, h.size', fun k hk => .inl (Below.block h k hk)⟩
theorem gf_heap {G : Nat → Option (Nat × List Value)} {w w' : World} (h : GF G w w') {k : Nat} {o : Obj} (hk : w.heap[k]? = some o) (hG : G k = none) : w'.heap[k]? = some o := by
  rcases h.2.2.2.2 k (Array.getElem?_eq_some_iff.1 hk).1 with e | ⟨_, _, _, _, h1, _⟩
  · rw [e]; exact hk
  · rw [hG] at h1; cases h1
/-- a row of one's own that stands under the frame -/
def OwnG (G : Nat → Option (Nat × List Value)) (B : Nat) (e : TypeId) (sz : Nat) (v : Value) (n : Nat) (xs : List Value) (w : World) : Prop :=
  w.ownsRow B e sz v n xs ∧ ∀ g, v.ownBlock = some g → ∀ o ns, G g = some (o, ns) → n * sz ≤ o ∨ (o + ns.length = n * sz ∧ xs.drop o = ns)
theorem OwnG.st {G : Nat → Option (Nat × List Value)} {B e sz n : Nat} {v : Value} {xs : List Value} {w w' : World} (hF : GF G w w') (h : OwnG G B e sz v n xs w) : OwnG G B e sz v n xs w' := by
  refine ⟨?_, h.2⟩
  obtain ⟨⟨h1, h2⟩, h3⟩ := h
  refine ⟨h1, ?_⟩
  rcases h2 with hn | ⟨g, cap, cur, rfl, hb, hg, hn, hc, hs, ht⟩
  · exact .inl hn
  · right
    rcases hF.2.2.2.2 g (Array.getElem?_eq_some_iff.1 hg).1 with q | ⟨o, ns, e', cur', q1, q2, q3, q4⟩
    · exact ⟨g, cap, cur, rfl, hb, q.trans hg, hn, hc, hs, ht⟩
    · have hg' : RowB w g e cur.toList := by unfold RowB; rw [Array.toArray_toList]; exact hg
      obtain ⟨rfl, rfl⟩ := rowB_inj hg' q3
      refine ⟨g, cap, (spl cur.toList o ns).toArray, rfl, hb, q4, hn, hc, by rw [List.size_toArray, spl_len q2]; simpa using hs, ?_⟩
      show (spl cur.toList o ns).take (n * sz) = xs
      rcases h3 g rfl o ns q1 with r | ⟨r1, r2⟩
      · rw [spl_take_lo (by omega) r]; exact ht
      · rw [← r1, spl_take q2]
        have hx : xs.take o = cur.toList.take o := by rw [← ht, List.take_take, Nat.min_eq_left (by omega)]
        rw [← hx, ← r2, List.take_append_drop]
theorem setRow_gf {G : Nat → Option (Nat × List Value)} {w : World} {g : Nat} {e : TypeId} {cur ns : List Value} {o : Nat} (hrow : RowB w g e cur) (hG : G g = some (o, ns)) (hl : o + ns.length ≤ cur.length) : GF G w (w.setRow g (spl cur o ns).toArray) := by
  have hB := below_setRow (Below.refl 0 w) (Nat.zero_le g) (spl cur o ns).toArray
  refine ⟨hB.os, hB.tape, hB.output, hB.size, fun k hk => ?_⟩
  by_cases e' : k = g
  · subst e'; exact .inr ⟨o, ns, e, cur, hG, hl, hrow, hrow.set _⟩
  · exact .inl (setRow_other w g k _ e')
theorem ext_of_grown' {w w' : World} (h : w.grownBy w' none) : Ext w w' := ⟨h.os, h.tape, h.output, h.size, fun k hk => h.block k hk (by simp)⟩
theorem grown_but {a c : World} (h : a.grownBy c none) (row : Option Nat) : a.grownBy c row := ⟨h.os, h.tape, h.output, h.size, fun i hi _ => h.block i hi (by simp)⟩
/-- append to a row of one's own, told whole: what it makes, what it turns, where it lies -/
theorem run_app {P : Program} (w : World) (t ty e : TypeId) (z : Value) (size bytes : Nat) (ht : P.underlying t = some (.slice e))
    (hinfo : (P.info? e).map (fun i => (i.zero, i.size, i.bytes)) = some (some z, size, bytes)) (hzs : z.cells.size = size) (hsz : 0 < size)
    (base : Nat) (v : Value) (n : Nat) (xs : List Value) (hown : w.ownsRow base e size v n xs) (ad : Addr) (m c : Nat) (news : List Value) (hl : news.length = m * size) (hnews : ∀ j u, news[j]? = some u → w.cell? (ad.add j) = some u)
    (h1 : ∀ u ∈ news, u.oneCell' = true) (hbytes : (n + m) * bytes ≤ 140737488355328) (h63 : n + m ≤ maxLen) (hbase : base ≤ w.heap.size)
    (G : Nat → Option (Nat × List Value)) (hG : ∀ g, v.ownBlock = some g → G g = some (n * size, news)) (hGlt : ∀ k, w.heap.size ≤ k → G k = none) :
    ∃ v' w', (Builtin.append_ #[t, t] ty #[v, .slice (some ad) m c]).run P w = .ok v' w' ∧ OwnG G base e size v' (n + m) (xs ++ news) w' ∧ GF G w w' ∧ w.grownBy w' v.ownBlock ∧ (∀ k, v'.ownBlock = some k → v.ownBlock = some k ∨ w.heap.size ≤ k) := by
  obtain ⟨i, hi, hz0, hz1, hz2⟩ := info_parts hinfo
  have hlen : (xs ++ news).length = (n + m) * size := by rw [List.length_append, hown.1, hl, Nat.add_mul]
  have hdrop : (xs ++ news).drop (n * size) = news := by rw [← hown.1, List.drop_left]
  rcases hown.2 with ⟨rfl, hn0⟩ | ⟨g, cap, cur, rfl, hb, hg, hn, hc, hs, htk⟩
  · obtain ⟨v', w', r1, r2, r3, _⟩ := run_append_own (P := P) (w := w) w.heap.size t ty e i z size bytes ht hi hz0 hz1 hz2 hzs hsz (.slice none 0 0) n xs ⟨hown.1, .inl ⟨rfl, hn0⟩⟩ ad m c news hl hnews h1 h63 hbytes (Nat.le_refl _)
    have hfr : ∀ k, v'.ownBlock = some k → w.heap.size ≤ k := fun k hk => own_ge r2 k hk
    refine ⟨v', w', r1, ⟨own_base r2 hbase, fun k hk o ns hGk => ?_⟩, gf_ext (ext_of_grown' r3), r3, fun k hk => .inr (hfr k hk)⟩
    rw [hGlt k (hfr k hk)] at hGk; cases hGk
  · by_cases hroom : n + m ≤ cap
    · have hg' : RowB w g e cur.toList := by unfold RowB; rw [Array.toArray_toList]; exact hg
      have hfit : n * size + news.length ≤ cur.toList.length := by
        rw [hl, ← Nat.add_mul, Array.length_toList, hs]; exact Nat.mul_le_mul_right _ hroom
      have hr := run_app_row (P := P) w t ty e i ht hi g n cap cur.toList hg' ad m c news (by rw [hz1]; exact hl) hnews h1 hroom (by rw [hz1]; exact hfit)
      rw [hz1] at hr
      have hset := hg'.set (spl cur.toList (n * size) news)
      have hlt : g < w.heap.size := (Array.getElem?_eq_some_iff.1 hg).1
      refine ⟨_, _, hr, ⟨own_of_row hset hb hroom hc (by rw [spl_len hfit]; simpa using hs) hlen ?_, fun k hk o ns hGk => ?_⟩, setRow_gf hg' (hG g rfl) hfit, ?_, fun k hk => .inl hk⟩
      · rw [Nat.add_mul, ← hl, spl_take hfit]
        have : cur.toList.take (n * size) = xs := htk
        rw [this]
      · have hkg : k = g := by simpa [Value.ownBlock] using hk.symm
        subst hkg
        rw [hG k rfl] at hGk
        injection hGk with hGk; injection hGk with e1 e2
        subst e1; subst e2
        right; exact ⟨by rw [hl, ← Nat.add_mul], hdrop⟩
      · have hB := below_setRow (Below.refl 0 w) (Nat.zero_le g) (spl cur.toList (n * size) news).toArray
        exact ⟨hB.os, hB.tape, hB.output, hB.size, fun k _ hne => setRow_other w g k _ (fun e' => hne (by rw [e']; rfl))⟩
    · obtain ⟨v', w', r1, r2, r3⟩ := run_append_arg_grows (P := P) w t ty e i z size bytes ht hi hz0 hz1 hz2 hzs hsz ⟨g, 0, none⟩ n cap xs hown.1 (fun j u hu => by
          rw [addr_add, Nat.zero_add]
          have := own_seg (w := w) (B := base) (e := e) (sz := size) (v := .slice (some ⟨g, 0, none⟩) n cap) (n := n) (xs := xs) hown
          obtain ⟨_, a', c', hq, _, _, hcell⟩ := this
          injection hq with q1 _ _
          obtain ⟨b', off', hq', hcc⟩ := hcell (by
            have := (List.getElem?_eq_some_iff.1 hu).1
            rw [hown.1] at this
            rcases Nat.eq_zero_or_pos n with h0 | h0
            · subst h0; simp at this
            · exact h0)
          rw [← q1] at hq'; injection hq' with hq'; injection hq' with q2 q3
          subst q2; subst q3
          have := hcc j u hu
          rwa [Nat.zero_add] at this) ad m c news hl hnews (by omega) h63 hbytes
      have hfr : ∀ k, v'.ownBlock = some k → w.heap.size ≤ k := fun k hk => own_ge r2 k hk
      refine ⟨v', w', r1, ⟨own_base r2 hbase, fun k hk o ns hGk => ?_⟩, gf_ext (ext_of_grown' r3), grown_but r3 _, fun k hk => .inr (hfr k hk)⟩
      rw [hGlt k (hfr k hk)] at hGk; cases hGk
end Go.Proofs.YtnepdfpooobmcaaGreatDoor
