/- Contracts and lemmas for the proof of DeedRuns; each theorem states its own conditions. -/
import Derived.Test.YtomgeolmfpijoaaDoorRows
import Derived.Test.YtomgeolmfpijoaaDoorQDeedRunsbf
import Derived.Test.YtomgeolmfpijoaaDoorQDeedRunsaz
import Derived.Deep.SlicePairs
set_option linter.unusedVariables false
set_option linter.unusedSimpArgs false
/- Contracts and lemmas for the proofs of this seat; each theorem states its own conditions. -/
namespace Go.Proofs.YtomgeolmfpijoaaDoor
open Go.RowKit Go.Deep
/-! what a row tells of a slice of pairs -/
theorem bulk_one {H : Type} (d : DataW H) : 1 ≤ Rows.uptoBulk d := by
  cases d with
  | lit l => cases l <;> simp [Rows.uptoBulk]
  | nil => simp [Rows.uptoBulk]
  | ptr d => simp [Rows.uptoBulk]
  | slice elems spare => simp [Rows.uptoBulk]
  | agg parts => simp [Rows.uptoBulk]
  | iface t d => simp [Rows.uptoBulk]
  | map entries => simp [Rows.uptoBulk]
  | held h => simp [Rows.uptoBulk]
theorem bulk_map {H : Type} {α : Type} {c : Nat} {f : α → DataW H} : ∀ {l : List α}, (∀ a ∈ l, c ≤ Rows.uptoBulk (f a)) → c * l.length ≤ Rows.uptoBulkAll (l.map f)
  | [], _ => by simp [Rows.uptoBulkAll]
  | a :: l, h => by
    have h1 := h a (by simp)
    have h2 := bulk_map (l := l) fun b hb => h b (by simp [hb])
    simp only [List.map_cons, Rows.uptoBulkAll, List.length_cons, Nat.mul_succ]
    omega
theorem pick_fun {α : Type} [Inhabited α] {p : Nat → α → Prop} {n : Nat} (h : ∀ i, i < n → ∃ a, p i a) : ∃ f : Nat → α, ∀ i, i < n → p i (f i) :=
  ⟨fun i => if hi : i < n then Classical.choose (h i hi) else default, fun i hi => by simp only [hi, dif_pos]; exact Classical.choose_spec (h i hi)⟩
theorem segP_of_trod {H : Type} {enc : TypeId × Value → H} {W : World} {base : Nat} {held : Bool} {fuel : Nat} {a : Option Addr} {len cap : Nat} {x : DataW H × List MemPlace}
    (h : DataW.trod enc Tryd.prog W base (fun _ => true) held fuel 89 [.slice a len cap] = some x) :
    ∃ l : Prs, Seg W (.slice a len cap) 2 l.length (cP l) ∧ PrsW l ∧ 3 * l.length + 1 ≤ Rows.uptoBulk x.1 := by
  rcases open_slice_pairs Tryd.underlying89 Tryd.underlying98 (by kernel_rfl) rfl rfl (by kernel_rfl) (by kernel_rfl) h with ⟨hcs, rfl⟩ | ⟨ad, len', cap', m, n, V0, V1, D0, D1, P0, P1, hcs, _, hl, hm, hmm, rfl, hx⟩
  · injection hcs with hcs _
    injection hcs with e1 e2 e3
    subst e1; subst e2; subst e3
    exact ⟨[], Seg.nil _ _, by simp [PrsW], by simp [Rows.uptoBulk]⟩
  · injection hcs with hcs _
    injection hcs with e1 e2 e3
    subst e1; subst e2; subst e3
    simp only [if_true] at hmm
    obtain ⟨f, hf⟩ := pick_fun (α := ByteArray × Int) (n := len) (p := fun i p => W.cell? (ad.add (i * 2)) = some (.string p.1) ∧ W.cell? (ad.add (i * 2 + 1)) = some (.int .i64 p.2) ∧ p.1.size ≤ maxLen ∧ (Lit.int .i64 p.2).wf = true) (fun i hi => by
      obtain ⟨h1, h2, h3, h4⟩ := hx i (by omega)
      obtain ⟨s, q1, _, q3⟩ := DataW.trod_string Tryd.underlying9 h3
      obtain ⟨z, r1, _, r3⟩ := DataW.trod_int Tryd.underlying3 h4
      injection q1 with q1 _
      injection r1 with r1 _
      exact ⟨(s, z), by rw [h1, q1], by rw [h2, r1], q3, r3⟩)
    refine ⟨(List.range len).map f, ⟨by rw [cP_len], some ad, cap, by simp, by simpa using hl, hm, fun hn => ?_⟩, ?_, ?_⟩
    · simp at hn
      have hs := cell_spot (hf 0 (by omega)).1
      obtain ⟨b, off, sp⟩ := ad
      have : sp = none := by simpa [Addr.add] using hs
      subst this
      refine ⟨b, off, rfl, fun j u hu => ?_⟩
      have hj := (List.getElem?_eq_some_iff.1 hu).1
      rw [cP_len] at hj
      simp at hj
      have hk : j / 2 < ((List.range len).map f).length := by simp; omega
      have ek : ((List.range len).map f)[j / 2] = f (j / 2) := by simp
      obtain ⟨g1, g2, _, _⟩ := hf (j / 2) (by omega)
      rw [addr_add] at g1 g2
      rcases Nat.mod_two_eq_zero_or_one j with e | e
      · have hj2 : j = j / 2 * 2 := by omega
        have c := cP_at0 _ _ hk
        rw [← hj2, hu, ek] at c
        injection c with c
        rw [c, ← g1, ← hj2]
      · have hj2 : j = j / 2 * 2 + 1 := by omega
        have c := cP_at1 _ _ hk
        rw [← hj2, hu, ek] at c
        injection c with c
        rw [c, ← g2, ← hj2]
    · intro p hp
      simp at hp
      obtain ⟨i, hi, rfl⟩ := hp
      obtain ⟨_, _, q1, q2⟩ := hf i hi
      have := bounds_i64 q2
      exact ⟨q1, this.1, this.2⟩
    · have hb := bulk_map (c := 3) (f := fun i => DataW.agg [D0 i, D1 i]) (l := List.range len) (fun i _ => by
        have h1 := bulk_one (D0 i)
        have h2 := bulk_one (D1 i)
        simp only [Rows.uptoBulk, Rows.uptoBulkAll]; omega)
      simp only [List.length_range] at hb
      simp only [List.length_map, List.length_range, Rows.uptoBulk]
      omega
end Go.Proofs.YtomgeolmfpijoaaDoor
