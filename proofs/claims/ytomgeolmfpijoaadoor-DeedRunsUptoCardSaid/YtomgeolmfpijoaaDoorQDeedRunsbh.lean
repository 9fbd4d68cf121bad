/- Contracts and lemmas for the proof of DeedRuns; each theorem states its own conditions. -/
import Derived.Test.YtomgeolmfpijoaaDoorQDeedRunsay
import Derived.Test.YtomgeolmfpijoaaDoorQDeedRunsas
import Derived.Test.YtomgeolmfpijoaaDoorQDeedRunsax
import Derived.Test.YtomgeolmfpijoaaDoorQDeedRunsbf
import Derived.WalkLawsBesides
import Derived.Carry
set_option linter.unusedVariables false
set_option linter.unusedSimpArgs false
/- Contracts and lemmas for the proofs of this seat; each theorem states its own conditions. -/
namespace Go.Proofs.YtomgeolmfpijoaaDoor
open Go.RowKit
/-! Join -/
def joinE (a b : Prs) : Int := if storeErr a ≠ 0 then storeErr a else if storeErr b ≠ 0 then storeErr b else if apartB a b then 0 else 5
def apartTo (a b : Prs) (k : Nat) : Prop := ∀ j, (h : j < b.length) → j < k → valP a b[j].1 = 0
theorem apartTo_zero (a b : Prs) : apartTo a b 0 := fun _ _ h => absurd h (by omega)
theorem apartTo_succ {a b : Prs} {k : Nat} (h : apartTo a b k) (hk : k < b.length) (e : valP a b[k].1 = 0) : apartTo a b (k + 1) := by
  intro j hj hjk
  rcases Nat.lt_succ_iff_lt_or_eq.1 hjk with h3 | h3
  · exact h j hj h3
  · subst h3; exact e
theorem apartTo_all {a b : Prs} {k : Nat} (h : apartTo a b k) (hk : k = b.length) : apartB a b = true := by
  unfold apartB
  rw [List.all_eq_true]
  intro p hp
  obtain ⟨i, hi, rfl⟩ := List.mem_iff_getElem.1 hp
  simpa using h i hi (by omega)
theorem apart_hit {a b : Prs} {k : Nat} (hk : k < b.length) (e : valP a b[k].1 ≠ 0) : apartB a b = false := by
  cases h : apartB a b with
  | false => rfl
  | true =>
    unfold apartB at h
    rw [List.all_eq_true] at h
    exact absurd (by simpa using h _ (List.getElem_mem hk)) e
end Go.Proofs.YtomgeolmfpijoaaDoor

/- Contracts and lemmas for the proofs of this seat; each theorem states its own conditions. -/
namespace Go.Proofs.YtomgeolmfpijoaaDoor
open Go.RowKit Go.Maps
/-! rokeep.Pairs -/
/-- what the map of Pairs holds -/
def PF (f : ByteArray → Option Int) : Prop := ∀ k c, f k = some c → keyB k = true ∧ -20 ≤ c ∧ c ≤ 20
theorem pf_none : PF (fun _ => none) := fun _ _ h => by cases h
theorem pf_put {f : ByteArray → Option Int} (h : PF f) {k : ByteArray} {c : Int} (hk : keyB k = true) (h1 : -20 ≤ c) (h2 : c ≤ 20) : PF (fun x => if x = k then some c else f x) := fun x d hd => by
  dsimp only at hd
  split at hd
  · rename_i e; subst e; injection hd with hd; subst hd; exact ⟨hk, h1, h2⟩
  · exact h x d hd
theorem pf_store {f : ByteArray → Option Int} (h : PF f) {l : Prs} (h1 : srtP l) (h2 : nzP l) (h3 : ∀ k, valP l k = (f k).getD 0) : StoreOk l := by
  have hm : ∀ p ∈ l, f p.1 = some p.2 := fun p hp => by
    have a := h3 p.1
    rw [valP_mem h1 hp] at a
    cases hf : f p.1 with
    | none => rw [hf] at a; exact absurd a (h2 p hp)
    | some c => rw [hf] at a; simp at a; rw [a]
  exact ⟨fun p hp => (h _ _ (hm p hp)).1, fun p hp => by have := h _ _ (hm p hp); exact ⟨h2 p hp, by omega, by omega⟩, h1⟩
/-- where Pairs' loop stands -/
def PRel (w : World) (k : Nat) (wr : World) : Prop :=
  ∃ (D : DU) (f : ByteArray → Option Int), wr.ownsMap Tryd.prog 9 (plainElem Tryd.prog 3) w.heap.size k D ∧ MapF kS okS dI D f ∧ PF f ∧ Ext w wr
theorem prel_put {w w3 : World} {k : Nat} {D : DU} {f : ByteArray → Option Int} {key : ByteArray} {c : Int} (hF : MapF kS okS dI D f) (hP : PF f) (hk : keyB key = true) (h1 : -20 ≤ c) (h2 : c ≤ 20)
    (hown : w3.ownsMap Tryd.prog 9 (plainElem Tryd.prog 3) w.heap.size (k + 1) (D.put (kS key) (dI c))) (E : Ext w w3) : PRel w (k + 1) w3 :=
  ⟨_, _, hown, hF.put kS_inj kS_is (by have := keyB_size hk; unfold okS maxLen; omega) c, pf_put hP hk h1 h2, E⟩
end Go.Proofs.YtomgeolmfpijoaaDoor
