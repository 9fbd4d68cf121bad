/- Contracts and lemmas for the proofs of this seat; each theorem states its own conditions. -/
import Derived.Test.YtijcckhkofkenaaW11
namespace Go.Proofs.Ytijcckhkofkenaa
open Go.RowKit
theorem cut_ex (p : Nat → Bool) (n : Nat) (hd : dropsB p n) : ∃ i, cutAt p n i := by
  have key : ∀ m, m ≤ n → (∃ i, cutAt p n i) ∨ ∀ j, j < m → p j = true := by
    intro m
    induction m with
    | zero => intro _; right; intro j hj; omega
    | succ m ih =>
      intro hm
      rcases ih (by omega) with h | h
      · exact .inl h
      · cases hb : p m with
        | true => right; intro j hj; rcases Nat.lt_succ_iff_lt_or_eq.1 hj with h' | h'
                  · exact h j h'
                  · subst h'; exact hb
        | false =>
          left
          refine ⟨m, by omega, h, fun j hj hjn => ?_⟩
          cases hb' : p j with
          | false => rfl
          | true =>
            rcases Nat.eq_or_lt_of_le hj with h' | h'
            · subst h'; rw [hb] at hb'; cases hb'
            · have := hd m j h' hjn hb'; rw [hb] at this; cases this
  rcases key n (Nat.le_refl _) with h | h
  · exact h
  · exact ⟨n, Nat.le_refl _, h, fun j hj hjn => by omega⟩
theorem cut_hit (v : Value) (C : List ByteArray) (O : List Int) (key : ByteArray) (i : Nat) (w : World) (hv : IsMap w v C O) (hk : ∀ k ∈ C, k.size ≤ 9223372036854775807) (ok : MapOk C O) (hks : key.size ≤ 9223372036854775807)
    (hkb : keyB key = true) (hc : cutAt (bltAt C key) C.length i) (hh : hitS C key i = true) :
    Calls Try.prog 42 #[v, .string key] w fun e w' => e = .returned (.tuple #[nilMap, .int .i64 5]) ∧ Ext w w' := by
  refine (cut_any v C O key w hv hk ok hks).mono fun e w' ⟨⟨j, h⟩, hE⟩ => ⟨?_, hE⟩
  rcases h with ⟨_, h⟩ | ⟨_, hc', h⟩
  · rw [hkb] at h; cases h
  · obtain rfl := cutAt_uniq hc hc'
    rcases h with ⟨h, _⟩ | ⟨_, h, _⟩ | ⟨h, _⟩
    · exact h
    · rw [hh] at h; cases h
    · rw [hh] at h; cases h
theorem cut_new (v : Value) (C : List ByteArray) (O : List Int) (key : ByteArray) (i : Nat) (w : World) (hv : IsMap w v C O) (hk : ∀ k ∈ C, k.size ≤ 9223372036854775807) (ok : MapOk C O) (hks : key.size ≤ 9223372036854775807)
    (hkb : keyB key = true) (hc : cutAt (bltAt C key) C.length i) (hh : hitS C key i = false) (hlt : C.length < 12) :
    Calls Try.prog 42 #[v, .string key] w fun e w' => ∃ v', e = .returned (.tuple #[v', .int .i64 0]) ∧ OwnMap w' w.heap.size v' (cutC C key i) (cutO O i) ∧ Ext w w' := by
  refine (cut_any v C O key w hv hk ok hks).mono fun e w' ⟨⟨j, h⟩, hE⟩ => ?_
  rcases h with ⟨_, h⟩ | ⟨_, hc', h⟩
  · rw [hkb] at h; cases h
  · obtain rfl := cutAt_uniq hc hc'
    rcases h with ⟨_, h⟩ | ⟨_, _, h⟩ | ⟨_, _, v', h1, h2⟩
    · rw [hh] at h; cases h
    · omega
    · exact ⟨v', h1, h2, hE⟩
end Go.Proofs.Ytijcckhkofkenaa
