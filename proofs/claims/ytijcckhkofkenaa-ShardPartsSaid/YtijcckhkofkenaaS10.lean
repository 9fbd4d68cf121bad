/- Contracts and lemmas for the proofs of this seat; each theorem states its own conditions. -/
import Derived.Test.YtijcckhkofkenaaS9
import Derived.Test.YtijcckhkofkenaaS8
import Derived.Test.YtijcckhkofkenaaSr
import Derived.Test.YtijcckhkofkenaaKo
import Derived.WalkLawsBesides
import Derived.Carry
namespace Go.Proofs.Ytijcckhkofkenaa
open Go.RowKit Go.Maps
/-! rokeep.Pairs -/
/-- what the map of Pairs holds -/
def PF (f : ByteArray → Option Int) : Prop := ∀ k c, f k = some c → keyB k = true ∧ -20 ≤ c ∧ c ≤ 20
theorem pf_none : PF (fun _ => none) := fun _ _ h => by cases h
theorem pf_put {f : ByteArray → Option Int} (h : PF f) {k : ByteArray} {c : Int} (hk : keyB k = true) (h1 : -20 ≤ c) (h2 : c ≤ 20) : PF (fun x => if x = k then some c else f x) := fun x d hd => by
  dsimp only at hd
  split at hd
  · rename_i e; subst e; injection hd with hd; subst hd; exact ⟨hk, h1, h2⟩
  · exact h x d hd
theorem pf_store {f : ByteArray → Option Int} (h : PF f) {l : Prs} (h1 : srtP l) (h2 : nzP l) (h3 : ∀ k, valP l k = (f k).getD 0) : StoreOk l := by
  have hm : ∀ p ∈ l, f p.1 = some p.2 := fun p hp => by
    have a := h3 p.1
    rw [valP_mem h1 hp] at a
    cases hf : f p.1 with
    | none => rw [hf] at a; exact absurd a (h2 p hp)
    | some c => rw [hf] at a; simp at a; rw [a]
  exact ⟨fun p hp => (h _ _ (hm p hp)).1, fun p hp => by have := h _ _ (hm p hp); exact ⟨h2 p hp, by omega, by omega⟩, h1⟩
/-- where Pairs' loop stands -/
def PRel (w : World) (k : Nat) (wr : World) : Prop :=
  ∃ (D : DU) (f : ByteArray → Option Int), wr.ownsMap Try.prog 9 (plainElem Try.prog 3) w.heap.size k D ∧ MapF kS okS dI D f ∧ PF f ∧ Ext w wr
theorem prel_put {w w3 : World} {k : Nat} {D : DU} {f : ByteArray → Option Int} {key : ByteArray} {c : Int} (hF : MapF kS okS dI D f) (hP : PF f) (hk : keyB key = true) (h1 : -20 ≤ c) (h2 : c ≤ 20)
    (hown : w3.ownsMap Try.prog 9 (plainElem Try.prog 3) w.heap.size (k + 1) (D.put (kS key) (dI c))) (E : Ext w w3) : PRel w (k + 1) w3 :=
  ⟨_, _, hown, hF.put kS_inj kS_is (by have := keyB_size hk; unfold okS maxLen; omega) c, pf_put hP hk h1 h2, E⟩
set_option maxRecDepth 10000 in
set_option maxHeartbeats 1000000 in
theorem pairs_any (v : Value) (l : List Int) (w : World) (hv : Seg w v 1 l.length (cI l)) (hb : ∀ z ∈ l, -9223372036854775808 ≤ z ∧ z ≤ 9223372036854775807) :
    Calls Try.prog 58 #[v] w fun e w' => ∃ v' P, e = .returned v' ∧ StoreOk P ∧ P.length ≤ 30 ∧ w'.ownsRow w.heap.size 90 2 v' P.length (cP P) ∧ Ext w w' := by
  obtain ⟨h0, a, cap, rfl, h1, h2, h3⟩ := hv
  unfold maxLen at h2
  have hmm := @run_makeMap Try.prog
  have b0 := World.ownsMap_made w Try.prog 9 (plainElem (H := Unit) Try.prog 3)
  have E0 := (Ext.refl w).alloc (.map #[] 0)
  go_enter Try.func58, Try.ntmps58
  obtain ⟨N, hN, hN1, hN2⟩ : ∃ N : Nat, min (l.length : Int) 30 = (N : Int) ∧ N ≤ l.length ∧ N ≤ 30 := ⟨min l.length 30, by omega, by omega, by omega⟩
  have hN3 : ((N : Int)).toNat = N := by omega
  have hN4 : max (N : Int) 0 = (N : Int) := by omega
  go_wp2
  try simp only [hN, hN3, hN4]
  clear hN hN3 hN4
  go_loopw [4, 5, 13] (fun _ _ i wr => ∃ k : Nat, k ≤ N ∧ i = .int .i64 k ∧ PRel w k wr) (fun _ _ i _ => N - (intOf i).toNat)
  case atStart => exact ⟨0, Nat.zero_le _, rfl, _, _, b0, MapF.empty, pf_none, E0⟩
  case round =>
    clear b0 E0 hmm
    obtain ⟨k, hk, rfl, D, f, hown, hF, hP, E⟩ := hrel
    by_cases hlt : k < N
    · obtain ⟨b, off, rfl, hc⟩ := h3 (by omega)
      have c0 := E.cell (hc k _ (cI_at0 l k (by omega)))
      clear hc h3
      have ka := keyOf_is k
      have g1 := wi_lo (k := l[k]) (n := 41) (by omega)
      have g2 := wi_hi (k := l[k]) (n := 41) (by omega)
      go_wp2_with fail
      refine (kKey_any _ _).mono ?_
      rintro e w1 ⟨rfl, E1⟩
      go_wp2_with fail
      refine (within_any _ _ _ (by omega) (by omega)).mono ?_
      rintro e w2 ⟨rfl, rfl⟩
      generalize keyOf k = key at ka ⊢
      generalize wi l[k] 41 = q at g1 g2 ⊢
      have hown1 := ownsMap_ext hown E1
      have hwf : (Lit.int .i64 (q - 20)).wf = true := WalkArith.wf_i64 (by omega)
      have hkey := WideMaps.keyOf_string_mk Try.underlying9 (P := Try.prog) (k := 9) (s := key) (by have := keyB_size ka.1; unfold maxLen; omega)
      go_wp2_with (first
        | (at_mapUpdate; refine wpList_mapUpdate_own _ rfl _ _ _ 148 rfl 9 3 lawS Try.underlying148 _ w.heap.size k D rfl hown1 (by unfold maxLen; omega) _ _ (kS key) rfl rfl hkey (dI (q - 20)) [] (plainElem_int Try.underlying3 hwf) ?_; intro w3 hown3 hg3))
      go_roundw
      case rel => exact ⟨k + 1, by omega, by go_num, prel_put hF hP ka.1 (by omega) (by omega) hown3 ((E.trans E1).grown hg3 (fun j hj => by injection hj with hj; omega))⟩
      case measure => simp [intOf]; omega
    · go_wp2_with fail
      refine (rlist_any w.heap.size k D f _ hown hF (by omega)).mono ?_
      rintro e w2 ⟨v', P, rfl, r1, r2, r3, r4, r5, E2⟩
      go_wp2
      go_ret
      exact ⟨_, P, rfl, pf_store hP r1 r2 r3, by omega, own_base r5 E.size', E.trans E2⟩
end Go.Proofs.Ytijcckhkofkenaa
