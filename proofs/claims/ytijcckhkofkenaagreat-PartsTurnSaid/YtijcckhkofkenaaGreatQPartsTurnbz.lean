/- Contracts and lemmas for the proof of PartsTurn; each theorem states its own conditions. -/
import Derived.Test.YtijcckhkofkenaaGreatQPartsTurnbq
set_option linter.unusedVariables false
set_option linter.unusedSimpArgs false
/- Contracts and lemmas for the proofs of this seat; each theorem states its own conditions. -/
namespace Go.Proofs.YtijcckhkofkenaaGreat
open Go.RowKit Go.Maps
/-! rokeep.Pairs, with what it holds -/
/-- what Pairs' map holds after k numbers -/
def pF (l : List Int) : Nat → ByteArray → Option Int
  | 0 => fun _ => none
  | k + 1 => fun x => if x = keyOf k then some (wi (l.getD k 0) 41 - 20) else pF l k x
theorem pF_step (l : List Int) {k : Nat} (h : k < l.length) : pF l (k + 1) = fun x => if x = keyOf k then some (wi l[k] 41 - 20) else pF l k x := by
  rw [pF, show l.getD k 0 = l[k] by simp [h]]
theorem pF_ok (l : List Int) : ∀ k, PF (pF l k)
  | 0 => pf_none
  | k + 1 => pf_put (pF_ok l k) (keyOf_is k).1 (by have := wi_lo (k := l.getD k 0) (n := 41) (by omega); omega) (by have := wi_hi (k := l.getD k 0) (n := 41) (by omega); omega)
def PRel2 (w : World) (l : List Int) (k : Nat) (wr : World) : Prop :=
  ∃ (D : DU), wr.ownsMap Tryz.prog 9 (plainElem Tryz.prog 3) w.heap.size k D ∧ MapF kS okS dI D (pF l k) ∧ Ext w wr
theorem prel2_put {w w3 : World} {l : List Int} {k : Nat} {D : DU} {key : ByteArray} {c : Int} (hF : MapF kS okS dI D (pF l k)) (hst : pF l (k + 1) = fun x => if x = key then some c else pF l k x) (hk : keyB key = true) (h1 : -20 ≤ c) (h2 : c ≤ 20)
    (hown : w3.ownsMap Tryz.prog 9 (plainElem Tryz.prog 3) w.heap.size (k + 1) (D.put (kS key) (dI c))) (E : Ext w w3) : PRel2 w l (k + 1) w3 :=
  ⟨_, hown, by rw [hst]; exact hF.put kS_inj kS_is (by have := keyB_size hk; unfold okS maxLen; omega) c, E⟩
set_option maxRecDepth 10000 in
set_option maxHeartbeats 1000000 in
theorem pairs_fn (v : Value) (l : List Int) (w : World) (hv : Seg w v 1 l.length (cI l)) (hb : ∀ z ∈ l, -9223372036854775808 ≤ z ∧ z ≤ 9223372036854775807) :
    Calls Tryz.prog 47 #[v] w fun e w' => ∃ v' P, e = .returned v' ∧ StoreOk P ∧ P.length ≤ 30 ∧ (∀ x, valP P x = (pF l (min l.length 30) x).getD 0) ∧ w'.ownsRow w.heap.size 33 2 v' P.length (cP P) ∧ Ext w w' := by
  obtain ⟨h0, a, cap, rfl, h1, h2, h3⟩ := hv
  unfold maxLen at h2
  have hmm := @run_makeMap Tryz.prog
  have b0 := World.ownsMap_made w Tryz.prog 9 (plainElem (H := Unit) Tryz.prog 3)
  have E0 := (Ext.refl w).alloc (.map #[] 0)
  go_enter Tryz.func47, Tryz.ntmps47
  obtain ⟨N, hN, hN1, hN2, hNN0⟩ : ∃ N : Nat, min (l.length : Int) 30 = (N : Int) ∧ N ≤ l.length ∧ N ≤ 30 ∧ N = min l.length 30 := ⟨min l.length 30, by omega, by omega, by omega, rfl⟩
  have hNN := hid hNN0
  clear hNN0
  have hN3 : ((N : Int)).toNat = N := by omega
  have hN4 : max (N : Int) 0 = (N : Int) := by omega
  go_wp2
  try simp only [hN, hN3, hN4]
  clear hN hN3 hN4
  go_loopw [4, 5, 13] (fun _ _ i wr => ∃ k : Nat, k ≤ N ∧ i = .int .i64 k ∧ PRel2 w l k wr) (fun _ _ i _ => N - (intOf i).toNat)
  case atStart => exact ⟨0, Nat.zero_le _, rfl, _, b0, MapF.empty, E0⟩
  case round =>
    clear b0 E0 hmm
    obtain ⟨k, hk, rfl, D, hown, hF, E⟩ := hrel
    by_cases hlt : k < N
    · obtain ⟨b, off, rfl, hc⟩ := h3 (by omega)
      have c0 := E.cell (hc k _ (cI_at0 l k (by omega)))
      clear hc h3
      have ka := keyOf_is k
      have g1 := wi_lo (k := l[k]) (n := 41) (by omega)
      have g2 := wi_hi (k := l[k]) (n := 41) (by omega)
      go_wp2_with fail
      refine (kKey_any _ _).mono ?_
      rintro e w1 ⟨rfl, E1⟩
      go_wp2_with fail
      refine (within_any _ _ _ (by omega) (by omega)).mono ?_
      rintro e w2 ⟨rfl, rfl⟩
      have hst := pF_step l (show k < l.length by omega)
      generalize keyOf k = key at ka hst ⊢
      generalize wi l[k] 41 = q at g1 g2 hst ⊢
      have HST := hid hst
      clear hst
      have hown1 := ownsMap_ext hown E1
      have hwf : (Lit.int .i64 (q - 20)).wf = true := WalkArith.wf_i64 (by omega)
      have hkey := WideMaps.keyOf_string_mk Tryz.underlying9 (P := Tryz.prog) (k := 9) (s := key) (by have := keyB_size ka.1; unfold maxLen; omega)
      go_wp2_with (first
        | (at_mapUpdate; refine wpList_mapUpdate_own _ rfl _ _ _ 131 rfl 9 3 lawS Tryz.underlying131 _ w.heap.size k D rfl hown1 (by unfold maxLen; omega) _ _ (kS key) rfl rfl hkey (dI (q - 20)) [] (plainElem_int Tryz.underlying3 hwf) ?_; intro w3 hown3 hg3))
      go_roundw
      case rel => exact ⟨k + 1, by omega, by go_num, prel2_put hF HST.out ka.1 (by omega) (by omega) hown3 ((E.trans E1).grown hg3 (fun j hj => by injection hj with hj; omega))⟩
      case measure => simp [intOf]; omega
    · go_wp2_with fail
      refine (rlist_any w.heap.size k D (pF l k) _ hown hF (by omega)).mono ?_
      rintro e w2 ⟨v', P, rfl, r1, r2, r3, r4, r5, E2⟩
      go_wp2
      go_ret
      exact ⟨_, P, rfl, pf_store (pF_ok l k) r1 r2 r3, by omega, fun x => by rw [r3 x, show k = min l.length 30 by have := hNN.out; omega], own_base r5 E.size', E.trans E2⟩
end Go.Proofs.YtijcckhkofkenaaGreat
