/- Contracts and lemmas for the proof of ShardTells; each theorem states its own conditions. -/
import Derived.Test.YtghemmmkbpfdhaaDoorQShardTellsbh
import Derived.Test.YtghemmmkbpfdhaaDoorQShardTellsbn
import Derived.Test.YtghemmmkbpfdhaaDoorQShardTellsai
import Derived.Test.YtghemmmkbpfdhaaDoorQShardTellsbv
import Derived.Test.YtghemmmkbpfdhaaDoorQShardTellsbk
import Derived.Test.YtghemmmkbpfdhaaDoorQShardTellsax
set_option linter.unusedVariables false
set_option linter.unusedSimpArgs false
/- Contracts and lemmas for the proofs of this seat; each theorem states its own conditions. -/
namespace Go.Proofs.YtghemmmkbpfdhaaDoor
open Go.RowKit Go.Maps
/-! StoreJoins: whatever is handed in -/
theorem take_ok {b : Prs} (h : StoreOk b) (k : Nat) : StoreOk (b.take k) :=
  ⟨fun p hp => h.key p (List.mem_of_mem_take hp), fun p hp => h.val p (List.mem_of_mem_take hp), List.Pairwise.sublist (List.take_sublist k b) h.srt⟩
theorem take_no {b : Prs} (h : StoreOk b) {k : Nat} (hk : k < b.length) : valP (b.take k) b[k].1 = 0 := by
  refine valP_none fun p hp e => ?_
  obtain ⟨i, hi, rfl⟩ := List.mem_iff_getElem.1 hp
  rw [List.length_take] at hi
  rw [List.getElem_take] at e
  have := List.pairwise_iff_getElem.1 h.srt i k (by omega) hk (by omega)
  rw [e, blt_irrefl] at this; cases this
theorem join_at {a b : Prs} (ha : StoreOk a) (hb : StoreOk b) {k : Nat} (hk : k < b.length) : valP (joinP a (b.take k)) b[k].1 = valP a b[k].1 := by
  rw [val_join ha.srt (take_ok hb k).srt (take_ok hb k).nz, take_no hb hk]; simp
/-- whose store may not be -/
def wantE (a b : Prs) : Int := if storeErr a ≠ 0 then storeErr a else storeErr b
/-- what is wanted, and what the map holds, once k pairs have come -/
def WantI (a b : Prs) (k : Nat) (f : ByteArray → Option Int) (e : Int) : Prop :=
  (wantE a b ≠ 0 ∧ e = wantE a b) ∨ (wantE a b = 0 ∧ ((e = 0 ∧ apartTo a b k ∧ ∀ x, (f x).getD 0 = valP (joinP a (b.take k)) x) ∨ (e = 5 ∧ apartB a b = false)))
theorem wantE_zero {a b : Prs} (h : wantE a b = 0) : StoreOk a ∧ StoreOk b := by
  unfold wantE at h
  by_cases ha : storeErr a = 0
  · rw [if_neg (by simp [ha])] at h; exact ⟨store_ok ha, store_ok h⟩
  · rw [if_pos ha] at h; exact absurd h ha
theorem want_end {a b : Prs} {f : ByteArray → Option Int} {e : Int} (h : WantI a b b.length f e) : e = joinE a b ∧ (e = 0 → StoreOk a ∧ StoreOk b ∧ ∀ x, (f x).getD 0 = valP (joinP a b) x) := by
  rcases h with ⟨h1, h2⟩ | ⟨h1, h2⟩
  · refine ⟨?_, fun he => absurd (he ▸ h2.symm) h1⟩
    rw [h2]
    unfold wantE joinE at *
    by_cases ha : storeErr a = 0
    · rw [if_neg (by simp [ha])] at h1 ⊢
      rw [if_neg (by simp [ha]), if_pos h1]
    · rw [if_pos ha, if_pos ha]
  · obtain ⟨oa, ob⟩ := wantE_zero h1
    have e1 : joinE a b = if apartB a b then 0 else 5 := by
      unfold joinE
      rw [if_neg (by simp [storeErr_ok oa]), if_neg (by simp [storeErr_ok ob])]
    rcases h2 with ⟨rfl, h3, h4⟩ | ⟨rfl, h3⟩
    · rw [List.take_length] at h4
      exact ⟨by rw [e1, apartTo_all h3 rfl]; rfl, fun _ => ⟨oa, ob, h4⟩⟩
    · exact ⟨by rw [e1, h3]; rfl, fun h => absurd h (by omega)⟩
theorem of_val {a : Prs} (ha : StoreOk a) : ∀ k, k ≤ a.length → ∀ x, (ofF a k x).getD 0 = valP (a.take k) x
  | 0, _, x => by simp [ofF, valP]
  | k + 1, h, x => by
    have ih := of_val ha k (by omega) x
    rw [ofF_step a (show k < a.length by omega)]
    have ht : a.take (k + 1) = a.take k ++ [a[k]'(by omega)] := List.take_succ_eq_append_getElem (by omega)
    dsimp only
    by_cases e : x = (a[k]'(by omega)).1
    · rw [if_pos e]
      have hm : a[k]'(by omega) ∈ a.take (k + 1) := by rw [ht]; exact List.mem_append_right _ (List.mem_singleton.2 rfl)
      rw [e, valP_mem (take_ok ha (k + 1)).srt hm]; rfl
    · rw [if_neg e, ih]
      by_cases hz : valP (a.take k) x = 0
      · rw [hz]
        refine (valP_none fun p hp ep => ?_).symm
        rw [ht] at hp
        rcases List.mem_append.1 hp with hp | hp
        · rw [← ep, valP_mem (take_ok ha k).srt hp] at hz
          exact (ha.val p (List.mem_of_mem_take hp)).1 hz
        · simp at hp; subst hp; exact e ep.symm
      · by_cases hex : ∃ p ∈ a.take k, p.1 = x
        · obtain ⟨p, hp, rfl⟩ := hex
          have hp2 : p ∈ a.take (k + 1) := by rw [ht]; exact List.mem_append_left _ hp
          rw [valP_mem (take_ok ha k).srt hp, valP_mem (take_ok ha (k + 1)).srt hp2]
        · exact absurd (valP_none fun p hp ep => hex ⟨p, hp, ep⟩) hz
theorem want_start (a b : Prs) : WantI a b 0 (ofF a a.length) (wantE a b) := by
  by_cases h : wantE a b = 0
  · obtain ⟨oa, ob⟩ := wantE_zero h
    refine .inr ⟨h, .inl ⟨h, apartTo_zero a b, fun x => ?_⟩⟩
    rw [of_val oa a.length (Nat.le_refl _) x, List.take_length, List.take_zero, join_nil]
  · exact .inl ⟨h, rfl⟩
/-- one pair more -/
theorem want_idle {a b : Prs} {k : Nat} {f : ByteArray → Option Int} {e : Int} (h : WantI a b k f e) (he : e ≠ 0) : WantI a b (k + 1) f e := by
  rcases h with h | ⟨h1, ⟨h2, _⟩ | h2⟩
  · exact .inl h
  · exact absurd h2 he
  · exact .inr ⟨h1, .inr h2⟩
theorem want_hit {a b : Prs} {k : Nat} {f : ByteArray → Option Int} (h : WantI a b k f 0) (hk : k < b.length) (hv : (f b[k].1).getD 0 ≠ 0) : WantI a b (k + 1) f 5 := by
  rcases h with ⟨h1, h2⟩ | ⟨h1, ⟨_, h3, h4⟩ | ⟨h2, _⟩⟩
  · exact absurd h2.symm h1
  · obtain ⟨oa, ob⟩ := wantE_zero h1
    refine .inr ⟨h1, .inr ⟨rfl, apart_hit hk ?_⟩⟩
    rw [h4, join_at oa ob hk] at hv; exact hv
  · omega
theorem want_put {a b : Prs} {k : Nat} {f : ByteArray → Option Int} (h : WantI a b k f 0) (hk : k < b.length) (hv : (f b[k].1).getD 0 = 0) : WantI a b (k + 1) (fun x => if x = b[k].1 then some b[k].2 else f x) 0 := by
  rcases h with ⟨h1, h2⟩ | ⟨h1, ⟨_, h3, h4⟩ | ⟨h2, _⟩⟩
  · exact absurd h2.symm h1
  · obtain ⟨oa, ob⟩ := wantE_zero h1
    rw [h4, join_at oa ob hk] at hv
    refine .inr ⟨h1, .inl ⟨rfl, apartTo_succ h3 hk hv, fun x => ?_⟩⟩
    rw [join_step hk, val_with (join_okS oa (take_ok ob k)).srt]
    dsimp only
    by_cases e : x = b[k].1
    · rw [if_pos e, if_pos e.symm]; rfl
    · rw [if_neg e, if_neg (fun q => e q.symm), h4]
  · omega
def jl1 : Prs := [((⟨#[98]⟩ : ByteArray), (1 : Int))]
def jl2 : Prs := [((⟨#[97]⟩ : ByteArray), (2 : Int))]
theorem jl_lit : storeErr jl1 = 0 ∧ storeErr jl2 = 0 ∧ apartB jl1 jl2 = true ∧ joinP jl1 jl2 = [((⟨#[97]⟩ : ByteArray), (2 : Int)), ((⟨#[98]⟩ : ByteArray), (1 : Int))] := by decide +kernel
end Go.Proofs.YtghemmmkbpfdhaaDoor

/- Contracts and lemmas for the proofs of this seat; each theorem states its own conditions. -/
namespace Go.Proofs.YtghemmmkbpfdhaaDoor
open Go.RowKit Go.Maps
/-! the document's Serial -/
/-- whether each may be done -/
def serO (v : Vls) : List Ops → List Bool
  | [] => []
  | d :: ds => okV v d :: serO (stepV v d) ds
theorem serV_app (v : Vls) (a b : List Ops) : serV v (a ++ b) = serV (serV v a) b ∧ serO v (a ++ b) = serO v a ++ serO (serV v a) b := by
  induction a generalizing v with
  | nil => exact ⟨rfl, rfl⟩
  | cons d a ih => simp only [List.cons_append, serV, serO, (ih _).1, (ih _).2]; simp
theorem serV_take {v : Vls} {D : List Ops} {k : Nat} (hk : k < D.length) : serV v (D.take (k + 1)) = stepV (serV v (D.take k)) D[k] ∧ serO v (D.take (k + 1)) = serO v (D.take k) ++ [okV (serV v (D.take k)) D[k]] := by
  rw [List.take_succ_eq_append_getElem hk]
  obtain ⟨a, b⟩ := serV_app v (D.take k) [D[k]]
  exact ⟨by rw [a]; rfl, by rw [b]; rfl⟩
theorem serO_len (v : Vls) (D : List Ops) : (serO v D).length = D.length := by
  induction D generalizing v with
  | nil => rfl
  | cons d D ih => simp [serO, ih]
/-- the same of stores -/
theorem serv_val {D : List Ops} (hd : ∀ d ∈ D, DeedOk d) : ∀ {l : Prs}, StoreOk l → valP (serS l D) = serV (valP l) D ∧ serB l D = serO (valP l) D := by
  induction D with
  | nil => intro l h; exact ⟨rfl, rfl⟩
  | cons d D ih =>
    intro l h
    obtain ⟨a, b, c⟩ := run_val h (hd d (by simp)).ops
    obtain ⟨e, g⟩ := ih (fun q hq => hd q (by simp [hq])) a
    exact ⟨by rw [serS, serV, e, b], by rw [serB, serO, g, b, c]⟩
/-- a map's block is no row's -/
theorem map_row_ne {P : Program} {k : TypeId} {R : Value → Option (DU × List MemPlace)} {w : World} {b n : Nat} {D : DU} (h : w.ownsMap P k R b n D) {B e sz n' : Nat} {v : Value} {xs : List Value} (h' : w.ownsRow B e sz v n' xs) : some b ≠ v.ownBlock := by
  obtain ⟨es, clock, hb, _⟩ := h
  rcases h'.2 with ⟨rfl, _⟩ | ⟨g, cap, cur, rfl, _, hg, _⟩
  · simp [Value.ownBlock]
  · intro q
    simp [Value.ownBlock] at q
    subst q
    rw [hb] at hg
    cases hg
end Go.Proofs.YtghemmmkbpfdhaaDoor

/- Contracts and lemmas for the proofs of this seat; each theorem states its own conditions. -/
namespace Go.Proofs.YtghemmmkbpfdhaaDoor
open Go.RowKit
/-! deed.Run, deed.Serial at whatever is handed in -/
def serE (l : Prs) (D : List Ops) : Int := if storeErr l ≠ 0 then storeErr l else deedsE D
end Go.Proofs.YtghemmmkbpfdhaaDoor

/- Contracts and lemmas for the proofs of this seat; each theorem states its own conditions. -/
namespace Go.Proofs.YtghemmmkbpfdhaaDoor
open Go.RowKit Go.Maps
/-! DeedRuns: whatever is handed in -/
def opA : GOp := ⟨1, ⟨#[97]⟩, ⟨#[]⟩, 5⟩
theorem opA_ok : DeedOk [opA] := deed_ok (by decide +kernel)
theorem runA : runS [] [opA] = [(⟨#[97]⟩, 5)] ∧ runB [] [opA] = true := by decide +kernel
theorem okNil : StoreOk [] := store_ok (by decide +kernel)
theorem of_FV {l : Prs} (h : StoreOk l) : FV (ofF l l.length) := fun x c hc => by
  have e := of_val h l.length (Nat.le_refl _) x
  rw [hc, List.take_length] at e
  have e' : c = valP l x := e
  rw [e']
  exact valB_iff.2 (val_bd h x)
theorem of_atF {l : Prs} (h : StoreOk l) : atF (ofF l l.length) = valP l := funext fun x => by
  have e := of_val h l.length (Nat.le_refl _) x
  rw [List.take_length] at e
  exact e
end Go.Proofs.YtghemmmkbpfdhaaDoor
