/- Contracts and lemmas for the proof of ShardSays; each theorem states its own conditions. -/
import Derived.Test.YtghemmmkbpfdhaaDoorQShardSaysas
import Derived.Test.YtghemmmkbpfdhaaDoorQShardSaysbc
set_option linter.unusedVariables false
set_option linter.unusedSimpArgs false
/- Contracts and lemmas for the proofs of this seat; each theorem states its own conditions. -/
namespace Go.Proofs.YtghemmmkbpfdhaaDoor
open Go.RowKit
/-! shard.Cut, shard.Give at whatever is handed in -/
def cutAtI (C : List ByteArray) (key : ByteArray) : Nat := idx (bltAt C key) C.length
def cutE (C : List ByteArray) (O : List Int) (key : ByteArray) : Int :=
  if mapErr C O ≠ 0 then mapErr C O else if keyB key = false then 3 else if hitS C key (cutAtI C key) = true then 5 else if C.length = 12 then 2 else 0
def cutMC (C : List ByteArray) (O : List Int) (key : ByteArray) : List ByteArray := if cutE C O key = 0 then cutC C key (cutAtI C key) else []
def cutMO (C : List ByteArray) (O : List Int) (key : ByteArray) : List Int := if cutE C O key = 0 then cutO O (cutAtI C key) else []
set_option maxRecDepth 100000 in
set_option maxHeartbeats 1000000 in
theorem cut_bad (v : Value) (C : List ByteArray) (O : List Int) (key : ByteArray) (w : World) (hv : IsMap w v C O) (hk : ∀ k ∈ C, k.size ≤ 9223372036854775807) (he : mapErr C O ≠ 0) :
    Calls Tryd.prog 29 #[v, .string key] w fun e w' => e = .returned (.tuple #[nilMap, .int .i64 (mapErr C O)]) ∧ Ext w w' := by
  have hv0 := hv
  obtain ⟨a1, k1, a2, k2, rfl, h1, h2⟩ := hv.unpack
  have hb0 := heap_1 w (.cells #[.slice a1 C.length k1, .slice a2 O.length k2] 28) (.cells #[.slice none 0 0, .slice none 0 0] 28)
  have hb1 := heap_2 w (.cells #[.slice a1 C.length k1, .slice a2 O.length k2] 28) (.cells #[.slice none 0 0, .slice none 0 0] 28)
  have q : (mapErr C O != 0) = true := by simp [he]
  have MC := hid (fun w' (E : Ext w w') => mcheck_any _ C O w' (hv0.ext E) hk)
  clear he h1 h2 hv hv0
  generalize mapErr C O = er at q MC ⊢
  go_enter Tryd.func29, Tryd.ntmps29
  go_wp2_with fail
  refine (MC.out _ (by (repeat (first | (with_reducible assumption) | (with_reducible exact Ext.refl _) | (with_reducible refine Ext.drew ?_) | (with_reducible refine Ext.drewN ?_ _) | (with_reducible refine Ext.alloc ?_ _) | (with_reducible refine Ext.trans ?_ (by with_reducible assumption)))))).mono ?_
  rintro e w1 ⟨rfl, he1⟩
  have hr' := he1.heap hb1
  have hb := blk2 (he1.heap hb0)
  have hr := blk2 hr'
  have hE : Ext w w1 := by (repeat (first | (with_reducible assumption) | (with_reducible exact Ext.refl _) | (with_reducible refine Ext.drew ?_) | (with_reducible refine Ext.drewN ?_ _) | (with_reducible refine Ext.alloc ?_ _) | (with_reducible refine Ext.trans ?_ (by with_reducible assumption))))
  have rB := blk2 (blk2_set2 (u := .slice none 0 0) (v := .slice none 0 0) hr')
  have FF := hid ((hE.setCell (p := ⟨w.heap.size + 1, 0, none⟩) (by simp) (.slice none 0 0)).setCell (p := ⟨w.heap.size + 1, 1, none⟩) (by simp) (.slice none 0 0))
  clear he1 hE
  go_wp2
  exact bodyPost_ret (v := .tuple #[nilMap, .int .i64 er]) (by simp [results, Tryd.results29, go_sem, rB.1, rB.2.1, nilMap]) rfl ⟨rfl, FF.out⟩
theorem cut_all (v : Value) (C : List ByteArray) (O : List Int) (key : ByteArray) (w : World) (hv : IsMap w v C O) (hk : ∀ k ∈ C, k.size ≤ 9223372036854775807) (hks : key.size ≤ 9223372036854775807) :
    Calls Tryd.prog 29 #[v, .string key] w fun e w' => ∃ v', e = .returned (.tuple #[v', .int .i64 (cutE C O key)]) ∧ IsMap w' v' (cutMC C O key) (cutMO C O key) ∧ Ext w w' := by
  by_cases h : mapErr C O = 0
  · refine (cut_any v C O key w hv hk (mapOk_of h) hks).mono fun e w' ⟨⟨j, r⟩, hE⟩ => ?_
    have hE0 : cutE C O key = if keyB key = false then 3 else if hitS C key (cutAtI C key) = true then 5 else if C.length = 12 then 2 else 0 := by unfold cutE; rw [if_neg (by simp [h])]
    have nil : ∀ er : Int, er ≠ 0 → cutE C O key = er → e = .returned (.tuple #[nilMap, .int .i64 er]) → ∃ v', e = .returned (.tuple #[v', .int .i64 (cutE C O key)]) ∧ IsMap w' v' (cutMC C O key) (cutMO C O key) ∧ Ext w w' := by
      intro er h0 h1 h2
      refine ⟨nilMap, by rw [h1]; exact h2, ?_, hE⟩
      have e1 : cutMC C O key = [] := by unfold cutMC; rw [if_neg (by rw [h1]; exact h0)]
      have e2 : cutMO C O key = [] := by unfold cutMO; rw [if_neg (by rw [h1]; exact h0)]
      rw [e1, e2]; exact nilMap_is _
    rcases r with ⟨r1, r2⟩ | ⟨r0, hc, r⟩
    · exact nil 3 (by decide) (by rw [hE0, if_pos r2]) r1
    · have hi : cutAtI C key = j := idx_spec _ _ _ hc
      rw [hi, if_neg (by simp [r0])] at hE0
      rcases r with ⟨r1, r2⟩ | ⟨r1, r2, r3⟩ | ⟨r1, r2, v', r3, r4⟩
      · exact nil 5 (by decide) (by rw [hE0, if_pos r2]) r1
      · exact nil 2 (by decide) (by rw [hE0, if_neg (by simp [r2]), if_pos r3]) r1
      · have h0 : cutE C O key = 0 := by rw [hE0, if_neg (by simp [r1]), if_neg (by omega)]
        have e1 : cutMC C O key = cutC C key j := by unfold cutMC; rw [if_pos h0, hi]
        have e2 : cutMO C O key = cutO O j := by unfold cutMO; rw [if_pos h0, hi]
        exact ⟨v', by rw [h0]; exact r3, by rw [e1, e2]; exact r4.is, hE⟩
  · refine (cut_bad v C O key w hv hk h).mono ?_
    rintro e w' ⟨rfl, E⟩
    have h0 : cutE C O key = mapErr C O := by unfold cutE; rw [if_pos h]
    have e1 : cutMC C O key = [] := by unfold cutMC; rw [if_neg (by rw [h0]; exact h)]
    have e2 : cutMO C O key = [] := by unfold cutMO; rw [if_neg (by rw [h0]; exact h)]
    exact ⟨nilMap, by rw [h0], by rw [e1, e2]; exact nilMap_is _, E⟩
def giveMC (C : List ByteArray) (O : List Int) (i n : Int) : List ByteArray := if giveE C O i n = 0 then C else []
def giveMO (C : List ByteArray) (O : List Int) (i n : Int) : List Int := if giveE C O i n = 0 then O.set i.toNat n else []
theorem give_all (v : Value) (C : List ByteArray) (O : List Int) (i n : Int) (w : World) (hv : IsMap w v C O) (hk : ∀ k ∈ C, k.size ≤ 9223372036854775807) :
    Calls Tryd.prog 30 #[v, .int .i64 i, .int .i64 n] w fun e w' => ∃ v', e = .returned (.tuple #[v', .int .i64 (giveE C O i n)]) ∧ IsMap w' v' (giveMC C O i n) (giveMO C O i n) ∧ Ext w w' := by
  by_cases h : giveE C O i n = 0
  · have h1 : mapErr C O = 0 := by
      by_cases q : mapErr C O = 0
      · exact q
      · unfold giveE at h; rw [if_pos q] at h; exact h
    have h3 : ¬ (i < 0 ∨ (O.length : Int) ≤ i ∨ n < 0 ∨ 4 ≤ n) := by
      intro q
      unfold giveE at h; rw [if_neg (by simp [h1]), if_pos q] at h; cases h
    obtain ⟨j, rfl⟩ : ∃ j : Nat, i = j := ⟨i.toNat, by omega⟩
    refine (give_ok v C O j n w hv hk (mapOk_of h1) (by omega) (by omega) (by omega)).mono ?_
    rintro e w' ⟨v', rfl, hm, E⟩
    have e1 : giveMC C O j n = C := by unfold giveMC; rw [if_pos h]
    have e2 : giveMO C O j n = O.set j n := by unfold giveMO; rw [if_pos h]; rfl
    exact ⟨v', by rw [h], by rw [e1, e2]; exact hm.is, E⟩
  · refine (give_bad v C O i n w hv hk h).mono ?_
    rintro e w' ⟨⟨v', rfl, _, h2⟩, E⟩
    have e1 : giveMC C O i n = [] := by unfold giveMC; rw [if_neg h]
    have e2 : giveMO C O i n = [] := by unfold giveMO; rw [if_neg h]
    exact ⟨v', rfl, by rw [e1, e2, h2 h]; exact nilMap_is _, E⟩
end Go.Proofs.YtghemmmkbpfdhaaDoor
