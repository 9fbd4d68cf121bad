/- Contracts and lemmas for the proof of TextLines; each theorem states its own conditions. -/
import Derived.Test.YtnepdfpooobmcaaGreatDoorQTextLinesau
set_option linter.unusedVariables false
set_option linter.unusedSimpArgs false
/- Contracts and lemmas for the proofs of this seat; each theorem states its own conditions. -/
namespace Go.Proofs.YtnepdfpooobmcaaGreatDoor
open Go.RowKit
/-! text.readOp at any text; text.ReadDeed -/
theorem idx_list (s : ByteArray) {k : Nat} (hk : k < s.size) : s.data.toList[k]? = some (s[k]'hk) := Lib.data_getElem? s k hk
theorem treadop_any (s : ByteArray) (w : World) (L : LaidT w) (hs : s.size ≤ 4000000000) :
    Calls Tryz.prog 99 #[.string s] w fun e w' => ∃ (o : GOp) (ok : Bool), e = .returned (.tuple #[opV o, .bool ok]) ∧ (∀ p, rdOp s = some p → o = p ∧ ok = true) ∧ (rdOp s = none → ok = false) ∧ Ext w w' := by
  by_cases h : Lib.indexAny s.data.toList [61, 43, 60, 63] < 0
  · refine (treadop_neg s w hs h).mono ?_
    rintro e w' ⟨rfl, E⟩
    have hr : rdOp s = none := by unfold rdOp; rw [if_pos h]
    exact ⟨⟨0, ⟨#[]⟩, ⟨#[]⟩, 0⟩, false, rfl, (fun p hp => by rw [hr] at hp; cases hp), fun _ => rfl, E⟩
  · obtain ⟨k, c, h1, h2, h3⟩ := any_some h
    have hk : k < s.size := by
      rcases Nat.lt_or_ge k s.data.toList.length with q | q
      · rw [toL_len] at q; exact q
      · rw [List.getElem?_eq_none q] at h2; cases h2
    have hc : s[k]'hk = c := by rw [idx_list s hk] at h2; exact Option.some.inj h2
    have hg : s.data.toList.getD k 0 = c := by rw [List.getD_eq_getElem?_getD, h2]; rfl
    have hr : rdOp s = rdAt s k := by unfold rdOp; rw [if_neg h, h1, Int.toNat_natCast]
    rw [hr]
    unfold rdAt
    rw [hg]
    have fin : ∀ (kd : Int) (q : Option Int) (fr : ByteArray) (n : Int) (ok : Bool), (∀ v, q = some v → n = v ∧ ok = true) → (q = none → ok = false) →
        (∀ p, (q.map fun n => (⟨kd, s.extract 0 k, fr, n⟩ : GOp)) = some p → (⟨kd, s.extract 0 k, fr, n⟩ : GOp) = p ∧ ok = true) ∧ ((q.map fun n => (⟨kd, s.extract 0 k, fr, n⟩ : GOp)) = none → ok = false) := by
      intro kd q fr n ok a b
      cases q with
      | none => exact ⟨fun p hp => (by cases hp), fun _ => b rfl⟩
      | some v =>
        obtain ⟨rfl, rfl⟩ := a v rfl
        exact ⟨fun p hp => ⟨by simpa using hp, rfl⟩, fun hp => by cases hp⟩
    rcases h3 with rfl | rfl | rfl | rfl
    · rw [if_pos rfl]
      refine (treadop_1 s k w L hs hk h1 hc).mono ?_
      rintro e w' ⟨n, ok, rfl, a, b, E⟩
      obtain ⟨u, v⟩ := fin 1 _ ⟨#[]⟩ n ok a b
      exact ⟨⟨1, s.extract 0 k, ⟨#[]⟩, n⟩, ok, rfl, u, v, E⟩
    · rw [if_neg (by decide), if_pos rfl]
      refine (treadop_2 s k w L hs hk h1 hc).mono ?_
      rintro e w' ⟨n, ok, rfl, a, b, E⟩
      obtain ⟨u, v⟩ := fin 2 _ ⟨#[]⟩ n ok a b
      exact ⟨⟨2, s.extract 0 k, ⟨#[]⟩, n⟩, ok, rfl, u, v, E⟩
    · rw [if_neg (by decide), if_neg (by decide), if_neg (by decide)]
      cases hcut : (Lib.cut (s.extract (k + 1) s.size).data.toList [42]).2.2 with
      | true =>
        rw [if_pos rfl]
        refine (treadop_5 s k w L hs hk h1 hc hcut).mono ?_
        rintro e w' ⟨n, ok, rfl, a, b, E⟩
        obtain ⟨u, v⟩ := fin 5 _ (bA (Lib.cut (s.extract (k + 1) s.size).data.toList [42]).1) n ok a b
        exact ⟨⟨5, s.extract 0 k, _, n⟩, ok, rfl, u, v, E⟩
      | false =>
        rw [if_neg (by decide)]
        refine (treadop_3 s k w L hs hk h1 hc hcut).mono ?_
        rintro e w' ⟨rfl, E⟩
        exact ⟨⟨3, s.extract 0 k, s.extract (k + 1) s.size, 0⟩, true, rfl, (fun p hp => ⟨Option.some.inj hp, rfl⟩), (fun hp => by cases hp), E⟩
    · rw [if_neg (by decide), if_neg (by decide), if_pos rfl]
      refine (treadop_4 s k w L hs hk h1 hc).mono ?_
      rintro e w' ⟨n, ok, rfl, a, b, E⟩
      obtain ⟨u, v⟩ := fin 4 _ ⟨#[]⟩ n ok a b
      exact ⟨⟨4, s.extract 0 k, ⟨#[]⟩, n⟩, ok, rfl, u, v, E⟩
theorem cut_fst (x : List UInt8) (h : (Lib.cut x [42]).2.2 = true) : (Lib.cut x [42]).1.length ≤ x.length := by
  have hb := cut_back (x := x) (a := (Lib.cut x [42]).1) (b := (Lib.cut x [42]).2.1) (Prod.ext rfl (Prod.ext rfl h))
  have := congrArg List.length hb
  simp only [List.length_append, List.length_cons] at this
  omega
theorem rdOp_size {s : ByteArray} {o : GOp} (h : rdOp s = some o) : o.key.size ≤ s.size ∧ o.from_.size ≤ s.size := by
  unfold rdOp at h
  split at h
  · cases h
  · generalize (Lib.indexAny s.data.toList [61, 43, 60, 63]).toNat = k at h
    have h0 : (s.extract 0 k).size ≤ s.size := by simp; omega
    have h1 : (s.extract (k + 1) s.size).size ≤ s.size := by simp
    have hz : (⟨#[]⟩ : ByteArray).size ≤ s.size := Nat.zero_le _
    have fin : ∀ {q : Option Int} {kd : Int} {fr : ByteArray}, fr.size ≤ s.size → (q.map fun n => (⟨kd, s.extract 0 k, fr, n⟩ : GOp)) = some o → o.key.size ≤ s.size ∧ o.from_.size ≤ s.size := by
      intro q kd fr hf hq
      cases q with
      | none => cases hq
      | some v => simp at hq; subst hq; exact ⟨h0, hf⟩
    unfold rdAt at h
    split at h
    · exact fin hz h
    · split at h
      · exact fin hz h
      · split at h
        · exact fin hz h
        · split at h
          · rename_i hc
            refine fin ?_ h
            rw [bA_size]
            have := cut_fst _ hc
            rw [toL_len] at this
            omega
          · simp at h; subst h; exact ⟨h0, h1⟩
end Go.Proofs.YtnepdfpooobmcaaGreatDoor
