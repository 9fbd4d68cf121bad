/- Contracts and lemmas for the proof of ShardSays; each theorem states its own conditions. -/
import Derived.Test.YtghemmmkbpfdhaaDoorQShardSaysan
import Derived.Test.YtghemmmkbpfdhaaDoorQShardSaysbb
set_option linter.unusedVariables false
set_option linter.unusedSimpArgs false
/- Contracts and lemmas for the proofs of this seat; each theorem states its own conditions. -/
namespace Go.Proofs.YtghemmmkbpfdhaaDoor
open Go.RowKit
/-! shard.Plain, Same, Part at whatever is handed in -/
theorem nilMap_is (w : World) : IsMap w nilMap [] [] := ⟨_, _, rfl, Seg.nil _ _, Seg.nil _ _⟩
theorem mapOk_of {C : List ByteArray} {O : List Int} (h : mapErr C O = 0) : MapOk C O := ok_of_mapErr h
set_option maxRecDepth 10000 in
theorem plain_bad (v : Value) (C : List ByteArray) (O : List Int) (w : World) (hv : IsMap w v C O) (hk : ∀ k ∈ C, k.size ≤ 9223372036854775807) (he : mapErr C O ≠ 0) :
    Calls Tryd.prog 39 #[v] w fun e w' => e = .returned (.tuple #[nilMap, .int .i64 (mapErr C O)]) ∧ Ext w w' := by
  have hv0 := hv
  obtain ⟨a1, k1, a2, k2, rfl, h1, h2⟩ := hv.unpack
  have hb0 := heap_1 w (.cells #[.slice a1 C.length k1, .slice a2 O.length k2] 28) (.cells #[.slice none 0 0, .slice none 0 0] 28)
  have hb1 := heap_2 w (.cells #[.slice a1 C.length k1, .slice a2 O.length k2] 28) (.cells #[.slice none 0 0, .slice none 0 0] 28)
  have q : (mapErr C O != 0) = true := by simp [he]
  have MC := hid (fun w' (E : Ext w w') => mcheck_any _ C O w' (hv0.ext E) hk)
  clear he h1 h2 hv hv0
  generalize mapErr C O = er at q MC ⊢
  go_enter Tryd.func39, Tryd.ntmps39
  go_wp2_with fail
  refine (MC.out _ (by (repeat (first | (with_reducible assumption) | (with_reducible exact Ext.refl _) | (with_reducible refine Ext.drew ?_) | (with_reducible refine Ext.drewN ?_ _) | (with_reducible refine Ext.alloc ?_ _) | (with_reducible refine Ext.trans ?_ (by with_reducible assumption)))))).mono ?_
  rintro e w1 ⟨rfl, he1⟩
  have hr' := he1.heap hb1
  have hb := blk2 (he1.heap hb0)
  have hr := blk2 hr'
  have hE : Ext w w1 := by (repeat (first | (with_reducible assumption) | (with_reducible exact Ext.refl _) | (with_reducible refine Ext.drew ?_) | (with_reducible refine Ext.drewN ?_ _) | (with_reducible refine Ext.alloc ?_ _) | (with_reducible refine Ext.trans ?_ (by with_reducible assumption))))
  have rB := blk2 (blk2_set2 (u := .slice none 0 0) (v := .slice none 0 0) hr')
  have FF := hid ((hE.setCell (p := ⟨w.heap.size + 1, 0, none⟩) (by simp) (.slice none 0 0)).setCell (p := ⟨w.heap.size + 1, 1, none⟩) (by simp) (.slice none 0 0))
  clear he1 hE
  go_wp2
  exact bodyPost_ret (v := .tuple #[nilMap, .int .i64 er]) (by simp [results, Tryd.results39, go_sem, rB.1, rB.2.1, nilMap]) rfl ⟨rfl, FF.out⟩
theorem plain_all (v : Value) (C : List ByteArray) (O : List Int) (w : World) (hv : IsMap w v C O) (hk : ∀ k ∈ C, k.size ≤ 9223372036854775807) :
    Calls Tryd.prog 39 #[v] w fun e w' => ∃ v' C' O', e = .returned (.tuple #[v', .int .i64 (mapErr C O)]) ∧ IsMap w' v' C' O' ∧ (mapErr C O = 0 → C' = (pl C O C.length).1 ∧ O' = (pl C O C.length).2) ∧ (mapErr C O ≠ 0 → C' = [] ∧ O' = []) ∧ Ext w w' := by
  by_cases h : mapErr C O = 0
  · refine (plain_ok v C O w hv hk (mapOk_of h)).mono ?_
    rintro e w' ⟨v', rfl, hm, E⟩
    exact ⟨v', _, _, by rw [h], hm.is, fun _ => ⟨rfl, rfl⟩, fun q => absurd h q, E⟩
  · refine (plain_bad v C O w hv hk h).mono ?_
    rintro e w' ⟨rfl, E⟩
    exact ⟨_, [], [], rfl, nilMap_is _, fun q => absurd q h, fun _ => ⟨rfl, rfl⟩, E⟩
def sameE (C C2 : List ByteArray) (O O2 : List Int) : Int := if mapErr C O ≠ 0 then mapErr C O else mapErr C2 O2
def sameV (C C2 : List ByteArray) (O O2 : List Int) : Bool := if sameE C C2 O O2 = 0 then sameB (pl C O C.length).1 (pl C2 O2 C2.length).1 (pl C O C.length).2 (pl C2 O2 C2.length).2 else false
set_option maxRecDepth 100000 in
set_option maxHeartbeats 2000000 in
theorem same_bad (v u : Value) (C C2 : List ByteArray) (O O2 : List Int) (w : World) (hv : IsMap w v C O) (hu : IsMap w u C2 O2) (hk : ∀ k ∈ C, k.size ≤ 9223372036854775807) (hk2 : ∀ k ∈ C2, k.size ≤ 9223372036854775807) (he : sameE C C2 O O2 ≠ 0) :
    Calls Tryd.prog 40 #[v, u] w fun e w' => e = .returned (.tuple #[.bool false, .int .i64 (sameE C C2 O O2)]) ∧ Ext w w' := by
  obtain ⟨a1, k1, a2, k2, rfl, h1, h2⟩ := hv.unpack
  obtain ⟨a3, k3, a4, k4, rfl, h3, h4⟩ := hu.unpack
  have hb0 := heap_1 w (.cells #[.slice a1 C.length k1, .slice a2 O.length k2] 28) (.cells #[.slice a3 C2.length k3, .slice a4 O2.length k4] 28)
  have hb1 := heap_2 w (.cells #[.slice a1 C.length k1, .slice a2 O.length k2] 28) (.cells #[.slice a3 C2.length k3, .slice a4 O2.length k4] 28)
  have E0 := ((Ext.refl w).alloc (.cells #[.slice a1 C.length k1, .slice a2 O.length k2] 28)).alloc (.cells #[.slice a3 C2.length k3, .slice a4 O2.length k4] 28)
  obtain ⟨w0, hw0⟩ : ∃ w0, (w.alloc (.cells #[.slice a1 C.length k1, .slice a2 O.length k2] 28)).alloc (.cells #[.slice a3 C2.length k3, .slice a4 O2.length k4] 28) = w0 := ⟨_, rfl⟩
  rw [hw0] at hb0 hb1 E0
  have x0 := blk2 hb0
  have x1 := blk2 hb1
  have PA := hid (plain_all _ C O w0 (hv.ext E0) hk)
  have PB := hid (fun w' (q : Ext w0 w') => plain_all _ C2 O2 w' (hu.ext (E0.trans q)) hk2)
  have HSE := hid (show sameE C C2 O O2 = if mapErr C O ≠ 0 then mapErr C O else mapErr C2 O2 from rfl)
  clear h1 h2 h3 h4 hv hu
  by_cases g : mapErr C O = 0
  · have e1 : sameE C C2 O O2 = mapErr C2 O2 := by rw [HSE.out, if_neg (by simp [g])]
    rw [e1] at he ⊢
    have q : (mapErr C2 O2 != 0) = true := by simp [he]
    rw [g] at PA
    clear e1 he g HSE
    go_enter Tryd.func40, Tryd.ntmps40
    go_wp2_with fail
    refine (PA.out).mono ?_
    rintro e w1 ⟨v', C', O', rfl, hm, hq1, hq2, E1⟩
    clear hq1 hq2
    obtain ⟨a5, k5, a6, k6, rfl, _, _⟩ := hm.unpack
    have E2 := (Ext.refl w1).alloc (.cells #[.slice a5 C'.length k5, .slice a6 O'.length k6] 28)
    have x2 := blk2 ((E1.trans E2).heap hb1)
    have PB1 := hid (PB.out _ (E1.trans E2))
    have EE := hid (E0.trans (E1.trans E2))
    clear PA PB hm E1 E2 x0 x1 hw0
    go_wp2_with fail
    refine (PB1.out).mono ?_
    rintro e w3 ⟨v'', C'', O'', rfl, hm, hq1, hq2, E3⟩
    clear hq1 hq2
    obtain ⟨a7, k7, a8, k8, rfl, _, _⟩ := hm.unpack
    have EF := hid ((EE.out.trans E3).alloc (.cells #[.slice a7 C''.length k7, .slice a8 O''.length k8] 28))
    clear PB1 hm E3 EE
    go_wp2
    go_ret2
    exact ⟨rfl, EF.out⟩
  · have e1 : sameE C C2 O O2 = mapErr C O := by rw [HSE.out, if_pos g]
    rw [e1] at he ⊢
    have q : (mapErr C O != 0) = true := by simp [he]
    clear e1 he g HSE PB
    generalize mapErr C O = er at PA q ⊢
    go_enter Tryd.func40, Tryd.ntmps40
    go_wp2_with fail
    refine (PA.out).mono ?_
    rintro e w1 ⟨v', C', O', rfl, hm, hq1, hq2, E1⟩
    clear hq1 hq2
    obtain ⟨a5, k5, a6, k6, rfl, _, _⟩ := hm.unpack
    have EF := hid ((E0.trans E1).alloc (.cells #[.slice a5 C'.length k5, .slice a6 O'.length k6] 28))
    clear PA hm E1 hw0
    go_wp2
    go_ret2
    exact ⟨rfl, EF.out⟩
theorem same_all (v u : Value) (C C2 : List ByteArray) (O O2 : List Int) (w : World) (hv : IsMap w v C O) (hu : IsMap w u C2 O2) (hk : ∀ k ∈ C, k.size ≤ 9223372036854775807) (hk2 : ∀ k ∈ C2, k.size ≤ 9223372036854775807) :
    Calls Tryd.prog 40 #[v, u] w fun e w' => e = .returned (.tuple #[.bool (sameV C C2 O O2), .int .i64 (sameE C C2 O O2)]) ∧ Ext w w' := by
  by_cases h : sameE C C2 O O2 = 0
  · have h1 : mapErr C O = 0 := by
      by_cases q : mapErr C O = 0
      · exact q
      · unfold sameE at h; rw [if_pos q] at h; exact h
    have h2 : mapErr C2 O2 = 0 := by unfold sameE at h; rw [if_neg (by simp [h1])] at h; exact h
    refine (same_ok v u C C2 O O2 w hv hu hk hk2 (mapOk_of h1) (mapOk_of h2)).mono ?_
    rintro e w' ⟨rfl, E⟩
    exact ⟨by unfold sameV; rw [if_pos h, h], E⟩
  · refine (same_bad v u C C2 O O2 w hv hu hk hk2 h).mono ?_
    rintro e w' ⟨rfl, E⟩
    exact ⟨by unfold sameV; rw [if_neg h], E⟩
def partE (C : List ByteArray) (O : List Int) (l : Prs) (n : Int) : Int := if mapErr C O ≠ 0 then mapErr C O else if storeErr l ≠ 0 then storeErr l else if n < 0 ∨ 4 ≤ n then 1 else 0
set_option maxRecDepth 10000 in
set_option maxHeartbeats 1000000 in
theorem part_bad (vm vl : Value) (C : List ByteArray) (O : List Int) (l : Prs) (n : Int) (w : World) (hm : IsMap w vm C O) (hk : ∀ k ∈ C, k.size ≤ 9223372036854775807) (hv : Seg w vl 2 l.length (cP l)) (sk : ∀ p ∈ l, p.1.size ≤ 9223372036854775807) (he : partE C O l n ≠ 0) :
    Calls Tryd.prog 41 #[vm, vl, .int .i64 n] w fun e w' => e = .returned (.tuple #[.slice none 0 0, .int .i64 (partE C O l n)]) ∧ Ext w w' := by
  obtain ⟨a1, k1, a2, k2, rfl, m1, m2⟩ := hm.unpack
  have b1 := heap_1 w (.cells #[.slice a1 C.length k1, .slice a2 O.length k2] 28) (.cells #[.int .i64 n] 3)
  have b2 := heap_2 w (.cells #[.slice a1 C.length k1, .slice a2 O.length k2] 28) (.cells #[.int .i64 n] 3)
  have E0 := ((Ext.refl w).alloc (.cells #[.slice a1 C.length k1, .slice a2 O.length k2] 28)).alloc (.cells #[.int .i64 n] 3)
  obtain ⟨w0, hw0⟩ : ∃ w0, (w.alloc (.cells #[.slice a1 C.length k1, .slice a2 O.length k2] 28)).alloc (.cells #[.int .i64 n] 3) = w0 := ⟨_, rfl⟩
  rw [hw0] at b1 b2 E0
  have x1 := blk2 b1
  have x2 := cell_of_one b2
  obtain ⟨al, cl, rfl⟩ := seg_form hv
  have MC := hid (mcheck_any _ C O w0 (hm.ext E0) hk)
  have SC := hid (fun w' (q : Ext w0 w') => scheck_any _ l w' (hv.ext (E0.trans q)) sk)
  have HPE := hid (show partE C O l n = if mapErr C O ≠ 0 then mapErr C O else if storeErr l ≠ 0 then storeErr l else if n < 0 ∨ 4 ≤ n then 1 else 0 from rfl)
  clear m1 m2 hm hv
  by_cases g1 : mapErr C O = 0
  · rw [g1] at MC
    by_cases g2 : storeErr l = 0
    · have hbad : n < 0 ∨ 4 ≤ n := by
        by_cases q : n < 0 ∨ 4 ≤ n
        · exact q
        · rw [HPE.out, if_neg (by simp [g1]), if_neg (by simp [g2]), if_neg q] at he; exact absurd rfl he
      have e1 : partE C O l n = 1 := by rw [HPE.out, if_neg (by simp [g1]), if_neg (by simp [g2]), if_pos hbad]
      rw [e1]
      rw [g2] at SC
      clear e1 he HPE g1 g2
      by_cases hn : n < 0
      · clear hbad
        go_enter Tryd.func41, Tryd.ntmps41
        go_wp2_with fail
        refine (MC.out).mono ?_
        rintro e w1 ⟨rfl, E1⟩
        have SC1 := hid (SC.out w1 E1)
        clear MC SC hw0
        go_wp2_with fail
        refine (SC1.out).mono ?_
        rintro e w2 ⟨rfl, E2⟩
        have y2 := (E1.trans E2).cell x2
        clear SC1
        go_wp2
        go_ret2
        exact ⟨rfl, E0.trans (E1.trans E2)⟩
      · have hn4 : n ≥ 4 := by omega
        clear hbad
        go_enter Tryd.func41, Tryd.ntmps41
        go_wp2_with fail
        refine (MC.out).mono ?_
        rintro e w1 ⟨rfl, E1⟩
        have SC1 := hid (SC.out w1 E1)
        clear MC SC hw0
        go_wp2_with fail
        refine (SC1.out).mono ?_
        rintro e w2 ⟨rfl, E2⟩
        have y2 := (E1.trans E2).cell x2
        clear SC1
        go_wp2
        go_ret2
        exact ⟨rfl, E0.trans (E1.trans E2)⟩
    · have e1 : partE C O l n = storeErr l := by rw [HPE.out, if_neg (by simp [g1]), if_pos g2]
      rw [e1]
      have q : (storeErr l != 0) = true := by simp [g2]
      clear e1 he HPE g1 g2
      generalize storeErr l = er at SC q ⊢
      go_enter Tryd.func41, Tryd.ntmps41
      go_wp2_with fail
      refine (MC.out).mono ?_
      rintro e w1 ⟨rfl, E1⟩
      have SC1 := hid (SC.out w1 E1)
      clear MC SC hw0
      go_wp2_with fail
      refine (SC1.out).mono ?_
      rintro e w2 ⟨rfl, E2⟩
      clear SC1
      go_wp2
      go_ret2
      exact ⟨rfl, E0.trans (E1.trans E2)⟩
  · have e1 : partE C O l n = mapErr C O := by rw [HPE.out, if_pos g1]
    rw [e1]
    have q : (mapErr C O != 0) = true := by simp [g1]
    clear e1 he HPE g1 SC
    generalize mapErr C O = er at MC q ⊢
    go_enter Tryd.func41, Tryd.ntmps41
    go_wp2_with fail
    refine (MC.out).mono ?_
    rintro e w1 ⟨rfl, E1⟩
    clear MC hw0
    go_wp2
    go_ret2
    exact ⟨rfl, E0.trans E1⟩
theorem part_all (vm vl : Value) (C : List ByteArray) (O : List Int) (l : Prs) (n : Int) (w : World) (hm : IsMap w vm C O) (hk : ∀ k ∈ C, k.size ≤ 9223372036854775807) (hv : Seg w vl 2 l.length (cP l)) (sk : ∀ p ∈ l, p.1.size ≤ 9223372036854775807) (hlen : l.length ≤ 1000000) :
    Calls Tryd.prog 41 #[vm, vl, .int .i64 n] w fun e w' => ∃ v' L, e = .returned (.tuple #[v', .int .i64 (partE C O l n)]) ∧ w'.ownsRow w.heap.size 77 2 v' L.length (cP L) ∧ (partE C O l n = 0 → L = partP C O l n) ∧ (partE C O l n ≠ 0 → L = []) ∧ Ext w w' := by
  by_cases h : partE C O l n = 0
  · have h1 : mapErr C O = 0 := by
      by_cases q : mapErr C O = 0
      · exact q
      · unfold partE at h; rw [if_pos q] at h; exact h
    have h2 : storeErr l = 0 := by
      by_cases q : storeErr l = 0
      · exact q
      · unfold partE at h; rw [if_neg (by simp [h1]), if_pos q] at h; exact h
    have h3 : ¬ (n < 0 ∨ 4 ≤ n) := by
      intro q
      unfold partE at h; rw [if_neg (by simp [h1]), if_neg (by simp [h2]), if_pos q] at h; cases h
    refine (part_ok vm vl C O l n w hm (mapOk_of h1) hk hv (store_ok h2) hlen (by omega) (by omega)).mono ?_
    rintro e w' ⟨v', rfl, ho, E⟩
    exact ⟨v', _, by rw [h], ho, fun _ => rfl, fun q => absurd h q, E⟩
  · refine (part_bad vm vl C O l n w hm hk hv sk h).mono ?_
    rintro e w' ⟨rfl, E⟩
    exact ⟨_, [], rfl, World.ownsRow_nil _ _ _ _, fun q => absurd q h, fun _ => rfl, E⟩
end Go.Proofs.YtghemmmkbpfdhaaDoor
