/- Contracts and lemmas for the proofs of this seat; each theorem states its own conditions. -/
import Derived.Test.YtijcckhkofkenaaS10
import Derived.Test.YtijcckhkofkenaaEq
import Derived.Test.YtijcckhkofkenaaDd
namespace Go.Proofs.Ytijcckhkofkenaa
open Go.RowKit
set_option maxRecDepth 10000 in
theorem storeBegun_any (w : World) : Calls Try.prog 57 #[] w fun e w' => e = .returned (.bool true) ∧ Ext w w' := by
  go_enter Try.func57, Try.ntmps57
  go_wp2_with fail
  refine (put_ok _ [] _ _ _ (Seg.nil _ _) (by simp) (by decide) (by simp) storeOk_nil (by decide +kernel) (by decide)).mono ?_
  rintro e w1 ⟨v', rfl, ho, E⟩
  obtain ⟨a, c, rfl⟩ := own_form ho
  have hl : (withP [] ⟨#[97]⟩ 5).length = 1 := by simp [withP]
  rw [hl]
  clear hl ho
  go_wp2
  go_ret
  exact ⟨rfl, E⟩
theorem eqP_self (l : Prs) : decide (l = l) = true := by simp
set_option maxRecDepth 100000 in
set_option maxHeartbeats 2000000 in
theorem puts_walk (v : Value) (l : List Int) (a b n m : Int) (w : World) (hv : Seg w v 1 l.length (cI l)) (hb : ∀ z ∈ l, -9223372036854775808 ≤ z ∧ z ≤ 9223372036854775807) :
    Calls Try.prog 11 #[v, .int .i64 a, .int .i64 b, .int .i64 n, .int .i64 m] w fun e w' => e = .returned (.bool true) ∧ Ext w w' := by
  have ka := keyOf_is a
  have kb := keyOf_is b
  have g1 := wi_lo (k := n) (n := 9) (by omega)
  have g2 := wi_hi (k := n) (n := 9) (by omega)
  have g3 := wi_lo (k := m) (n := 9) (by omega)
  have g4 := wi_hi (k := m) (n := 9) (by omega)
  go_enter Try.func11, Try.ntmps11
  go_wp2_with fail
  refine (storeBegun_any _).mono ?_
  rintro e w1 ⟨rfl, E1⟩
  go_wp2_with fail
  refine (pairs_any _ l _ (hv.ext E1) hb).mono ?_
  rintro e w2 ⟨vs, S, rfl, oS, lS, hS, E2⟩
  have sS := own_seg hS
  obtain ⟨a0, c0, rfl⟩ := own_form hS
  have E := E1.trans E2
  clear hS E1 E2
  go_wp2_with fail
  refine (kKey_any _ _).mono ?_
  rintro e w3 ⟨rfl, E3⟩
  go_wp2_with fail
  refine (kKey_any _ _).mono ?_
  rintro e w4 ⟨rfl, E4⟩
  generalize keyOf a = p at ka ⊢
  generalize keyOf b = q at kb ⊢
  go_wp2_with fail
  refine (within_any _ _ _ (by omega) (by omega)).mono ?_
  rintro e w' ⟨rfl, rfl⟩
  go_wp2_with fail
  refine (within_any _ _ _ (by omega) (by omega)).mono ?_
  rintro e w' ⟨rfl, rfl⟩
  have vx : valB (wi n 9 - 4) = true := valB_iff.2 (by omega)
  have vy : valB (wi m 9 - 4) = true := valB_iff.2 (by omega)
  replace E := (E.trans E3).trans E4
  replace sS := (sS.ext E3).ext E4
  clear E3 E4
  go_wp2_with fail
  generalize wi n 9 - 4 = x at vx ⊢
  generalize wi m 9 - 4 = y at vy ⊢
  clear g1 g2 g3 g4
  have bx := valB_iff.1 vx
  have by_ := valB_iff.1 vy
  have oX := storeOk_with oS ka.1 bx
  have lX := with_len S p x
  refine (put_ok _ S p x _ sS (store_small oS) ka.2 (by omega) oS ka.1 vx).mono ?_
  rintro e w5 ⟨v5, rfl, ho, E5⟩
  have sX := own_seg ho
  obtain ⟨a5, c5, rfl⟩ := own_form ho
  replace sS := sS.ext E5
  replace E := E.trans E5
  clear ho E5
  obtain ⟨X, hX⟩ : ∃ X, withP S p x = X := ⟨_, rfl⟩
  rw [hX] at oX lX sX ⊢
  have oY := storeOk_with oX kb.1 by_
  have lY := with_len X q y
  go_wp2_with fail
  refine (put_ok _ X q y _ sX (store_small oX) kb.2 (by omega) oX kb.1 vy).mono ?_
  rintro e w6 ⟨v6, rfl, ho, E6⟩
  have sY := own_seg ho
  obtain ⟨a6, c6, rfl⟩ := own_form ho
  replace sS := sS.ext E6
  replace sX := sX.ext E6
  replace E := E.trans E6
  clear ho E6
  obtain ⟨Y, hY⟩ : ∃ Y, withP X q y = Y := ⟨_, rfl⟩
  rw [hY] at oY lY sY ⊢
  have oZ := storeOk_with oS kb.1 by_
  have lZ := with_len S q y
  go_wp2_with fail
  refine (put_ok _ S q y _ sS (store_small oS) kb.2 (by omega) oS kb.1 vy).mono ?_
  rintro e w7 ⟨v7, rfl, ho, E7⟩
  have sZ := own_seg ho
  obtain ⟨a7, c7, rfl⟩ := own_form ho
  replace sS := sS.ext E7
  replace sX := sX.ext E7
  replace sY := sY.ext E7
  replace E := E.trans E7
  clear ho E7
  obtain ⟨Z, hZ⟩ : ∃ Z, withP S q y = Z := ⟨_, rfl⟩
  rw [hZ] at oZ lZ sZ ⊢
  have oW := storeOk_with oZ ka.1 bx
  have lW := with_len Z p x
  go_wp2_with fail
  refine (put_ok _ Z p x _ sZ (store_small oZ) ka.2 (by omega) oZ ka.1 vx).mono ?_
  rintro e w8 ⟨v8, rfl, ho, E8⟩
  have sW := own_seg ho
  obtain ⟨a8, c8, rfl⟩ := own_form ho
  replace sS := sS.ext E8
  replace sX := sX.ext E8
  replace sY := sY.ext E8
  replace sZ := sZ.ext E8
  replace E := E.trans E8
  clear ho E8
  obtain ⟨W, hW⟩ : ∃ W, withP Z p x = W := ⟨_, rfl⟩
  rw [hW] at oW lW sW ⊢
  have gE : ∀ (L : Prs) (k : ByteArray), StoreOk L → keyB k = true → getE L k = 0 := fun L k h h' => by simp [getE, storeErr_ok h, h']
  have gV : ∀ (L : Prs) (k : ByteArray), StoreOk L → keyB k = true → getV L k = valP L k := fun L k h h' => by simp [getV, storeErr_ok h, h']
  have x1 : valP X p = x := by rw [← hX, val_with oS.srt, if_pos rfl]
  have x2 : p ≠ q → valP X q = valP S q := fun h => by rw [← hX, val_with oS.srt, if_neg h]
  have x3 : p ≠ q → Y = W := fun h => store_ext oY oW fun k => by
    rw [← hY, ← hW, val_with oX.srt, val_with oZ.srt, ← hX, ← hZ, val_with oS.srt, val_with oS.srt]
    by_cases e : q = k
    · subst e; rw [if_pos rfl, if_neg h, if_pos rfl]
    · rw [if_neg e, if_neg e]
  have x4 : p = q → Y = Z := fun h => store_ext oY oZ fun k => by
    rw [← hY, ← hZ, val_with oX.srt, ← hX, val_with oS.srt, val_with oS.srt]
    by_cases e : q = k
    · rw [if_pos e, if_pos e]
    · rw [if_neg e, if_neg e, if_neg (by rw [h]; exact e)]
  have X1 := hid x1
  have X2 := hid x2
  have X3 := hid x3
  have X4 := hid x4
  have GE := hid gE
  have GV := hid gV
  have HX := hid (And.intro hX (And.intro hY (And.intro hZ hW)))
  clear x1 x2 x3 x4 gE gV hX hY hZ hW
  have G1 := get_any (.slice a5 X.length c5) X p
  have G2 := get_any (.slice a5 X.length c5) X q
  have G3 := get_any (.slice a0 S.length c0) S q
  rw [GE.out _ _ oX ka.1, GV.out _ _ oX ka.1, X1.out] at G1
  rw [GE.out _ _ oX kb.1, GV.out _ _ oX kb.1] at G2
  rw [GE.out _ _ oS kb.1, GV.out _ _ oS kb.1] at G3
  generalize hu : valP X q = u at G2 X2
  generalize hs : valP S q = s at G3 X2
  clear hu hs
  have G1 := hid G1
  have G2 := hid G2
  have G3 := hid G3
  go_wp2_with fail
  refine (G1.out _ sX (store_small oX) ka.2 (by omega)).mono ?_
  rintro e w9 ⟨rfl, E9⟩
  go_wp2_with fail
  refine (G2.out _ (sX.ext E9) (store_small oX) kb.2 (by omega)).mono ?_
  rintro e w10 ⟨rfl, E10⟩
  go_wp2_with fail
  refine (G3.out _ ((sS.ext E9).ext E10) (store_small oS) kb.2 (by omega)).mono ?_
  rintro e w11 ⟨rfl, E11⟩
  have E12 := (E9.trans E10).trans E11
  replace sY := sY.ext E12
  replace sZ := sZ.ext E12
  replace sW := sW.ext E12
  replace E := E.trans E12
  clear E9 E10 E11 E12 sX sS G1 G2 G3
  go_wp2_with fail
  have bL := heap_alloc_new w11 (.cells #[.int .i64 0, .int .i64 0, .int .i64 0, .int .i64 0, .int .i64 0, .int .i64 0, .int .i64 0] 29)
  have Ea := (Ext.refl w11).alloc (.cells #[.int .i64 0, .int .i64 0, .int .i64 0, .int .i64 0, .int .i64 0, .int .i64 0, .int .i64 0] 29)
  replace sY := sY.ext Ea
  replace sZ := sZ.ext Ea
  replace sW := sW.ext Ea
  replace E := E.trans Ea
  generalize w11.alloc (.cells #[.int .i64 0, .int .i64 0, .int .i64 0, .int .i64 0, .int .i64 0, .int .i64 0, .int .i64 0] 29) = w12 at bL sY sZ sW E ⊢
  generalize w11.heap.size = bb at bL ⊢
  clear Ea
  go_loopw [29, 99] (fun _ i wr => ∃ k : Nat, k ≤ 7 ∧ i = .int .i64 k ∧ Ext w12 wr) (fun _ i _ => 7 - (intOf i).toNat)
  case atStart => exact ⟨0, by omega, rfl, Ext.refl _⟩
  case round =>
    obtain ⟨k, hk, rfl, Er⟩ := hrel
    by_cases hlt : k < 7
    · have c0 : wr.cell? ⟨bb, k, none⟩ = some (.int .i64 0) := Er.cell (by
        have : k = 0 ∨ k = 1 ∨ k = 2 ∨ k = 3 ∨ k = 4 ∨ k = 5 ∨ k = 6 := by omega
        rcases this with rfl | rfl | rfl | rfl | rfl | rfl | rfl <;> simp [World.cell?, bL])
      clear bL
      go_wp2
      go_roundw
      case rel => exact ⟨k + 1, by omega, by go_num, Er⟩
      case measure => simp [intOf]; omega
    · obtain rfl : k = 7 := by omega
      clear bL
      replace sY := sY.ext Er
      replace sZ := sZ.ext Er
      replace sW := sW.ext Er
      replace E := E.trans Er
      clear Er
      by_cases hpq : p = q
      · subst hpq
        obtain rfl := X4.out rfl
        go_wp2_with fail
        refine (equal_Pair _ _ Y Y _ sY sZ).mono ?_
        rw [eqP_self]
        rintro e w13 ⟨rfl, d, rfl⟩
        have E13 := E.drewN d
        go_wp2_with fail
        refine (scheck_any _ Y _ (sY.ext ((Ext.refl _).drewN d)) (store_small oY)).mono ?_
        rw [storeErr_ok oY]
        rintro e w14 ⟨rfl, E14⟩
        go_wp2
        go_ret
        exact ⟨rfl, E13.trans E14⟩
      · have hl : ¬ p.toList = q.toList := fun e => hpq (toList_inj e)
        have h1 : (p.toList == q.toList) = false := by simp [hl]
        have h2 : (!p.toList == q.toList) = true := by simp [hl]
        obtain rfl := X2.out hpq
        obtain rfl := X3.out hpq
        clear hl
        go_wp2_with fail
        refine (equal_Pair _ _ Y Y _ sY sW).mono ?_
        rw [eqP_self]
        rintro e w13 ⟨rfl, d, rfl⟩
        have E13 := E.drewN d
        go_wp2_with fail
        refine (scheck_any _ Y _ (sY.ext ((Ext.refl _).drewN d)) (store_small oY)).mono ?_
        rw [storeErr_ok oY]
        rintro e w14 ⟨rfl, E14⟩
        go_wp2
        go_ret
        exact ⟨rfl, E13.trans E14⟩
end Go.Proofs.Ytijcckhkofkenaa
