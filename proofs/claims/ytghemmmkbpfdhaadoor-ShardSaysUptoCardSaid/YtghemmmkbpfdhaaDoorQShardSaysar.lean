/- Contracts and lemmas for the proof of ShardSays; each theorem states its own conditions. -/
import Derived.Test.YtghemmmkbpfdhaaDoorQShardSaysan
import Derived.Test.YtghemmmkbpfdhaaDoorQShardSaysao
import Derived.Test.YtghemmmkbpfdhaaDoorQShardSaysap
import Derived.Test.YtghemmmkbpfdhaaDoorQShardSaysaq
set_option linter.unusedVariables false
set_option linter.unusedSimpArgs false
/- Contracts and lemmas for the proofs of this seat; each theorem states its own conditions. -/
namespace Go.Proofs.YtghemmmkbpfdhaaDoor
open Go.RowKit
/-- what shard.Cut answers at a good map: an error, or the map with one cut more -/
def CutRes (w w' : World) (e : Ending) (C : List ByteArray) (O : List Int) (key : ByteArray) (i : Nat) : Prop :=
  (e = .returned (.tuple #[nilMap, .int .i64 3]) ∧ keyB key = false) ∨
  (keyB key = true ∧ cutAt (bltAt C key) C.length i ∧
    ((e = .returned (.tuple #[nilMap, .int .i64 5]) ∧ hitS C key i = true) ∨
     (e = .returned (.tuple #[nilMap, .int .i64 2]) ∧ hitS C key i = false ∧ C.length = 12) ∨
     (hitS C key i = false ∧ C.length < 12 ∧ ∃ v', e = .returned (.tuple #[v', .int .i64 0]) ∧ OwnMap w' w.heap.size v' (cutC C key i) (cutO O i))))
theorem cS_cut (C : List ByteArray) (key : ByteArray) (i : Nat) : cS (cutC C key i) = (cS C).take i ++ [.string key] ++ (cS C).drop i := by simp [cS, cutC, List.map_take, List.map_drop]
theorem cI_cut (O : List Int) (i : Nat) : cI (cutO O i) = (cI O).take i ++ [.int .i64 (O.getD i 0)] ++ (cI O).drop i := by simp [cI, cutO, List.map_take, List.map_drop]
theorem own_map_base {w : World} {B B' : Nat} {v : Value} {C : List ByteArray} {O : List Int} (h : OwnMap w B v C O) (k : B' ≤ B) : OwnMap w B' v C O := by
  obtain ⟨c, o, h1, h2, h3⟩ := h
  exact ⟨c, o, h1, own_base h2 k, own_base h3 k⟩
theorem own_keep {w w' : World} {B e sz n : Nat} {v : Value} {xs : List Value} (h : w.ownsRow B e sz v n xs) (hk : ∀ k, k < w.heap.size → v.ownBlock = some k → w'.heap[k]? = w.heap[k]?) : w'.ownsRow B e sz v n xs := by
  refine ⟨h.1, ?_⟩
  have hl := h.lt
  rcases h.2 with hn | ⟨g, cap, cur, rfl, hb, hg, rest⟩
  · exact .inl hn
  · exact .inr ⟨g, cap, cur, rfl, hb, (hk g (hl g rfl).2 rfl).trans hg, rest⟩
set_option maxRecDepth 100000 in
set_option maxHeartbeats 1000000 in
theorem cut_any (v : Value) (C : List ByteArray) (O : List Int) (key : ByteArray) (w : World) (hv : IsMap w v C O) (hk : ∀ k ∈ C, k.size ≤ 9223372036854775807) (ok : MapOk C O) (hks : key.size ≤ 9223372036854775807) :
    Calls Tryd.prog 29 #[v, .string key] w fun e w' => (∃ i, CutRes w w' e C O key i) ∧ Ext w w' := by
  have hv0 := hv
  obtain ⟨a1, k1, a2, k2, rfl, h1, h2⟩ := hv.unpack
  have hb0 := heap_1 w (.cells #[.slice a1 C.length k1, .slice a2 O.length k2] 28) (.cells #[.slice none 0 0, .slice none 0 0] 28)
  have hb1 := heap_2 w (.cells #[.slice a1 C.length k1, .slice a2 O.length k2] 28) (.cells #[.slice none 0 0, .slice none 0 0] 28)
  have q : (mapErr C O != 0) = false := by simp [mapErr_ok ok]
  have hf := ok.few
  go_enter Tryd.func29, Tryd.ntmps29
  go_wp2_with fail
  refine (mcheck_any _ C O _ (hv0.ext (by (repeat (first | (with_reducible assumption) | (with_reducible exact Ext.refl _) | (with_reducible refine Ext.drew ?_) | (with_reducible refine Ext.drewN ?_ _) | (with_reducible refine Ext.alloc ?_ _) | (with_reducible refine Ext.trans ?_ (by with_reducible assumption)))))) hk).mono ?_
  rintro e w1 ⟨rfl, he1⟩
  have b0 := blk2 (he1.heap hb0)
  have b1 := blk2 (he1.heap hb1)
  have hz := he1.size'
  go_wp2_with fail
  refine (key_any _ _ hks).mono ?_
  rintro e w' ⟨rfl, rfl⟩
  cases hkb : keyB key with
  | false =>
    have HK := hid hkb
    have rB := blk2 (blk2_set2 (u := .slice none 0 0) (v := .slice none 0 0) (he1.heap hb1))
    have hE : Ext w w1 := by (repeat (first | (with_reducible assumption) | (with_reducible exact Ext.refl _) | (with_reducible refine Ext.drew ?_) | (with_reducible refine Ext.drewN ?_ _) | (with_reducible refine Ext.alloc ?_ _) | (with_reducible refine Ext.trans ?_ (by with_reducible assumption))))
    go_wp2
    exact bodyPost_ret (v := .tuple #[nilMap, .int .i64 3]) (by simp [results, Tryd.results29, go_sem, rB.1, rB.2.1, nilMap]) rfl ⟨⟨0, .inl ⟨rfl, HK.out⟩⟩, (hE.setCell (by simp) _).setCell (by simp) _⟩
  | true =>
    have HK := hid hkb
    go_wp2_with fail
    refine (bsearch_any _ C key _ (h1.ext (by (repeat (first | (with_reducible assumption) | (with_reducible exact Ext.refl _) | (with_reducible refine Ext.drew ?_) | (with_reducible refine Ext.drewN ?_ _) | (with_reducible refine Ext.alloc ?_ _) | (with_reducible refine Ext.trans ?_ (by with_reducible assumption)))))) (dropsB_blt ok.srt key) (by omega)).mono ?_
    rintro e w' ⟨i, hcut, rfl, rfl⟩
    cases hh : hitS C key i with
    | true =>
      have HH := hid (And.intro hh hcut)
      clear hcut
      have rB := blk2 (blk2_set2 (u := .slice none 0 0) (v := .slice none 0 0) (he1.heap hb1))
      have hE : Ext w w1 := by (repeat (first | (with_reducible assumption) | (with_reducible exact Ext.refl _) | (with_reducible refine Ext.drew ?_) | (with_reducible refine Ext.drewN ?_ _) | (with_reducible refine Ext.alloc ?_ _) | (with_reducible refine Ext.trans ?_ (by with_reducible assumption))))
      go_wp2
      exact bodyPost_ret (v := .tuple #[nilMap, .int .i64 5]) (by simp [results, Tryd.results29, go_sem, rB.1, rB.2.1, nilMap]) rfl ⟨⟨i, .inr ⟨HK.out, HH.out.2, .inl ⟨rfl, HH.out.1⟩⟩⟩, (hE.setCell (by simp) _).setCell (by simp) _⟩
    | false =>
      have HH := hid (And.intro hh hcut)
      clear hcut
      by_cases hfull : C.length = 12
      · have qf : ((C.length : Int) == 12) = true := by simp [hfull]
        have HF := hid hfull
        clear hfull
        have rB := blk2 (blk2_set2 (u := .slice none 0 0) (v := .slice none 0 0) (he1.heap hb1))
        have hE : Ext w w1 := by (repeat (first | (with_reducible assumption) | (with_reducible exact Ext.refl _) | (with_reducible refine Ext.drew ?_) | (with_reducible refine Ext.drewN ?_ _) | (with_reducible refine Ext.alloc ?_ _) | (with_reducible refine Ext.trans ?_ (by with_reducible assumption))))
        go_wp2
        exact bodyPost_ret (v := .tuple #[nilMap, .int .i64 2]) (by simp [results, Tryd.results29, go_sem, rB.1, rB.2.1, nilMap]) rfl ⟨⟨i, .inr ⟨HK.out, HH.out.2, .inr (.inl ⟨rfl, HH.out.1, HF.out⟩)⟩⟩, (hE.setCell (by simp) _).setCell (by simp) _⟩
      · have qf : ((C.length : Int) == 12) = false := by simp; omega
        have hlt : C.length < 12 := by omega
        clear hfull
        go_wp2_with fail
        refine (copied_any _ C O _ (hv0.ext (by (repeat (first | (with_reducible assumption) | (with_reducible exact Ext.refl _) | (with_reducible refine Ext.drew ?_) | (with_reducible refine Ext.drewN ?_ _) | (with_reducible refine Ext.alloc ?_ _) | (with_reducible refine Ext.trans ?_ (by with_reducible assumption)))))) (by omega) (by have := ok.len; omega)).mono ?_
        rintro e w2 ⟨v', rfl, ⟨c', o', rfl, hc1, hc2⟩, he2⟩
        obtain ⟨a3, k3, rfl⟩ := own_form hc1
        obtain ⟨a4, k4, rfl⟩ := own_form hc2
        have i2 : i ≤ C.length := HH.out.2.1
        have y9 := heap_alloc_new w2 (.cells #[.slice a3 C.length k3, .slice a4 O.length k4] 28)
        have x9 := blk2 y9
        have x9' := blk2 (((Ext.refl _).alloc (.cells #[.string key] 9)).heap y9)
        go_wp2_with fail
        have hv9 := heap_alloc_new (w2.alloc (.cells #[.slice a3 C.length k3, .slice a4 O.length k4] 28)) (.cells #[.string key] 9)
        rw [World.size_alloc] at hv9
        have hE9 := ((Ext.refl w2).alloc (.cells #[.slice a3 C.length k3, .slice a4 O.length k4] 28)).alloc (.cells #[.string key] 9)
        have hc1' := own_ext hc1 hE9
        have hc2' := own_ext hc2 hE9
        have I := fun B w => insS_any B k3 (cS C) (.string key) i (w2.heap.size + 1) w a3
        rw [cS_len] at I
        refine (I w1.heap.size _ hc1' hv9 (fun e => by have := (hc1.lt _ e).2; omega) (by have := he2.size'; have := hE9.size'; omega) i2 (by omega) (cS_one _) rfl).mono ?_
        rintro e w3 ⟨a5, k5, rfl, hc3, hbl, hkp⟩
        have hlt1 := fun k hk => (hc1.lt k hk).2
        have y9a := (hkp w2.heap.size (by simp; omega) (fun e => by have := hlt1 _ e; omega)).trans (((Ext.refl _).alloc (.cells #[.string key] 9)).heap y9)
        have hE3 : Ext w1 w3 := Below.trans (he2.trans hE9) hbl
        have x9a := blk2 y9a
        have hc2a : w3.ownsRow w1.heap.size 3 1 (.slice a4 O.length k4) O.length (cI O) := own_keep hc2' (fun k hk e => hkp k hk (fun e' => by
          rcases own_own_ne hc2' hc1' (by decide) with h | h
          · rw [h] at e; cases e
          · exact h (e.trans e'.symm)))
        have hE4 := hE3.setCell (p := ⟨w2.heap.size, 0, none⟩) he2.size' (.slice a5 (C.length + 1) k5)
        have y9b := blk2_set0 y9a (.slice a5 (C.length + 1) k5)
        have hc2b := own_set_other hc2a (p := ⟨w2.heap.size, 0, none⟩) (own_ne hc2a y9a (by decide)) (.slice a5 (C.length + 1) k5)
        have hc3b := own_set_other hc3 (p := ⟨w2.heap.size, 0, none⟩) (own_ne hc3 y9a (by decide)) (.slice a5 (C.length + 1) k5)
        clear hkp
        go_wp2_with fail
        clear x9a y9a hc2a hc3
        generalize w3.setCell ⟨w2.heap.size, 0, none⟩ (.slice a5 (C.length + 1) k5) = w4 at hE4 y9b hc2b hc3b ⊢
        have x9b := blk2 y9b
        have b0a := blk2 (hE4.heap (he1.heap hb0))
        have hlO := hid ok.len
        obtain ⟨bO, offO, rfl, _, _, hkO, hcO⟩ := seg_cells h2 (by have := hlO.out; omega)
        unfold maxLen at hkO
        have cO := hE4.cell (he1.cell (cell2 (hcO _ _ (cI_at0 O i (by have := hlO.out; omega))) (.cells #[.slice a1 C.length k1, .slice (some ⟨bO, offO, none⟩) O.length k2] 28) (.cells #[.slice none 0 0, .slice none 0 0] 28)))
        have hi0 : (0 : Int) ≤ (i : Int) := by omega
        have hi1 : (i : Int) < (O.length : Int) := by have := hlO.out; omega
        have hi2 : i < O.length := by have := hlO.out; omega
        clear hcO
        refine wp_region_ph [.k (.pointer (some ⟨w2.heap.size, 1, none⟩)), .k (.slice a4 O.length k4), .k (.int .i64 i), .k (.pointer (some ⟨w.heap.size, 1, none⟩)), .k (.slice (some ⟨bO, offO, none⟩) O.length k2), .k (.int .i64 i), .k (.pointer (some ⟨bO, offO + i, none⟩)), .k (.int .i64 (O[i]'hi2)), .p fun v w' => ∃ b, v = .slice (some ⟨b, 0, none⟩) 1 1 ∧ w4.heap.size ≤ b ∧ w'.heap[b]? = some (.cells #[.int .i64 (O[i]'hi2)] 3 (0, 0))] [] (by kernel_rfl) (by kernel_rfl) (by kernel_rfl) rfl rfl ?hs (fun i hi => by simp at hi) ?he
        case hs =>
          refine ⟨?s0, ?s1, ?s2, ?s3, ?s4, ?s5, ?s6, ?s7, ?s8, trivial⟩
          all_goals (
            intro x w' hE hd
            try simp [PhDeps, at_k, at_p, Region.binds] at hd
            have d1 := hE.cell x9b.2.1
            have d2 := hE.cell b0a.2.1
            have d3 := hE.cell cO
            try simp only [frL, List.length_cons, List.length_nil, List.take_succ_cons, List.take_zero, Nat.reduceAdd, Nat.zero_add, List.setIfInBounds_toArray, List.set_cons_zero, List.set_cons_succ, hd]
            go_wp2
            first
              | exact phK rfl (by (repeat (first | (with_reducible assumption) | (with_reducible exact Ext.refl _) | (with_reducible refine Ext.drew ?_) | (with_reducible refine Ext.drewN ?_ _) | (with_reducible refine Ext.alloc ?_ _) | (with_reducible refine Ext.trans ?_ (by with_reducible assumption)))))
              | exact phN ⟨_, rfl, hE.size', heap_alloc_new _ _⟩ (by assumption) (by (repeat (first | (with_reducible assumption) | (with_reducible exact Ext.refl _) | (with_reducible refine Ext.drew ?_) | (with_reducible refine Ext.drewN ?_ _) | (with_reducible refine Ext.alloc ?_ _) | (with_reducible refine Ext.trans ?_ (by with_reducible assumption)))))
              | skip)
        case he =>
          intro x w5 hE hd
          simp [PhEnd, at_k, at_p] at hd
          obtain ⟨e0, e1, e2, e3, e4, e5, e6, e7, ⟨w6, h6, h7, b, e8, hbA, hbB⟩⟩ := hd
          have hc2d := own_ext hc2b hE
          have hc3d := own_ext hc3b hE
          have y9d := hE.heap y9b
          have hvb := h7.heap hbB
          have hlt2 := fun k hk => (hc2b.lt k hk).2
          have I := fun B w => insI_any B k4 (cI O) (.int .i64 (O[i]'hi2)) i b w a4
          rw [cI_len] at I
          simp only [frL, List.length_cons, List.length_nil, List.take_succ_cons, List.take_zero, Nat.reduceAdd, Nat.zero_add, List.setIfInBounds_toArray, List.set_cons_zero, List.set_cons_succ, e0, e1, e2, e3, e4, e5, e6, e7, e8, List.length_cons, List.length_nil, List.drop_succ_cons, List.drop_zero]
          clear e0 e1 e2 e3 e4 e5 e6 e7 e8
          go_wp2_with fail
          have hb9 : w2.heap.size < w5.heap.size := (Array.getElem?_eq_some_iff.1 y9d).1
          refine (I w1.heap.size _ hc2d hvb (fun e => by have := hlt2 _ e; omega) (by have := he2.size'; omega) (by have := hlO.out; omega) (by have := hlO.out; omega) (cI_one _) rfl).mono ?_
          rintro e w7 ⟨a6, k6, rfl, hc5, hbl2, hkp2⟩
          have y9e := (hkp2 w2.heap.size hb9 (own_ne hc2d y9d (by decide))).trans y9d
          have hc3e := own_keep hc3d (fun k hk e => hkp2 k hk (fun e' => by
            rcases own_own_ne hc3d hc2d (by decide) with h | h
            · rw [h] at e; cases e
            · exact h (e.trans e'.symm)))
          have hE7 : Ext w1 w7 := Below.trans (hE4.trans hE) hbl2
          have hE8 := hE7.setCell (p := ⟨w2.heap.size, 1, none⟩) he2.size' (.slice a6 (O.length + 1) k6)
          have hc3f := own_set_other hc3e (p := ⟨w2.heap.size, 1, none⟩) (own_ne hc3e y9e (by decide)) (.slice a6 (O.length + 1) k6)
          have hc5f := own_set_other hc5 (p := ⟨w2.heap.size, 1, none⟩) (own_ne hc5 y9e (by decide)) (.slice a6 (O.length + 1) k6)
          have y9f := blk2_set1 y9e (.slice a6 (O.length + 1) k6)
          have x9e := blk2 y9e
          have x9f := blk2 y9f
          have hOi : O.getD i 0 = O[i]'hi2 := by simp [hi2]
          have hM : IsMap (w7.setCell ⟨w2.heap.size, 1, none⟩ (.slice a6 (O.length + 1) k6)) (.agg #[.slice a5 (C.length + 1) k5, .slice a6 (O.length + 1) k6]) (cutC C key i) (cutO O i) := by
            refine ⟨_, _, rfl, ?_, ?_⟩
            · rw [cutC_len i2, cS_cut]; exact own_seg hc3f
            · rw [cutO_len (by omega), cI_cut, hOi]; exact own_seg hc5f
          clear hOi hkp2 hc2d hc3d hc3e hc5 y9d
          go_wp2_with fail
          refine (copied_any _ (cutC C key i) (cutO O i) _ hM (by rw [cutC_len i2]; omega) (by rw [cutO_len (by omega)]; have := hlO.out; omega)).mono ?_
          rintro e w9 ⟨v9, rfl, hM9, he9⟩
          have hO9 := own_map_base hM9 (show w.heap.size + 1 + 1 ≤ (w7.setCell ⟨w2.heap.size, 1, none⟩ (.slice a6 (O.length + 1) k6)).heap.size by simp; have := hE7.size'; have := he1.size'; simp at this; omega)
          have E9 := hE8.trans he9
          have bR := E9.heap (he1.heap hb1)
          obtain ⟨c9, o9, rfl, q1, q2⟩ := hO9
          obtain ⟨a9, k9, rfl⟩ := own_form q1
          obtain ⟨a10, k10, rfl⟩ := own_form q2
          have bR' := blk2 bR
          have rB := blk2 (blk2_set2 (u := .slice a9 (cutC C key i).length k9) (v := .slice a10 (cutO O i).length k10) bR)
          have EE := hid (show Ext w _ from Ext.trans (by (repeat (first | (with_reducible assumption) | (with_reducible exact Ext.refl _) | (with_reducible refine Ext.drew ?_) | (with_reducible refine Ext.drewN ?_ _) | (with_reducible refine Ext.alloc ?_ _) | (with_reducible refine Ext.trans ?_ (by with_reducible assumption))))) (E9))
          go_wp2
          exact bodyPost_ret (v := .tuple #[.agg #[.slice a9 (cutC C key i).length k9, .slice a10 (cutO O i).length k10], .int .i64 0]) (by simp [results, Tryd.results29, go_sem, rB.1, rB.2.1]) rfl ⟨⟨i, .inr ⟨HK.out, HH.out.2, .inr (.inr ⟨HH.out.1, hlt, _, rfl, _, _, rfl, own_base (own_set2 q1 (by show w.heap.size + 1 < _; omega) (by show w.heap.size + 1 < _; omega)) (by omega), own_base (own_set2 q2 (by show w.heap.size + 1 < _; omega) (by show w.heap.size + 1 < _; omega)) (by omega)⟩)⟩⟩, (EE.out.setCell (by simp) _).setCell (by simp) _⟩
end Go.Proofs.YtghemmmkbpfdhaaDoor
