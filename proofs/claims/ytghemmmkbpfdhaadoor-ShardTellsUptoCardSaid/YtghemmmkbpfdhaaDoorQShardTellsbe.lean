/- Contracts and lemmas for the proof of ShardTells; each theorem states its own conditions. -/
import Derived.Test.YtghemmmkbpfdhaaDoorQShardTellsbd
import Derived.Test.YtghemmmkbpfdhaaDoorQShardTellsat
import Derived.BigQuiet
set_option linter.unusedVariables false
set_option linter.unusedSimpArgs false
/- Contracts and lemmas for the proofs of this seat; each theorem states its own conditions. -/
namespace Go.Proofs.YtghemmmkbpfdhaaDoor
open Go.RowKit
/-! the document's Plain -/
theorem pl_take (C : List ByteArray) (O : List Int) (k : Nat) : ∀ j, j ≤ k → pl (C.take k) (O.take (k + 1)) j = pl C O j
  | 0, _ => by simp [pl, List.getD, List.getElem?_take]
  | j + 1, h => by
    have ih := pl_take C O k j (by omega)
    have e1 : (O.take (k + 1)).getD (j + 1) 0 = O.getD (j + 1) 0 := by simp [List.getD, List.getElem?_take, show j + 1 < k + 1 by omega]
    have e2 : kAt (C.take k) j = kAt C j := by simp [kAt, List.getD, List.getElem?_take, show j < k by omega]
    simp only [pl, ih, e1, e2]
theorem cS_take (l : List ByteArray) (k : Nat) : (cS l).take k = cS (l.take k) := by simp [cS]
theorem cI_take (l : List Int) (k : Nat) : (cI l).take k = cI (l.take k) := by simp [cI]
theorem cS_drop (l : List ByteArray) (k : Nat) : (cS l).drop k = cS (l.drop k) := by simp [cS]
theorem cI_drop (l : List Int) (k : Nat) : (cI l).drop k = cI (l.drop k) := by simp [cI]
theorem seg_at0 {w : World} {a : Option Addr} {n c : Nat} {xs : List Value} (h : Seg w (.slice a n c) 1 n xs) (hn : 0 < n) : ∃ b off, a = some ⟨b, off, none⟩ := by
  obtain ⟨b, off, e, _⟩ := seg_cells h hn
  exact ⟨b, off, e⟩
def SegStr (l : List ByteArray) (v : Value) (w : World) : Prop := Seg w v 1 l.length (cS l)
def SegInt (l : List Int) (v : Value) (w : World) : Prop := Seg w v 1 l.length (cI l)
/-- a cell of another kind may be written -/
theorem seg_set_kind {w : World} {v : Value} {n : Nat} {xs : List Value} {bX : Nat} {cs : Array Value} {t : TypeId} {fr : Nat × Nat} (h : Seg w v 1 n xs) (hb : w.heap[bX]? = some (.cells cs t fr)) (hne : ∀ u ∈ xs, u ∉ cs.toList) (i : Nat) (z : Value) : Seg (w.setCell ⟨bX, i, none⟩ z) v 1 n xs := by
  obtain ⟨h0, a, c, h1, h2, h3, h4⟩ := h
  refine ⟨h0, a, c, h1, h2, h3, fun hn => ?_⟩
  obtain ⟨b, off, h5, h6⟩ := h4 hn
  refine ⟨b, off, h5, fun j u hu => ?_⟩
  have hc := h6 j u hu
  refine cell_set_far hc fun e => ?_
  simp only at e
  subst e
  have : cs[off + j]? = some u := by simpa [World.cell?, hb] using hc
  exact hne u (List.mem_of_getElem? hu) (by rw [← Array.getElem?_toList] at this; exact List.mem_of_getElem? this)
theorem cS_kind {l : List ByteArray} {a b : Option Addr} {n c m d : Nat} : ∀ u ∈ cS l, u ∉ (#[Value.slice a n c, Value.slice b m d] : Array Value).toList := by
  intro u hu hm
  simp [cS] at hu
  obtain ⟨s, _, rfl⟩ := hu
  simp at hm
theorem cI_kind {l : List Int} {a b : Option Addr} {n c m d : Nat} : ∀ u ∈ cI l, u ∉ (#[Value.slice a n c, Value.slice b m d] : Array Value).toList := by
  intro u hu hm
  simp [cI] at hu
  obtain ⟨s, _, rfl⟩ := hu
  simp at hm
theorem map_set2 {w : World} {bX : Nat} {t : TypeId} {C : List ByteArray} {O : List Int} {c o : Value} {x0 x1 : Option Addr} {n0 c0 n1 c1 m0 d0 m1 d1 : Nat} {y0 y1 : Option Addr} (h : IsMap w (.agg #[c, o]) C O) (hb : w.heap[bX]? = some (.cells #[.slice x0 n0 c0, .slice x1 n1 c1] t (0, 0))) :
    IsMap ((w.setCell ⟨bX, 0, none⟩ (.slice y0 m0 d0)).setCell ⟨bX, 1, none⟩ (.slice y1 m1 d1)) (.agg #[c, o]) C O := by
  obtain ⟨c', o', e, h1, h2⟩ := h
  injection e with e; injection e with e; injection e with e1 e; injection e with e2 _
  subst e1; subst e2
  exact ⟨_, _, rfl, seg_set_kind (seg_set_kind h1 hb cS_kind 0 _) (blk2_set0 hb _) cS_kind 1 _, seg_set_kind (seg_set_kind h2 hb cI_kind 0 _) (blk2_set0 hb _) cI_kind 1 _⟩
set_option maxRecDepth 100000 in
set_option maxHeartbeats 4000000 in
theorem rplain_any : ∀ (n : Nat) (v : Value) (C : List ByteArray) (O : List Int) (w : World), C.length = n → IsMap w v C O → O.length = C.length + 1 → n ≤ 12 →
    Calls Tryd.prog 42 #[v] w fun e w' => ∃ v', e = .returned v' ∧ IsMap w' v' (pl C O C.length).1 (pl C O C.length).2 ∧ Ext w w'
  | 0, v, C, O, w, hn, hv, hl, _ => by
    obtain ⟨a1, k1, a2, k2, rfl, m1, m2⟩ := hv.unpack
    have b0 := heap_1 w (.cells #[.slice a1 C.length k1, .slice a2 O.length k2] 28) (.cells #[.slice a1 C.length k1, .slice a2 O.length k2] 28)
    have b1 := heap_2 w (.cells #[.slice a1 C.length k1, .slice a2 O.length k2] 28) (.cells #[.slice a1 C.length k1, .slice a2 O.length k2] 28)
    have E := ((Ext.refl w).alloc (.cells #[.slice a1 C.length k1, .slice a2 O.length k2] 28)).alloc (.cells #[.slice a1 C.length k1, .slice a2 O.length k2] 28)
    have hC : C = [] := List.eq_nil_of_length_eq_zero hn
    have hpl : (pl C O C.length).1 = C ∧ (pl C O C.length).2 = O := by
      rw [hn]
      refine ⟨hC.symm, ?_⟩
      match O, hl with
      | [o], _ => rfl
      | [], hl => simp at hl
      | o :: o' :: r, hl => rw [hC] at hl; simp at hl
    have q : ((C.length : Int) == 0) = true := by simp [hn]
    have rB := blk2 b1
    have HM := hid (hv.ext E)
    have HPL := hid hpl
    have xb := blk2 (heap_1 w (.cells #[.slice a1 C.length k1, .slice a2 O.length k2] 28) (.cells #[.slice none 0 0, .slice none 0 0] 28))
    clear m1 m2 hv hl hC hpl b0 hn
    go_enter Tryd.func42, Tryd.ntmps42
    go_wp2
    exact bodyPost_ret (v := .agg #[.slice a1 C.length k1, .slice a2 O.length k2]) (by simp [results, Tryd.results42, go_sem, rB.1, rB.2.1]) rfl ⟨_, rfl, by rw [HPL.out.1, HPL.out.2]; exact HM.out, E⟩
  | k + 1, v, C, O, w, hn, hv, hl, hk => by
    obtain ⟨a1, k1, a2, k2, rfl, m1, m2⟩ := hv.unpack
    obtain ⟨bC, oC, rfl⟩ := seg_at0 m1 (by omega)
    obtain ⟨bO, oO, rfl⟩ := seg_at0 m2 (by omega)
    have kc1 : C.length ≤ k1 ∧ k1 ≤ 9223372036854775807 := by
      obtain ⟨_, _, _, _, g1, g2, _⟩ := seg_cells m1 (by omega)
      unfold maxLen at g2; omega
    have kc2 : O.length ≤ k2 ∧ k2 ≤ 9223372036854775807 := by
      obtain ⟨_, _, _, _, g1, g2, _⟩ := seg_cells m2 (by omega)
      unfold maxLen at g2; omega
    have hk1 : (C.length : Int) - 1 = (k : Int) := by omega
    have q : ((C.length : Int) == 0) = false := by rw [hn]; simp; omega
    have hle1 : k ≤ k1 := by omega
    have hle2 : C.length ≤ k2 := by omega
    obtain ⟨P1, hP1⟩ : ∃ P1, (pl C O k).1 = P1 := ⟨_, rfl⟩
    obtain ⟨P2, hP2⟩ : ∃ P2, (pl C O k).2 = P2 := ⟨_, rfl⟩
    have hPL : pl C O C.length = if O.getD (k + 1) 0 = O.getD k 0 then (P1, P2) else (P1 ++ [kAt C k], P2 ++ [O.getD (k + 1) 0]) := by
      rw [hn, pl, pl_last, ← hP1, ← hP2]
    have hp1 : P1.length ≤ k := by rw [← hP1]; exact pl_le C O k
    have hp2 : P2.length = P1.length + 1 := by rw [← hP1, ← hP2]; exact pl_len C O k
    have HP2 := hid hp2
    clear hp2
    have HM := hid (And.intro m1 m2)
    have b0 := heap_1 w (.cells #[.slice (some ⟨bC, oC, none⟩) C.length k1, .slice (some ⟨bO, oO, none⟩) O.length k2] 28) (.cells #[.slice none 0 0, .slice none 0 0] 28)
    have b1 := heap_2 w (.cells #[.slice (some ⟨bC, oC, none⟩) C.length k1, .slice (some ⟨bO, oO, none⟩) O.length k2] 28) (.cells #[.slice none 0 0, .slice none 0 0] 28)
    have E0 := ((Ext.refl w).alloc (.cells #[.slice (some ⟨bC, oC, none⟩) C.length k1, .slice (some ⟨bO, oO, none⟩) O.length k2] 28)).alloc (.cells #[.slice none 0 0, .slice none 0 0] 28)
    obtain ⟨w0, hw0⟩ : ∃ w0, (w.alloc (.cells #[.slice (some ⟨bC, oC, none⟩) C.length k1, .slice (some ⟨bO, oO, none⟩) O.length k2] 28)).alloc (.cells #[.slice none 0 0, .slice none 0 0] 28) = w0 := ⟨_, rfl⟩
    have hs0 : w0.heap.size = w.heap.size + 1 + 1 := by rw [← hw0]; simp
    rw [hw0] at b0 b1 E0
    have xb := blk2 b0
    have HIH := hid (fun w' (q : Ext w0 w') => (by
      have e1 : (C.take k).length = k := by rw [List.length_take]; omega
      have e2 : (O.take (k + 1)).length = C.length := by rw [List.length_take]; omega
      have h := rplain_any k (.agg #[.slice (some ⟨bC, oC, none⟩) k k1, .slice (some ⟨bO, oO, none⟩) C.length k2]) (C.take k) (O.take (k + 1)) w' e1
        ⟨_, _, rfl, by have := seg_take1 ((m1.ext E0).ext q) (show k ≤ C.length by omega); rw [cS_take] at this; rw [e1]; exact this,
          by have := seg_take1 ((m2.ext E0).ext q) (show k + 1 ≤ O.length by omega); rw [cI_take] at this; rw [e2]; rw [hn]; exact this⟩ (by omega) (by omega)
      rw [e1, pl_take C O k k (Nat.le_refl _), hP1, hP2] at h
      exact h : Calls Tryd.prog 42 #[.agg #[.slice (some ⟨bC, oC, none⟩) k k1, .slice (some ⟨bO, oO, none⟩) C.length k2]] w' fun e w'' => ∃ v', e = .returned v' ∧ IsMap w'' v' P1 P2 ∧ Ext w' w''))
    have HPL := hid hPL
    have HN := hid (And.intro hn hl)
    have HS0 := hid hs0
    have B0' := hid b0
    clear m1 m2 hv hP1 hP2 hPL hn hl b0 hs0
    go_enter Tryd.func42, Tryd.ntmps42
    go_wp2_with fail
    clear hw0
    refine wp_region_ph [.k (.pointer (some ⟨w.heap.size, 0, none⟩)), .k (.slice (some ⟨bC, oC, none⟩) C.length k1), .k (.int .i64 C.length), .k (.int .i64 k), .k (.slice (some ⟨bC, oC, none⟩) k k1), .k (.pointer (some ⟨w.heap.size, 1, none⟩)), .k (.slice (some ⟨bO, oO, none⟩) O.length k2), .k (.int .i64 C.length), .k (.slice (some ⟨bO, oO, none⟩) C.length k2), .k (.agg #[.slice (some ⟨bC, oC, none⟩) k k1, .slice (some ⟨bO, oO, none⟩) C.length k2]), .p (fun v9 w9 => IsMap w9 v9 P1 P2), .p (BoxAt w0 #[.slice none 0 0, .slice none 0 0] 28)] [] (by kernel_rfl) (by kernel_rfl) (by kernel_rfl) rfl rfl ?hs ?hC ?he
    case hC =>
      intro i hi
      simp at hi
    case hs =>
      refine ⟨?_, ?_, ?_, ?_, ?_, ?_, ?_, ?_, ?_, ?_, ?_, ?_, trivial⟩
      all_goals (
        intro x w' hE hd
        try simp [PhDeps, at_k, at_p, at_t, at_any, Region.binds] at hd
        try ((with_reducible refine Exists.elim hd ?_); clear hd; intro y hd; obtain ⟨hd, hG⟩ := hd)
        have e1 := hE.cell xb.1
        have e2 := hE.cell xb.2.1
        first | simp only [frL, List.length_cons, List.length_nil, List.take_succ_cons, List.take_zero, Nat.reduceAdd, Nat.zero_add, List.setIfInBounds_toArray, List.set_cons_zero, List.set_cons_succ, hd] | simp only [frL, List.length_cons, List.length_nil, List.take_succ_cons, List.take_zero, Nat.reduceAdd, Nat.zero_add, List.setIfInBounds_toArray, List.set_cons_zero, List.set_cons_succ]
        go_wp2_with (first | (go_at_call 42; refine (HIH.out w' hE).mono ?_; rintro e wa ⟨v9, rfl, hm9, hea⟩))
        all_goals first
          | ((with_reducible refine phK ?_ ?_); (focus rfl); (repeat (first | (with_reducible assumption) | (with_reducible exact Ext.refl _) | (with_reducible refine Ext.drew ?_) | (with_reducible refine Ext.drewN ?_ _) | (with_reducible refine Ext.alloc ?_ _) | (with_reducible refine Ext.trans ?_ (by with_reducible assumption)))))
          | (exact phN hm9 hE hea)
          | ((with_reducible refine phT rfl hG ?_); (repeat (first | (with_reducible assumption) | (with_reducible exact Ext.refl _) | (with_reducible refine Ext.drew ?_) | (with_reducible refine Ext.drewN ?_ _) | (with_reducible refine Ext.alloc ?_ _) | (with_reducible refine Ext.trans ?_ (by with_reducible assumption)))))
          | ((with_reducible refine phU hG ?_); (repeat (first | (with_reducible assumption) | (with_reducible exact Ext.refl _) | (with_reducible refine Ext.drew ?_) | (with_reducible refine Ext.drewN ?_ _) | (with_reducible refine Ext.alloc ?_ _) | (with_reducible refine Ext.trans ?_ (by with_reducible assumption)))))
          | (with_reducible exact phBox hE)
          | (with_reducible exact phRow hE))
    case he =>
      intro x w4 E4 hd
      simp [PhEnd, at_k, at_p] at hd
      obtain ⟨e0, e1, e2, e3, e4, e5, e6, e7, e8, e9, ⟨u1, _, g1, hm10⟩, u2, _, g2, bX, e11, g3, g4⟩ := hd
      replace hm10 := hm10.ext g1
      replace g4 := g2.heap g4
      obtain ⟨a3, k3, a4, k4, e10, _, _⟩ := hm10.unpack
      rw [e10] at hm10
      have xX := blk2 g4
      have E5 : Ext w0 ((w4.setCell ⟨bX, 0, none⟩ (.slice a3 P1.length k3)).setCell ⟨bX, 1, none⟩ (.slice a4 P2.length k4)) := (E4.setCell g3 _).setCell g3 _
      have gX := blk2_set2 g4 (u := .slice a3 P1.length k3) (v := .slice a4 P2.length k4)
      have hM5 : IsMap ((w4.setCell ⟨bX, 0, none⟩ (.slice a3 P1.length k3)).setCell ⟨bX, 1, none⟩ (.slice a4 P2.length k4)) (.agg #[.slice a3 P1.length k3, .slice a4 P2.length k4]) P1 P2 := map_set2 hm10 g4
      simp only [frL, List.length_cons, List.length_nil, List.take_succ_cons, List.take_zero, Nat.reduceAdd, Nat.zero_add, List.setIfInBounds_toArray, List.set_cons_zero, List.set_cons_succ, e0, e1, e2, e3, e4, e5, e6, e7, e8, e9, e10, e11, List.length_cons, List.length_nil, List.drop_succ_cons, List.drop_zero]
      clear e0 e1 e2 e3 e4 e5 e6 e7 e8 e9 e10 e11 g1 g2
      go_wp2_with fail
      generalize (w4.setCell ⟨bX, 0, none⟩ (.slice a3 P1.length k3)).setCell ⟨bX, 1, none⟩ (.slice a4 P2.length k4) = w5 at E5 gX hM5 ⊢
      clear xX g4 E4
      obtain ⟨hn, hl⟩ := HN.out
      obtain ⟨m1, m2⟩ := HM.out
      have c0 := (blk2 (E5.heap B0'.out)).1
      have cO := (blk2 (E5.heap B0'.out)).2.1
      have cX0 := (blk2 gX).1
      have cX1 := (blk2 gX).2.1
      have hkO : k + 1 < O.length := by omega
      obtain ⟨_, _, he, _, _, _, hcO⟩ := seg_cells m2 (by omega)
      injection he with he; injection he with he1 he2
      subst he1; subst he2
      have y1 := (E0.trans E5).cell (hcO (k + 1) _ (cI_at0 O (k + 1) hkO))
      have y0 := (E0.trans E5).cell (hcO k _ (cI_at0 O k (by omega)))
      have HPL2 := hid (show pl C O C.length = if O[k + 1] = O[k] then (P1, P2) else (P1 ++ [kAt C k], P2 ++ [O[k + 1]]) by rw [HPL.out, show O.getD (k + 1) 0 = O[k + 1] by simp [hkO], show O.getD k 0 = O[k] by simp [show k < O.length by omega]])
      have HO1 := hid (show O.drop (k + 1) = [O[k + 1]] by rw [List.drop_eq_getElem_cons hkO, List.drop_of_length_le (by omega)])
      have hkC : k < C.length := by omega
      have HC1 := hid (show C.drop k = [C[k]] by rw [List.drop_eq_getElem_cons hkC, List.drop_of_length_le (by omega)])
      have HKA := hid (kAt_eq hkC)
      generalize O[k + 1] = z1 at y1 HPL2 HO1
      generalize O[k] = z0 at y0 HPL2
      rw [← hn] at y1
      have hb1 : C.length < O.length := by omega
      have hb2 : k < O.length := by omega
      have hMC := hid (by have q := seg_drop1 ((m1.ext E0).ext E5) (show k ≤ C.length by omega); rw [cS_drop, HC1.out] at q; rw [show C.length - k = 1 by omega] at q; exact q)
      have hMO := hid (by have q := seg_drop1 ((m2.ext E0).ext E5) (show k + 1 ≤ O.length by omega); rw [cI_drop, HO1.out] at q; rw [show O.length - (k + 1) = 1 by omega, ← hn] at q; exact q)
      have b1' := hid (E5.heap b1)
      have E05 := hid (E0.trans E5)
      have HM5 := hid hM5
      clear hn hl m1 m2 hcO hkO hM5 HO1 HC1
      by_cases hz : z1 = z0
      · have qz : (z1 == z0) = true := by simp [hz]
        have HP := hid (show pl C O C.length = (P1, P2) by rw [HPL2.out, if_pos hz])
        clear HPL2 hz
        go_wp2_with fail
        refine wp_region_ph [.k (.pointer (some ⟨w.heap.size, 1, none⟩)), .k (.slice (some ⟨bO, oO, none⟩) O.length k2), .k (.int .i64 C.length), .k (.pointer (some ⟨bO, oO + C.length, none⟩)), .k (.int .i64 z1), .k (.pointer (some ⟨w.heap.size, 1, none⟩)), .k (.slice (some ⟨bO, oO, none⟩) O.length k2), .k (.int .i64 C.length), .k (.int .i64 k), .k (.pointer (some ⟨bO, oO + k, none⟩)), .k (.int .i64 z0)] [] (by kernel_rfl) (by kernel_rfl) (by kernel_rfl) rfl rfl ?hs ?hC ?he
        case hC =>
          intro i hi
          simp at hi
        case hs =>
          refine ⟨?_, ?_, ?_, ?_, ?_, ?_, ?_, ?_, ?_, ?_, ?_, trivial⟩
          all_goals (
            intro x w' hE hd
            try simp [PhDeps, at_k, at_p, at_t, at_any, Region.binds] at hd
            try ((with_reducible refine Exists.elim hd ?_); clear hd; intro y hd; obtain ⟨hd, hG⟩ := hd)
            have f1 := hE.cell cO
            have f2 := hE.cell y1
            have f3 := hE.cell y0
            first | simp only [frL, List.length_cons, List.length_nil, List.take_succ_cons, List.take_zero, Nat.reduceAdd, Nat.zero_add, List.setIfInBounds_toArray, List.set_cons_zero, List.set_cons_succ, hd] | simp only [frL, List.length_cons, List.length_nil, List.take_succ_cons, List.take_zero, Nat.reduceAdd, Nat.zero_add, List.setIfInBounds_toArray, List.set_cons_zero, List.set_cons_succ]
            go_wp2
            all_goals first
              | ((with_reducible refine phK ?_ ?_); (focus rfl); (repeat (first | (with_reducible assumption) | (with_reducible exact Ext.refl _) | (with_reducible refine Ext.drew ?_) | (with_reducible refine Ext.drewN ?_ _) | (with_reducible refine Ext.alloc ?_ _) | (with_reducible refine Ext.trans ?_ (by with_reducible assumption)))))
              | ((with_reducible refine phT rfl hG ?_); (repeat (first | (with_reducible assumption) | (with_reducible exact Ext.refl _) | (with_reducible refine Ext.drew ?_) | (with_reducible refine Ext.drewN ?_ _) | (with_reducible refine Ext.alloc ?_ _) | (with_reducible refine Ext.trans ?_ (by with_reducible assumption)))))
              | ((with_reducible refine phU hG ?_); (repeat (first | (with_reducible assumption) | (with_reducible exact Ext.refl _) | (with_reducible refine Ext.drew ?_) | (with_reducible refine Ext.drewN ?_ _) | (with_reducible refine Ext.alloc ?_ _) | (with_reducible refine Ext.trans ?_ (by with_reducible assumption)))))
              | (with_reducible exact phBox hE)
              | (with_reducible exact phRow hE))
        case he =>
          intro x w6 E6 hd
          simp [PhEnd, at_k, at_p, at_t, at_any] at hd
          simp only [frL, List.length_cons, List.length_nil, List.take_succ_cons, List.take_zero, Nat.reduceAdd, Nat.zero_add, List.setIfInBounds_toArray, List.set_cons_zero, List.set_cons_succ, hd, List.length_cons, List.length_nil, List.drop_succ_cons, List.drop_zero]
          clear hd
          have gX6 := E6.heap gX
          have xX := blk2 gX6
          have gB6 := E6.heap b1'.out
          have xB := blk2 gB6
          have HR := hid (map_set2 (y0 := a3) (m0 := P1.length) (d0 := k3) (y1 := a4) (m1 := P2.length) (d1 := k4) (HM5.out.ext E6) gB6)
          have rB := blk2 (blk2_set2 gB6 (u := .slice a3 P1.length k3) (v := .slice a4 P2.length k4))
          have EE := hid (((E05.out.trans E6).setCell (p := ⟨w.heap.size + 1, 0, none⟩) (by show w.heap.size ≤ w.heap.size + 1; omega) (.slice a3 P1.length k3)).setCell (p := ⟨w.heap.size + 1, 1, none⟩) (by show w.heap.size ≤ w.heap.size + 1; omega) (.slice a4 P2.length k4))
          clear gX gB6 cX0 cX1 y1 y0 cO c0
          go_wp2
          exact bodyPost_ret (v := .agg #[.slice a3 P1.length k3, .slice a4 P2.length k4]) (by simp [results, Tryd.results42, go_sem, rB.1, rB.2.1]) rfl ⟨_, rfl, by rw [HP.out]; exact HR.out, EE.out⟩
      · have qz : (z1 == z0) = false := by simpa using hz
        have HP := hid (show pl C O C.length = (P1 ++ [kAt C k], P2 ++ [z1]) by rw [HPL2.out, if_neg hz])
        clear HPL2 hz
        go_wp2_with fail
        refine wp_region_ph [.k (.pointer (some ⟨w.heap.size, 1, none⟩)), .k (.slice (some ⟨bO, oO, none⟩) O.length k2), .k (.int .i64 C.length), .k (.pointer (some ⟨bO, oO + C.length, none⟩)), .k (.int .i64 z1), .k (.pointer (some ⟨w.heap.size, 1, none⟩)), .k (.slice (some ⟨bO, oO, none⟩) O.length k2), .k (.int .i64 C.length), .k (.int .i64 k), .k (.pointer (some ⟨bO, oO + k, none⟩)), .k (.int .i64 z0)] [] (by kernel_rfl) (by kernel_rfl) (by kernel_rfl) rfl rfl ?hs ?hC ?he
        case hC =>
          intro i hi
          simp at hi
        case hs =>
          refine ⟨?_, ?_, ?_, ?_, ?_, ?_, ?_, ?_, ?_, ?_, ?_, trivial⟩
          all_goals (
            intro x w' hE hd
            try simp [PhDeps, at_k, at_p, at_t, at_any, Region.binds] at hd
            try ((with_reducible refine Exists.elim hd ?_); clear hd; intro y hd; obtain ⟨hd, hG⟩ := hd)
            have f1 := hE.cell cO
            have f2 := hE.cell y1
            have f3 := hE.cell y0
            first | simp only [frL, List.length_cons, List.length_nil, List.take_succ_cons, List.take_zero, Nat.reduceAdd, Nat.zero_add, List.setIfInBounds_toArray, List.set_cons_zero, List.set_cons_succ, hd] | simp only [frL, List.length_cons, List.length_nil, List.take_succ_cons, List.take_zero, Nat.reduceAdd, Nat.zero_add, List.setIfInBounds_toArray, List.set_cons_zero, List.set_cons_succ]
            go_wp2
            all_goals first
              | ((with_reducible refine phK ?_ ?_); (focus rfl); (repeat (first | (with_reducible assumption) | (with_reducible exact Ext.refl _) | (with_reducible refine Ext.drew ?_) | (with_reducible refine Ext.drewN ?_ _) | (with_reducible refine Ext.alloc ?_ _) | (with_reducible refine Ext.trans ?_ (by with_reducible assumption)))))
              | ((with_reducible refine phT rfl hG ?_); (repeat (first | (with_reducible assumption) | (with_reducible exact Ext.refl _) | (with_reducible refine Ext.drew ?_) | (with_reducible refine Ext.drewN ?_ _) | (with_reducible refine Ext.alloc ?_ _) | (with_reducible refine Ext.trans ?_ (by with_reducible assumption)))))
              | ((with_reducible refine phU hG ?_); (repeat (first | (with_reducible assumption) | (with_reducible exact Ext.refl _) | (with_reducible refine Ext.drew ?_) | (with_reducible refine Ext.drewN ?_ _) | (with_reducible refine Ext.alloc ?_ _) | (with_reducible refine Ext.trans ?_ (by with_reducible assumption)))))
              | (with_reducible exact phBox hE)
              | (with_reducible exact phRow hE))
        case he =>
          intro x w6 E6 hd
          simp [PhEnd, at_k, at_p, at_t, at_any] at hd
          simp only [frL, List.length_cons, List.length_nil, List.take_succ_cons, List.take_zero, Nat.reduceAdd, Nat.zero_add, List.setIfInBounds_toArray, List.set_cons_zero, List.set_cons_succ, hd, List.length_cons, List.length_nil, List.drop_succ_cons, List.drop_zero]
          clear hd
          have q1 := E6.cell cX0
          have q2 := E6.cell cX1
          have q3 := E6.cell c0
          have q4 := E6.cell cO
          have hM6 := HM5.out.ext E6
          have hC6 := hMC.out.ext E6
          have hO6 := hMO.out.ext E6
          obtain ⟨_, _, e, S1, S3⟩ := hM6
          injection e with e; injection e with e; injection e with e1 e; injection e with e2 _
          subst e1; subst e2
          have S1 := hid S1
          have S2 := hid hC6
          have S3 := hid S3
          have S4 := hid hO6
          have hck : C.length - k = 1 := by have := HN.out.1; omega
          have hok : O.length - C.length = 1 := by have := HN.out.2; omega
          have hn1 : ¬ k1 = k := by omega
          have hn2 : ¬ k2 = C.length := by omega
          have hle3 : O.length ≤ k2 := by omega
          have hle4 : C.length ≤ k1 := by omega
          have gB6 := hid (E6.heap b1'.out)
          have E6' := hid (E05.out.trans E6)
          clear hC6 hO6 gX cX0 cX1 y1 y0 cO c0
          generalize C[k] = ck at *
          go_wp2_with fail
          refine wp_region_ph [.k (.pointer (some ⟨bX, 0, none⟩)), .k (.slice a3 P1.length k3), .k (.pointer (some ⟨w.heap.size, 0, none⟩)), .k (.slice (some ⟨bC, oC, none⟩) C.length k1), .k (.int .i64 C.length), .k (.int .i64 k), .k (.slice (some ⟨bC, oC + k, none⟩) 1 (k1 - k)), .p (RowAt w6 #[.slice a3 P1.length k3, .slice (some ⟨bC, oC + k, none⟩) 1 (k1 - k)] 26 2), .p (SegStr (P1 ++ [ck])), .k (.pointer (some ⟨bX, 1, none⟩)), .k (.slice a4 P2.length k4), .k (.pointer (some ⟨w.heap.size, 1, none⟩)), .k (.slice (some ⟨bO, oO, none⟩) O.length k2), .k (.int .i64 C.length), .k (.slice (some ⟨bO, oO + C.length, none⟩) 1 (k2 - C.length)), .p (RowAt w6 #[.slice a4 P2.length k4, .slice (some ⟨bO, oO + C.length, none⟩) 1 (k2 - C.length)] 22 2), .p (SegInt (P2 ++ [z1]))] [] (by kernel_rfl) (by kernel_rfl) (by kernel_rfl) rfl rfl ?hs ?hC ?he
          case hC =>
            intro i hi
            simp at hi
          case hs =>
            refine ⟨?_, ?_, ?_, ?_, ?_, ?_, ?_, ?_, ?_, ?_, ?_, ?_, ?_, ?_, ?_, ?_, ?_, trivial⟩
            all_goals (
              intro x w' hE hd
              try simp [PhDeps, at_k, at_p, at_t, at_any, Region.binds] at hd
              try ((with_reducible refine Exists.elim hd ?_); clear hd; intro y hd; obtain ⟨hd, hG⟩ := hd)
              have f0 := hE.cell q1
              have f1 := hE.cell q2
              have f2 := hE.cell q3
              have f3 := hE.cell q4
              try (obtain ⟨u1, g1, g2, bR, hx, hlt, hbk⟩ := hd; replace hbk := g2.heap hbk; clear g1 g2; simp only [hx])
              try (obtain ⟨⟨u1, g1, g2, bR, hx, hlt, hbk⟩, _⟩ := hd; replace hbk := g2.heap hbk; clear g1 g2; simp only [hx])
              first | simp only [frL, List.length_cons, List.length_nil, List.take_succ_cons, List.take_zero, Nat.reduceAdd, Nat.zero_add, List.setIfInBounds_toArray, List.set_cons_zero, List.set_cons_succ, hd] | simp only [frL, List.length_cons, List.length_nil, List.take_succ_cons, List.take_zero, Nat.reduceAdd, Nat.zero_add, List.setIfInBounds_toArray, List.set_cons_zero, List.set_cons_succ]
              go_wp2_with (first | (go_at_call 38; refine (concat2S bR _ _ P1 [ck] w' hbk (S1.out.ext hE) (S2.out.ext hE) (by simp; omega)).mono ?_; rintro e wa ⟨v9, rfl, ho9, hea⟩) | (go_at_call 34; refine (concat2I bR _ _ P2 [z1] w' hbk (S3.out.ext hE) (S4.out.ext hE) (by simp; have := HP2.out; omega)).mono ?_; rintro e wa ⟨v9, rfl, ho9, hea⟩))
              all_goals first
                | ((with_reducible refine phK ?_ ?_); (focus rfl); (repeat (first | (with_reducible assumption) | (with_reducible exact Ext.refl _) | (with_reducible refine Ext.drew ?_) | (with_reducible refine Ext.drewN ?_ _) | (with_reducible refine Ext.alloc ?_ _) | (with_reducible refine Ext.trans ?_ (by with_reducible assumption)))))
                | (exact phN (show SegStr _ _ _ from own_seg ho9) hE hea)
                | (exact phN (show SegInt _ _ _ from own_seg ho9) hE hea)
                | ((with_reducible refine phT rfl hG ?_); (repeat (first | (with_reducible assumption) | (with_reducible exact Ext.refl _) | (with_reducible refine Ext.drew ?_) | (with_reducible refine Ext.drewN ?_ _) | (with_reducible refine Ext.alloc ?_ _) | (with_reducible refine Ext.trans ?_ (by with_reducible assumption)))))
                | ((with_reducible refine phU hG ?_); (repeat (first | (with_reducible assumption) | (with_reducible exact Ext.refl _) | (with_reducible refine Ext.drew ?_) | (with_reducible refine Ext.drewN ?_ _) | (with_reducible refine Ext.alloc ?_ _) | (with_reducible refine Ext.trans ?_ (by with_reducible assumption)))))
                | (with_reducible exact phBox hE)
                | (with_reducible exact phRow hE))
          case he =>
            intro x w7 E7 hd
            simp [PhEnd, at_k, at_p] at hd
            obtain ⟨e0, e1, e2, e3, e4, e5, e6, ⟨u7, _, _, b7, e7, _, _⟩, ⟨u8, _, g8, s8⟩, e9, e10, e11, e12, e13, e14, ⟨u15, _, _, b15, e15, _, _⟩, ⟨u16, _, g16, s16⟩⟩ := hd
            have s8 : Seg w7 (x 8) 1 (P1 ++ [ck]).length (cS (P1 ++ [ck])) := Seg.ext s8 g8
            have s16 : Seg w7 (x 16) 1 (P2 ++ [z1]).length (cI (P2 ++ [z1])) := Seg.ext s16 g16
            obtain ⟨a8, c8, e8⟩ := seg_form s8
            obtain ⟨a16, c16, e16⟩ := seg_form s16
            rw [e8] at s8
            rw [e16] at s16
            obtain ⟨n8, hn8⟩ : ∃ n8, (P1 ++ [ck]).length = n8 := ⟨_, rfl⟩
            obtain ⟨n16, hn16⟩ : ∃ n16, (P2 ++ [z1]).length = n16 := ⟨_, rfl⟩
            rw [hn8] at e8
            rw [hn16] at e16
            simp only [frL, List.length_cons, List.length_nil, List.take_succ_cons, List.take_zero, Nat.reduceAdd, Nat.zero_add, List.setIfInBounds_toArray, List.set_cons_zero, List.set_cons_succ, e0, e1, e2, e3, e4, e5, e6, e7, e8, e9, e10, e11, e12, e13, e14, e15, e16, List.length_cons, List.length_nil, List.drop_succ_cons, List.drop_zero]
            clear e0 e1 e2 e3 e4 e5 e6 e7 e8 e9 e10 e11 e12 e13 e14 e15 e16 g8 g16 q1 q2 q3 q4
            have gB7 := E7.heap gB6.out
            have xB := blk2 gB7
            have hM7 : IsMap w7 (.agg #[.slice a8 n8 c8, .slice a16 n16 c16]) (P1 ++ [ck]) (P2 ++ [z1]) := ⟨_, _, rfl, by rw [← hn8]; exact s8, by rw [← hn16]; exact s16⟩
            have HR := hid (map_set2 (y0 := a8) (m0 := n8) (d0 := c8) (y1 := a16) (m1 := n16) (d1 := c16) hM7 gB7)
            have rB := blk2 (blk2_set2 gB7 (u := .slice a8 n8 c8) (v := .slice a16 n16 c16))
            have EE := hid (((E6'.out.trans E7).setCell (p := ⟨w.heap.size + 1, 0, none⟩) (by show w.heap.size ≤ w.heap.size + 1; omega) (.slice a8 n8 c8)).setCell (p := ⟨w.heap.size + 1, 1, none⟩) (by show w.heap.size ≤ w.heap.size + 1; omega) (.slice a16 n16 c16))
            clear s8 s16 hn8 hn16 gB7 hM7 hck hok
            go_wp2
            exact bodyPost_ret (v := .agg #[.slice a8 n8 c8, .slice a16 n16 c16]) (by simp [results, Tryd.results42, go_sem, rB.1, rB.2.1]) rfl ⟨_, rfl, by rw [HP.out, HKA.out]; exact HR.out, EE.out⟩
end Go.Proofs.YtghemmmkbpfdhaaDoor
