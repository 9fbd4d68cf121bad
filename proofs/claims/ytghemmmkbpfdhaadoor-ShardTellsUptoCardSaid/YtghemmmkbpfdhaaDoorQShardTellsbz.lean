/- Contracts and lemmas for the proof of ShardTells; each theorem states its own conditions. -/
import Derived.Test.YtghemmmkbpfdhaaDoorQShardTellsbb
import Derived.Test.YtghemmmkbpfdhaaDoorQShardTellsbe
import Derived.Test.YtghemmmkbpfdhaaDoorQShardTellsbw
import Derived.Test.YtghemmmkbpfdhaaDoorQShardTellsbg
import Derived.Test.YtghemmmkbpfdhaaDoorQShardTellsbx
import Derived.Test.YtghemmmkbpfdhaaDoorQShardTellsby
set_option linter.unusedVariables false
set_option linter.unusedSimpArgs false
/- Contracts and lemmas for the proofs of this seat; each theorem states its own conditions. -/
namespace Go.Proofs.YtghemmmkbpfdhaaDoor
open Go.RowKit Go.Maps
/-! ShardTells: whatever is handed in -/
theorem sameB_self (c : List ByteArray) (o : List Int) : sameB c c o o = true := by simp [sameB]
def ownF (C : List ByteArray) (O : List Int) (n : Int) (f : ByteArray → Option Int) : ByteArray → Option Int := fun x => if whose C O x = n then f x else none
def SegPr (l : Prs) (v : Value) (w : World) : Prop := Seg w v 2 l.length (cP l)
def OfM (n : Nat) (f : ByteArray → Option Int) (v : Value) (w : World) : Prop := ∃ bm, v = .map (some bm) ∧ ∃ Dm, w.ownsMap Tryd.prog 9 (plainElem Tryd.prog 3) bm n Dm ∧ MapF kS okS dI Dm f
def OwM (n : Nat) (f : ByteArray → Option Int) (v : Value) (w : World) : Prop := ∃ b', v = .map (some b') ∧ ∃ n' D', w.ownsMap Tryd.prog 9 (plainElem Tryd.prog 3) b' n' D' ∧ MapF kS okS dI D' f ∧ n' ≤ n
def MapV (C : List ByteArray) (O : List Int) (v : Value) (w : World) : Prop := IsMap w v C O
theorem mapV_now {w0 w' : World} {C : List ByteArray} {O : List Int} {v : Value} (h : Up w0 w' (MapV C O v)) : IsMap w' v C O := by
  obtain ⟨u, _, g, k⟩ := h
  exact IsMap.ext k g
theorem segPr_now {w0 w' : World} {l : Prs} {v : Value} (h : Up w0 w' (SegPr l v)) : Seg w' v 2 l.length (cP l) := by
  obtain ⟨u, _, g, k⟩ := h
  exact Seg.ext k g
theorem ofM_now {w0 w' : World} {n : Nat} {f : ByteArray → Option Int} {v : Value} (h : Up w0 w' (OfM n f v)) : ∃ bm Dm, v = .map (some bm) ∧ w'.ownsMap Tryd.prog 9 (plainElem Tryd.prog 3) bm n Dm ∧ MapF kS okS dI Dm f := by
  obtain ⟨u, _, g, bm, e, Dm, h1, h2⟩ := h
  exact ⟨bm, Dm, e, ownsMap_ext h1 g, h2⟩
theorem owM_now {w0 w' : World} {n : Nat} {f : ByteArray → Option Int} {v : Value} (h : Up w0 w' (OwM n f v)) : ∃ b' n' D', v = .map (some b') ∧ w'.ownsMap Tryd.prog 9 (plainElem Tryd.prog 3) b' n' D' ∧ MapF kS okS dI D' f ∧ n' ≤ n := by
  obtain ⟨u, _, g, b', e, n', D', h1, h2, h3⟩ := h
  exact ⟨b', n', D', e, ownsMap_ext h1 g, h2, h3⟩
theorem ofM_elim {G : Prop} {w0 w' : World} {n : Nat} {f : ByteArray → Option Int} {v : Value} (h : Up w0 w' (OfM n f v)) (k : ∀ bm Dm, v = .map (some bm) → Hid (w'.ownsMap Tryd.prog 9 (plainElem Tryd.prog 3) bm n Dm ∧ MapF kS okS dI Dm f) → G) : G := by
  obtain ⟨bm, Dm, e, h1, h2⟩ := ofM_now h
  exact k bm Dm e (hid ⟨h1, h2⟩)
theorem owM_elim {G : Prop} {w0 w' : World} {n : Nat} {f : ByteArray → Option Int} {v : Value} (h : Up w0 w' (OwM n f v)) (k : ∀ b' n' D', n' ≤ n → v = .map (some b') → Hid (w'.ownsMap Tryd.prog 9 (plainElem Tryd.prog 3) b' n' D' ∧ MapF kS okS dI D' f) → G) : G := by
  obtain ⟨b', n', D', e, h1, h2, h3⟩ := owM_now h
  exact k b' n' D' h3 e (hid ⟨h1, h2⟩)
theorem segPr_of {w : World} {B e : Nat} {l m : Prs} {v : Value} (h : l = m) (k : w.ownsRow B e 2 v m.length (cP m)) : SegPr l v w := by
  subst h; exact own_seg k
theorem own_part {C : List ByteArray} {O : List Int} {l : Prs} (h : StoreOk l) (n : Int) (x : ByteArray) : valP (partP C O l n) x = atF (ownF C O n (ofF l l.length)) x := by
  have e := of_val h l.length (Nat.le_refl _) x
  rw [List.take_length] at e
  unfold partP ownF atF
  rw [val_filter h.srt]
  dsimp only
  by_cases q : whose C O x = n
  · rw [if_pos (by simp [q]), if_pos q]; exact e.symm
  · rw [if_neg (by simp [q]), if_neg q]; rfl
def litC : List ByteArray := [⟨#[98]⟩]
def litO : List Int := [2, 2]
theorem tells_lit : mapErr litC litO = 0 ∧ (pl litC litO litC.length).1 = [] ∧ (pl litC litO litC.length).2 = [2] := by decide +kernel
set_option maxRecDepth 100000 in
set_option maxHeartbeats 16000000 in
theorem stells_walk (va vb vl : Value) (C C2 : List ByteArray) (O O2 : List Int) (l : Prs) (owner : Int) (w : World) (ha : IsMap w va C O) (hb : IsMap w vb C2 O2) (hl : Seg w vl 2 l.length (cP l)) (hw : PrsW l) (sC : StrW C) (sC2 : StrW C2) (hlen : l.length ≤ 900000) :
    Calls Tryd.prog 6 #[va, vb, vl, .int .i64 owner] w fun e w' => e = .returned (.bool true) ∧ Ext w w' := by
  have sk : ∀ p ∈ l, p.1.size ≤ 9223372036854775807 := fun p hp => by have := (hw p hp).1; unfold maxLen at this; omega
  have sc : ∀ k ∈ C, k.size ≤ 9223372036854775807 := fun k hk => by have := sC k hk; unfold maxLen at this; omega
  have sc2 : ∀ k ∈ C2, k.size ≤ 9223372036854775807 := fun k hk => by have := sC2 k hk; unfold maxLen at this; omega
  obtain ⟨a1, k1, a2, k2, rfl, _, _⟩ := ha.unpack
  obtain ⟨a3, k3, a4, k4, rfl, _, _⟩ := hb.unpack
  obtain ⟨al, cl, rfl⟩ := seg_form hl
  have h0 := heap_1 w (.cells #[.slice a1 C.length k1, .slice a2 O.length k2] 28) (.cells #[.slice a3 C2.length k3, .slice a4 O2.length k4] 28)
  have h1 := heap_2 w (.cells #[.slice a1 C.length k1, .slice a2 O.length k2] 28) (.cells #[.slice a3 C2.length k3, .slice a4 O2.length k4] 28)
  have E0 := ((Ext.refl w).alloc (.cells #[.slice a1 C.length k1, .slice a2 O.length k2] 28)).alloc (.cells #[.slice a3 C2.length k3, .slice a4 O2.length k4] 28)
  obtain ⟨w0, hw0⟩ : ∃ w0, (w.alloc (.cells #[.slice a1 C.length k1, .slice a2 O.length k2] 28)).alloc (.cells #[.slice a3 C2.length k3, .slice a4 O2.length k4] 28) = w0 := ⟨_, rfl⟩
  rw [hw0] at h0 h1 E0
  have HA := hid h0
  have HB := hid h1
  have IA := hid (fun w' (q : Ext w0 w') => ha.ext (E0.trans q))
  have IB := hid (fun w' (q : Ext w0 w') => hb.ext (E0.trans q))
  have IL := hid (fun w' (q : Ext w0 w') => hl.ext (E0.trans q))
  have xa := blk2 h0
  have PA := hid (plain_all _ C O w0 (ha.ext E0) sc)
  clear ha hb hl h0 h1
  go_enter Tryd.func6, Tryd.ntmps6
  go_wp2_with fail
  refine (PA.out).mono ?_
  clear PA
  rintro e w1 ⟨v', P1, P2, rfl, hm1, hq1, hq2, E1⟩
  have HP0 := hid hq1
  have HPn := hid hq2
  obtain ⟨p1, c1, p2, c2, rfl, _, _⟩ := hm1.unpack
  have EP := (Ext.refl w1).alloc (.cells #[.slice p1 P1.length c1, .slice p2 P2.length c2] 28)
  have bp := hid (heap_alloc_new w1 (.cells #[.slice p1 P1.length c1, .slice p2 P2.length c2] 28))
  obtain ⟨w2, hw2⟩ : ∃ w2, w1.alloc (.cells #[.slice p1 P1.length c1, .slice p2 P2.length c2] 28) = w2 := ⟨_, rfl⟩
  obtain ⟨bp1, hbp1⟩ : ∃ bp1, w1.heap.size = bp1 := ⟨_, rfl⟩
  rw [hw2] at EP bp
  rw [hbp1] at bp
  have IP := hid (fun w' (q : Ext w2 w') => (hm1.ext EP).ext q)
  replace E1 := E1.trans EP
  have xa := blk2 (E1.heap HA.out)
  have xb := blk2 (E1.heap HB.out)
  have SM := hid (same_all _ _ C C2 O O2 w2 (IA.out _ E1) (IB.out _ E1) sc sc2)
  clear hm1 hq1 hq2 EP
  go_wp2_with fail
  refine (SM.out).mono ?_
  clear SM hw0 hw2 hbp1
  rintro e w3 ⟨rfl, E3⟩
  have IP3 := hid (fun w' (q : Ext w3 w') => IP.out _ (E3.trans q))
  have bp3 := hid (E3.heap bp.out)
  replace E3 := E1.trans E3
  have xa := blk2 (E3.heap HA.out)
  have PT := hid (part_all _ _ C O l owner w3 (IA.out _ E3) sc (IL.out _ E3) sk (by omega))
  clear xb IP bp E1
  go_wp2_with fail
  refine (PT.out).mono ?_
  clear PT
  rintro e w4 ⟨vx, L, rfl, ox, hq1, hq2, E4⟩
  have HL0 := hid hq1
  have HLn := hid hq2
  obtain ⟨ax, cx, rfl⟩ := own_form ox
  have SX := hid (fun w' (q : Ext w4 w') => (own_seg ox).ext q)
  have IP4 := hid (fun w' (q : Ext w4 w') => IP3.out _ (E4.trans q))
  have bp4 := hid (E4.heap bp3.out)
  replace E4 := E3.trans E4
  have g1 := heap_1 w4 (.cells #[.string ⟨#[98]⟩] 9) (.cells #[.int .i64 2, .int .i64 2] 3)
  have g2 := heap_2 w4 (.cells #[.string ⟨#[98]⟩] 9) (.cells #[.int .i64 2, .int .i64 2] 3)
  have E5 := ((Ext.refl w4).alloc (.cells #[.string ⟨#[98]⟩] 9)).alloc (.cells #[.int .i64 2, .int .i64 2] 3)
  have ML : IsMap ((w4.alloc (.cells #[.string ⟨#[98]⟩] 9)).alloc (.cells #[.int .i64 2, .int .i64 2] 3)) (.agg #[.slice (some ⟨w4.heap.size, 0, none⟩) 1 1, .slice (some ⟨w4.heap.size + 1, 0, none⟩) 2 2]) litC litO :=
    ⟨_, _, rfl, seg_blk (xs := cS litC) g1 rfl (Nat.le_refl _) (by simp [maxLen, litC]), seg_blk (xs := cI litO) g2 rfl (Nat.le_refl _) (by simp [maxLen, litO])⟩
  have PL := plain_ok _ litC litO _ ML (by intro k hk; simp [litC] at hk; subst hk; decide) (mapOk_of tells_lit.1)
  rw [tells_lit.2.1, tells_lit.2.2] at PL
  have PL := hid PL
  clear xa ox hq1 hq2 IP3 bp3 E3 g1 g2 ML
  go_wp2_with fail
  refine (PL.out).mono ?_
  clear PL
  rintro e w5 ⟨vy, rfl, hmy, E6⟩
  obtain ⟨y1, d1, y2, d2, rfl, _, _⟩ := hmy.is.unpack
  have g1 := heap_1 w5 (.cells #[.slice y1 0 d1, .slice y2 1 d2] 28) (.cells #[.int .i64 2] 3)
  have g2 := heap_2 w5 (.cells #[.slice y1 0 d1, .slice y2 1 d2] 28) (.cells #[.int .i64 2] 3)
  have E7 := ((Ext.refl w5).alloc (.cells #[.slice y1 0 d1, .slice y2 1 d2] 28)).alloc (.cells #[.int .i64 2] 3)
  have SL := sameMap_any _ (.agg #[.slice none 0 0, .slice (some ⟨w5.heap.size + 1, 0, none⟩) 1 1]) [] [] [2] [2] _ (hmy.is.ext E7) ⟨_, _, rfl, Seg.nil _ _, seg_blk (xs := cI [2]) g2 rfl (Nat.le_refl _) (by simp [maxLen])⟩
  rw [sameB_self] at SL
  have SL := hid SL
  have g3 := blk2 (heap_alloc_new w5 (.cells #[.slice y1 0 d1, .slice y2 1 d2] 28))
  replace E7 := E5.trans (E6.trans E7)
  have SX7 := hid (fun w' (q : Ext _ w') => SX.out w' (E7.trans q))
  have IP7 := hid (fun w' (q : Ext _ w') => IP4.out w' (E7.trans q))
  have bp7 := hid (E7.heap bp4.out)
  replace E7 := E4.trans E7
  clear hmy E5 E6 g1 g2 SX IP4 bp4 E4
  go_wp2_with fail
  refine (SL.out).mono ?_
  clear SL
  rintro e w6 ⟨rfl, E8⟩
  have SX8 := hid (fun w' (q : Ext w6 w') => SX7.out w' (E8.trans q))
  have IP8 := hid (fun w' (q : Ext w6 w') => IP7.out w' (E8.trans q))
  have bp8 := hid (E8.heap bp7.out)
  replace E8 := E7.trans E8
  have xa := blk2 (E8.heap HA.out)
  have RM := hid (rmap_any _ C O w6 (IA.out _ E8) sc)
  clear SX7 IP7 bp7 E7 g3
  go_wp2_with fail
  refine (RM.out).mono ?_
  clear RM
  rintro e w7 ⟨rfl, E9⟩
  have SX9 := hid (fun w' (q : Ext w7 w') => SX8.out w' (E9.trans q))
  have IP9 := hid (fun w' (q : Ext w7 w') => IP8.out w' (E9.trans q))
  have bp9 := hid (E9.heap bp8.out)
  replace E9 := E8.trans E9
  clear SX8 IP8 bp8 E8 xa
  have HSE := hid (show sameE C C2 O O2 = if mapErr C O ≠ 0 then mapErr C O else mapErr C2 O2 from rfl)
  have HSV := hid (show sameV C C2 O O2 = if sameE C C2 O O2 = 0 then sameB (pl C O C.length).1 (pl C2 O2 C2.length).1 (pl C O C.length).2 (pl C2 O2 C2.length).2 else false from rfl)
  have HPE := hid (show partE C O l owner = if mapErr C O ≠ 0 then mapErr C O else if storeErr l ≠ 0 then storeErr l else if owner < 0 ∨ 4 ≤ owner then 1 else 0 from rfl)
  generalize sameV C C2 O O2 = sv at HSV ⊢
  generalize sameE C C2 O O2 = se at HSE HSV ⊢
  generalize partE C O l owner = pe at HPE HL0 HLn ⊢
  by_cases hA : mapErr C O = 0
  · have okM := mapOk_of hA
    have hP := HP0.out hA
    have hse : se = mapErr C2 O2 := by rw [HSE.out, if_neg (by simp [hA])]
    have HPE2 := hid (show pe = if storeErr l ≠ 0 then storeErr l else if owner < 0 ∨ 4 ≤ owner then 1 else 0 by rw [HPE.out, if_neg (by simp [hA])])
    subst hse
    rw [hA]
    have RPA := hid (fun w' (q : Ext w7 w') => (by
      have h := rplain_any C.length _ C O w' rfl (IA.out _ (E9.trans q)) okM.len okM.few
      rw [← hP.1, ← hP.2] at h; exact h : Calls Tryd.prog 42 #[.agg #[.slice a1 C.length k1, .slice a2 O.length k2]] w' fun e w'' => ∃ v', e = .returned v' ∧ IsMap w'' v' P1 P2 ∧ Ext w' w''))
    have HPL := hid hP
    have xa := blk2 (E9.heap HA.out)
    have xp := blk2 bp9.out
    clear HP0 HPn hA hP HPE HSE
    go_wp2_with fail
    refine wp_region_ph [.k (.int .i64 0), .k (.bool false), .k (.bool false), .k (.agg #[.slice p1 P1.length c1, .slice p2 P2.length c2]), .k (.agg #[.slice a1 C.length k1, .slice a2 O.length k2]), .p (MapV P1 P2), .k (.bool true)] [] (by kernel_rfl) (by kernel_rfl) (by kernel_rfl) rfl rfl ?hs ?hC ?he
    case hC =>
      intro i hi
      simp at hi
    case hs =>
      refine ⟨?_, ?_, ?_, ?_, ?_, ?_, ?_, trivial⟩
      all_goals (
        intro x w' hE hd
        try simp [PhDeps, at_k, at_p, at_t, at_any, Region.binds] at hd
        try ((with_reducible refine Exists.elim hd ?_); clear hd; intro y hd; obtain ⟨hd, hG⟩ := hd)
        have f0 := hE.cell xa.1
        have f1 := hE.cell xa.2.1
        have f2 := hE.cell xp.1
        have f3 := hE.cell xp.2.1
        try (have hm5 := mapV_now (w0 := w7) (C := P1) (O := P2) hd.2.1)
        first | simp only [frL, List.length_cons, List.length_nil, List.take_succ_cons, List.take_zero, Nat.reduceAdd, Nat.zero_add, List.setIfInBounds_toArray, List.set_cons_zero, List.set_cons_succ, hd] | simp only [frL, List.length_cons, List.length_nil, List.take_succ_cons, List.take_zero, Nat.reduceAdd, Nat.zero_add, List.setIfInBounds_toArray, List.set_cons_zero, List.set_cons_succ]
        go_wp2_with (first | (go_at_call 42; refine (RPA.out _ hE).mono ?_; rintro e wa ⟨v9, rfl, hm9, hea⟩) | (go_at_call 33; have QS := sameMap_any _ _ P1 P1 P2 P2 w' (IP9.out _ hE) hm5; rw [sameB_self] at QS; refine QS.mono ?_; rintro e wa ⟨rfl, hea⟩))
        all_goals first
          | ((with_reducible refine phK ?_ ?_); (focus rfl); (repeat (first | (with_reducible assumption) | (with_reducible exact Ext.refl _) | (with_reducible refine Ext.drew ?_) | (with_reducible refine Ext.drewN ?_ _) | (with_reducible refine Ext.alloc ?_ _) | (with_reducible refine Ext.trans ?_ (by with_reducible assumption)))))
          | (exact phN (show MapV _ _ _ _ from hm9) hE hea)
          | ((with_reducible refine phT rfl hG ?_); (repeat (first | (with_reducible assumption) | (with_reducible exact Ext.refl _) | (with_reducible refine Ext.drew ?_) | (with_reducible refine Ext.drewN ?_ _) | (with_reducible refine Ext.alloc ?_ _) | (with_reducible refine Ext.trans ?_ (by with_reducible assumption)))))
          | ((with_reducible refine phU hG ?_); (repeat (first | (with_reducible assumption) | (with_reducible exact Ext.refl _) | (with_reducible refine Ext.drew ?_) | (with_reducible refine Ext.drewN ?_ _) | (with_reducible refine Ext.alloc ?_ _) | (with_reducible refine Ext.trans ?_ (by with_reducible assumption)))))
          | (with_reducible exact phBox hE)
          | (with_reducible exact phRow hE))
    case he =>
      intro x wb Eb hd
      simp [PhEnd, at_k, at_p] at hd
      have e0 := hd.1
      have e1 := hd.2.1
      have e2 := hd.2.2.1
      have e3 := hd.2.2.2.1
      have e4 := hd.2.2.2.2.1
      have e6 := hd.2.2.2.2.2.2
      clear hd
      simp only [frL, List.length_cons, List.length_nil, List.take_succ_cons, List.take_zero, Nat.reduceAdd, Nat.zero_add, List.setIfInBounds_toArray, List.set_cons_zero, List.set_cons_succ, e0, e1, e2, e3, e4, e6, List.length_cons, List.length_nil, List.drop_succ_cons, List.drop_zero]
      clear e0 e1 e2 e3 e4 e6
      have EA := Eb
      have SXb := hid (fun w' (q : Ext wb w') => SX9.out w' (Eb.trans q))
      have EB := E9.trans Eb
      have xa := blk2 (EB.heap HA.out)
      have xb := blk2 (EB.heap HB.out)
      have RM2 := hid (rmap_any _ C2 O2 wb (IB.out _ EB) sc2)
      clear SX9 IP9 bp9 xp
      go_wp2_with fail
      refine (RM2.out).mono ?_
      clear RM2
      rintro e wc ⟨rfl, EC⟩
      have SXc := hid (fun w' (q : Ext wc w') => SXb.out w' (EC.trans q))
      replace EA := EA.trans EC
      replace EC := EB.trans EC
      clear SXb EB xa xb
      by_cases hB : mapErr C2 O2 = 0
      · have okM2 := mapOk_of hB
        have hsv := HSV.out
        rw [if_pos hB, ← HPL.out.1, ← HPL.out.2] at hsv
        rw [hB]
        have RPB := hid (fun w' (q : Ext wc w') => rplain_any C2.length _ C2 O2 w' rfl (IB.out _ (EC.trans q)) okM2.len okM2.few)
        generalize (pl C2 O2 C2.length).1 = Q1 at hsv RPB
        generalize (pl C2 O2 C2.length).2 = Q2 at hsv RPB
        obtain ⟨sb, hsb⟩ : ∃ sb, sameB P1 Q1 P2 Q2 = sb := ⟨_, rfl⟩
        rw [hsb] at hsv
        subst hsv
        have HSB := hid hsb
        have qs : (sv != sv) = false := by simp
        have xa := blk2 (EC.heap HA.out)
        have xb := blk2 (EC.heap HB.out)
        clear hB hsb HSV
        go_wp2_with fail
        refine wp_region_ph [.k (.int .i64 0), .k (.bool false), .k (.bool false), .k (.bool sv), .k (.agg #[.slice a1 C.length k1, .slice a2 O.length k2]), .p (MapV P1 P2), .k (.agg #[.slice a3 C2.length k3, .slice a4 O2.length k4]), .p (MapV Q1 Q2), .k (.bool sv)] [] (by kernel_rfl) (by kernel_rfl) (by kernel_rfl) rfl rfl ?hs ?hC ?he
        case hC =>
          intro i hi
          simp at hi
        case hs =>
          refine ⟨?_, ?_, ?_, ?_, ?_, ?_, ?_, ?_, ?_, trivial⟩
          all_goals (
            intro x w' hE hd
            try simp [PhDeps, at_k, at_p, at_t, at_any, Region.binds] at hd
            try ((with_reducible refine Exists.elim hd ?_); clear hd; intro y hd; obtain ⟨hd, hG⟩ := hd)
            have f0 := hE.cell xa.1
            have f1 := hE.cell xa.2.1
            have f2 := hE.cell xb.1
            have f3 := hE.cell xb.2.1
            try (have hm5 := mapV_now (w0 := wc) (C := P1) (O := P2) hd.1; have hm7 := mapV_now (w0 := wc) (C := Q1) (O := Q2) hd.2.1)
            first | simp only [frL, List.length_cons, List.length_nil, List.take_succ_cons, List.take_zero, Nat.reduceAdd, Nat.zero_add, List.setIfInBounds_toArray, List.set_cons_zero, List.set_cons_succ, hd] | simp only [frL, List.length_cons, List.length_nil, List.take_succ_cons, List.take_zero, Nat.reduceAdd, Nat.zero_add, List.setIfInBounds_toArray, List.set_cons_zero, List.set_cons_succ]
            go_wp2_with (first | (go_at_call 42; with_reducible refine (RPA.out _ (EA.trans hE)).mono ?_; rintro e wa ⟨v9, rfl, hm9, hea⟩) | (go_at_call 42; with_reducible refine (RPB.out _ hE).mono ?_; rintro e wa ⟨v9, rfl, hm9, hea⟩) | (go_at_call 33; have QS := sameMap_any _ _ P1 Q1 P2 Q2 w' hm5 hm7; rw [HSB.out] at QS; refine QS.mono ?_; rintro e wa ⟨rfl, hea⟩))
            all_goals first
              | ((with_reducible refine phK ?_ ?_); (focus rfl); (repeat (first | (with_reducible assumption) | (with_reducible exact Ext.refl _) | (with_reducible refine Ext.drew ?_) | (with_reducible refine Ext.drewN ?_ _) | (with_reducible refine Ext.alloc ?_ _) | (with_reducible refine Ext.trans ?_ (by with_reducible assumption)))))
              | (exact phN (show MapV _ _ _ _ from hm9) hE hea)
              | ((with_reducible refine phT rfl hG ?_); (repeat (first | (with_reducible assumption) | (with_reducible exact Ext.refl _) | (with_reducible refine Ext.drew ?_) | (with_reducible refine Ext.drewN ?_ _) | (with_reducible refine Ext.alloc ?_ _) | (with_reducible refine Ext.trans ?_ (by with_reducible assumption)))))
              | ((with_reducible refine phU hG ?_); (repeat (first | (with_reducible assumption) | (with_reducible exact Ext.refl _) | (with_reducible refine Ext.drew ?_) | (with_reducible refine Ext.drewN ?_ _) | (with_reducible refine Ext.alloc ?_ _) | (with_reducible refine Ext.trans ?_ (by with_reducible assumption)))))
              | (with_reducible exact phBox hE)
              | (with_reducible exact phRow hE))
        case he =>
          intro x wt Et hd
          simp [PhEnd, at_k, at_p] at hd
          have e0 := hd.1
          have e1 := hd.2.1
          have e2 := hd.2.2.1
          have e3 := hd.2.2.2.1
          have e4 := hd.2.2.2.2.1
          have e6 := hd.2.2.2.2.2.2.1
          have e8 := hd.2.2.2.2.2.2.2.2
          clear hd
          simp only [frL, List.length_cons, List.length_nil, List.take_succ_cons, List.take_zero, Nat.reduceAdd, Nat.zero_add, List.setIfInBounds_toArray, List.set_cons_zero, List.set_cons_succ, e0, e1, e2, e3, e4, e6, e8, List.length_cons, List.length_nil, List.drop_succ_cons, List.drop_zero]
          clear e0 e1 e2 e3 e4 e6 e8
          have SXt := hid (fun w' (q : Ext wt w') => SXc.out w' (Et.trans q))
          have ET := EC.trans Et
          clear SXc EC EA Et xa xb RPA RPB
          have RS := hid (rstore_any _ l wt (IL.out _ ET) sk)
          go_wp2_with fail
          refine (RS.out).mono ?_
          clear RS
          rintro e ws ⟨rfl, ES⟩
          have SXs := hid (fun w' (q : Ext ws w') => SXt.out w' (ES.trans q))
          replace ES := ET.trans ES
          clear SXt ET
          by_cases hs : storeErr l = 0
          · rw [hs]
            by_cases ho : owner < 0 ∨ 4 ≤ owner
            · have hpe : pe = 1 := by rw [HPE2.out, if_neg (by simp [hs]), if_pos ho]
              subst hpe
              have hL := HLn.out (by decide)
              subst hL
              clear HPE2 HL0 HLn hs
              by_cases hn : owner < 0
              · clear ho
                go_wp2
                go_ret
                exact ⟨rfl, E0.trans ES⟩
              · have hn4 : owner > 3 := by omega
                clear ho
                go_wp2
                go_ret
                exact ⟨rfl, E0.trans ES⟩
            · have hpe : pe = 0 := by rw [HPE2.out, if_neg (by simp [hs]), if_neg ho]
              subst hpe
              have hL := HL0.out rfl
              subst hL
              have ok := store_ok hs
              have n0 : ¬ owner < 0 := by omega
              have n4 : ¬ owner > 3 := by omega
              have RO := hid (fun w' (q : Ext ws w') => rof_any _ l w' (IL.out _ (ES.trans q)) hw (by omega))
              have OW := hid (fun (bm : Nat) (Dm : DU) (w' : World) (q : Ext ws w') (hom : w'.ownsMap Tryd.prog 9 (plainElem Tryd.prog 3) bm l.length Dm) (hFm : MapF kS okS dI Dm (ofF l l.length)) => rowned_any _ C O bm l.length Dm (ofF l l.length) owner w' (IA.out _ (ES.trans q)) okM hom hFm (by omega))
              have HV := hid (fun x => own_part (C := C) (O := O) ok owner x)
              have okP := hid (show StoreOk (partP C O l owner) from storeOk_filter ok _)
              have hpl : (partP C O l owner).length ≤ l.length := List.length_filter_le _ _
              have xa := blk2 (ES.heap HA.out)
              have nn : l.length ≤ 900000 := hlen
              clear HPE2 HL0 HLn hs ho ok
              generalize partP C O l owner = PP at HV okP hpl SXs ⊢
              generalize hof : ofF l l.length = FF at RO OW HV
              clear hof
              go_wp2_with fail
              refine wp_region_ph [.k (.int .i64 0), .k (.bool true), .k (.bool true), .k (.slice ax PP.length cx), .k (.agg #[.slice a1 C.length k1, .slice a2 O.length k2]), .k (.slice al l.length cl), .p (OfM l.length FF), .k (.int .i64 owner), .p (OwM l.length (ownF C O owner FF)), .p (SegPr PP), .k (.bool true)] [] (by kernel_rfl) (by kernel_rfl) (by kernel_rfl) rfl rfl ?hs ?hC ?he
              case hC =>
                intro i hi
                simp at hi
              case hs =>
                refine ⟨?_, ?_, ?_, ?_, ?_, ?_, ?_, ?_, ?_, ?_, ?_, trivial⟩
                all_goals (
                  intro x w' hE hd
                  try simp [PhDeps, at_k, at_p, at_t, at_any, Region.binds] at hd
                  try ((with_reducible refine Exists.elim hd ?_); clear hd; intro y hd; obtain ⟨hd, hG⟩ := hd)
                  have f0 := hE.cell xa.1
                  have f1 := hE.cell xa.2.1
                  try ((with_reducible refine ofM_elim (w0 := ws) (n := l.length) (f := FF) hd.2.1 ?_); intro bm Dm hx hm6; simp only [hx])
                  try ((with_reducible refine owM_elim (w0 := ws) (n := l.length) (f := ownF C O owner FF) hd.1 ?_); intro b' n' D' hn' hx hm8; simp only [hx])
                  try (have hsg := segPr_now (w0 := ws) (l := PP) hd.2.1)
                  first | simp only [frL, List.length_cons, List.length_nil, List.take_succ_cons, List.take_zero, Nat.reduceAdd, Nat.zero_add, List.setIfInBounds_toArray, List.set_cons_zero, List.set_cons_succ, hd] | simp only [frL, List.length_cons, List.length_nil, List.take_succ_cons, List.take_zero, Nat.reduceAdd, Nat.zero_add, List.setIfInBounds_toArray, List.set_cons_zero, List.set_cons_succ]
                  go_wp2_with (first | (go_at_call 47; refine (RO.out _ hE).mono ?_; rintro e wa ⟨bm, Dm, rfl, rfl, hom, hFm, hea⟩) | (go_at_call 46; refine (OW.out bm Dm _ hE hm6.out.1 hm6.out.2).mono ?_; rintro e wa ⟨b', n', D', rfl, hom', hFm', hn', hea⟩) | (go_at_call 45; refine (rlist_any b' n' D' _ _ hm8.out.1 hm8.out.2 (by omega)).mono ?_; rintro e wa ⟨v9, ll, rfl, r1, r2, r3, _, r5, hea⟩; have hll := hid (prs_ext okP.out.srt r1 okP.out.nz r2 (fun x => by rw [HV.out, r3]; rfl))) | (go_at_call 44; have QE := equal_Pair (.slice ax PP.length cx) _ PP PP w' (SXs.out _ hE) hsg; rw [decide_eq_true rfl] at QE; refine QE.mono ?_; rintro e wa ⟨rfl, nq, rfl⟩; have hea := (Ext.refl w').drewN nq))
                  all_goals first
                    | ((with_reducible refine phK ?_ ?_); (focus rfl); (repeat (first | (with_reducible assumption) | (with_reducible exact Ext.refl _) | (with_reducible refine Ext.drew ?_) | (with_reducible refine Ext.drewN ?_ _) | (with_reducible refine Ext.alloc ?_ _) | (with_reducible refine Ext.trans ?_ (by with_reducible assumption)))))
                    | (exact phN (show OfM _ _ _ _ from ⟨_, rfl, Dm, hom, hFm⟩) hE hea)
                    | (exact phN (show OwM _ _ _ _ from ⟨_, rfl, n', D', hom', hFm', hn'⟩) hE hea)
                    | (exact phN (segPr_of hll.out r5) hE hea)
                    | ((with_reducible refine phT rfl hG ?_); (repeat (first | (with_reducible assumption) | (with_reducible exact Ext.refl _) | (with_reducible refine Ext.drew ?_) | (with_reducible refine Ext.drewN ?_ _) | (with_reducible refine Ext.alloc ?_ _) | (with_reducible refine Ext.trans ?_ (by with_reducible assumption)))))
                    | ((with_reducible refine phU hG ?_); (repeat (first | (with_reducible assumption) | (with_reducible exact Ext.refl _) | (with_reducible refine Ext.drew ?_) | (with_reducible refine Ext.drewN ?_ _) | (with_reducible refine Ext.alloc ?_ _) | (with_reducible refine Ext.trans ?_ (by with_reducible assumption)))))
                    | (with_reducible exact phBox hE)
                    | (with_reducible exact phRow hE))
              case he =>
                intro x wz EZ hd
                simp [PhEnd, at_k, at_p] at hd
                have e0 := hd.1
                have e1 := hd.2.1
                have e2 := hd.2.2.1
                have e3 := hd.2.2.2.1
                have e4 := hd.2.2.2.2.1
                have e5 := hd.2.2.2.2.2.1
                have e7 := hd.2.2.2.2.2.2.2.1
                have e10 := hd.2.2.2.2.2.2.2.2.2.2
                clear hd
                simp only [frL, List.length_cons, List.length_nil, List.take_succ_cons, List.take_zero, Nat.reduceAdd, Nat.zero_add, List.setIfInBounds_toArray, List.set_cons_zero, List.set_cons_succ, e0, e1, e2, e3, e4, e5, e7, e10, List.length_cons, List.length_nil, List.drop_succ_cons, List.drop_zero]
                clear e0 e1 e2 e3 e4 e5 e7 e10
                go_wp2
                go_ret
                exact ⟨rfl, E0.trans (ES.trans EZ)⟩
          · have hpe : pe = storeErr l := by rw [HPE2.out, if_pos hs]
            subst hpe
            have hL := HLn.out hs
            subst hL
            have q : (storeErr l != 0) = true := by simp [hs]
            have q2 : (storeErr l == 0) = false := by simp [hs]
            clear HPE2 HL0 HLn hs
            generalize storeErr l = sl at q q2 ⊢
            go_wp2
            go_ret
            exact ⟨rfl, E0.trans ES⟩
      · have hsv : sv = false := by rw [HSV.out, if_neg hB]
        subst hsv
        have q : (mapErr C2 O2 != 0) = true := by simp [hB]
        have SXt := SXc
        have ET := EC
        obtain ⟨wt, hwt⟩ : ∃ wt, wc = wt := ⟨_, rfl⟩
        subst hwt
        clear hB HSV EA RPA SXc EC
        generalize mapErr C2 O2 = m2 at q ⊢
        obtain ⟨wt, rfl⟩ : ∃ wt : World, wt = wc := ⟨_, rfl⟩
        have RS := hid (rstore_any _ l wt (IL.out _ ET) sk)
        go_wp2_with fail
        refine (RS.out).mono ?_
        clear RS
        rintro e ws ⟨rfl, ES⟩
        have SXs := hid (fun w' (q : Ext ws w') => SXt.out w' (ES.trans q))
        replace ES := ET.trans ES
        clear SXt ET
        by_cases hs : storeErr l = 0
        · rw [hs]
          by_cases ho : owner < 0 ∨ 4 ≤ owner
          · have hpe : pe = 1 := by rw [HPE2.out, if_neg (by simp [hs]), if_pos ho]
            subst hpe
            have hL := HLn.out (by decide)
            subst hL
            clear HPE2 HL0 HLn hs
            by_cases hn : owner < 0
            · clear ho
              go_wp2
              go_ret
              exact ⟨rfl, E0.trans ES⟩
            · have hn4 : owner > 3 := by omega
              clear ho
              go_wp2
              go_ret
              exact ⟨rfl, E0.trans ES⟩
          · have hpe : pe = 0 := by rw [HPE2.out, if_neg (by simp [hs]), if_neg ho]
            subst hpe
            have hL := HL0.out rfl
            subst hL
            have ok := store_ok hs
            have n0 : ¬ owner < 0 := by omega
            have n4 : ¬ owner > 3 := by omega
            have RO := hid (fun w' (q : Ext ws w') => rof_any _ l w' (IL.out _ (ES.trans q)) hw (by omega))
            have OW := hid (fun (bm : Nat) (Dm : DU) (w' : World) (q : Ext ws w') (hom : w'.ownsMap Tryd.prog 9 (plainElem Tryd.prog 3) bm l.length Dm) (hFm : MapF kS okS dI Dm (ofF l l.length)) => rowned_any _ C O bm l.length Dm (ofF l l.length) owner w' (IA.out _ (ES.trans q)) okM hom hFm (by omega))
            have HV := hid (fun x => own_part (C := C) (O := O) ok owner x)
            have okP := hid (show StoreOk (partP C O l owner) from storeOk_filter ok _)
            have hpl : (partP C O l owner).length ≤ l.length := List.length_filter_le _ _
            have xa := blk2 (ES.heap HA.out)
            have nn : l.length ≤ 900000 := hlen
            clear HPE2 HL0 HLn hs ho ok
            generalize partP C O l owner = PP at HV okP hpl SXs ⊢
            generalize hof : ofF l l.length = FF at RO OW HV
            clear hof
            go_wp2_with fail
            refine wp_region_ph [.k (.int .i64 0), .k (.bool true), .k (.bool true), .k (.slice ax PP.length cx), .k (.agg #[.slice a1 C.length k1, .slice a2 O.length k2]), .k (.slice al l.length cl), .p (OfM l.length FF), .k (.int .i64 owner), .p (OwM l.length (ownF C O owner FF)), .p (SegPr PP), .k (.bool true)] [] (by kernel_rfl) (by kernel_rfl) (by kernel_rfl) rfl rfl ?hs ?hC ?he
            case hC =>
              intro i hi
              simp at hi
            case hs =>
              refine ⟨?_, ?_, ?_, ?_, ?_, ?_, ?_, ?_, ?_, ?_, ?_, trivial⟩
              all_goals (
                intro x w' hE hd
                try simp [PhDeps, at_k, at_p, at_t, at_any, Region.binds] at hd
                try ((with_reducible refine Exists.elim hd ?_); clear hd; intro y hd; obtain ⟨hd, hG⟩ := hd)
                have f0 := hE.cell xa.1
                have f1 := hE.cell xa.2.1
                try ((with_reducible refine ofM_elim (w0 := ws) (n := l.length) (f := FF) hd.2.1 ?_); intro bm Dm hx hm6; simp only [hx])
                try ((with_reducible refine owM_elim (w0 := ws) (n := l.length) (f := ownF C O owner FF) hd.1 ?_); intro b' n' D' hn' hx hm8; simp only [hx])
                try (have hsg := segPr_now (w0 := ws) (l := PP) hd.2.1)
                first | simp only [frL, List.length_cons, List.length_nil, List.take_succ_cons, List.take_zero, Nat.reduceAdd, Nat.zero_add, List.setIfInBounds_toArray, List.set_cons_zero, List.set_cons_succ, hd] | simp only [frL, List.length_cons, List.length_nil, List.take_succ_cons, List.take_zero, Nat.reduceAdd, Nat.zero_add, List.setIfInBounds_toArray, List.set_cons_zero, List.set_cons_succ]
                go_wp2_with (first | (go_at_call 47; refine (RO.out _ hE).mono ?_; rintro e wa ⟨bm, Dm, rfl, rfl, hom, hFm, hea⟩) | (go_at_call 46; refine (OW.out bm Dm _ hE hm6.out.1 hm6.out.2).mono ?_; rintro e wa ⟨b', n', D', rfl, hom', hFm', hn', hea⟩) | (go_at_call 45; refine (rlist_any b' n' D' _ _ hm8.out.1 hm8.out.2 (by omega)).mono ?_; rintro e wa ⟨v9, ll, rfl, r1, r2, r3, _, r5, hea⟩; have hll := hid (prs_ext okP.out.srt r1 okP.out.nz r2 (fun x => by rw [HV.out, r3]; rfl))) | (go_at_call 44; have QE := equal_Pair (.slice ax PP.length cx) _ PP PP w' (SXs.out _ hE) hsg; rw [decide_eq_true rfl] at QE; refine QE.mono ?_; rintro e wa ⟨rfl, nq, rfl⟩; have hea := (Ext.refl w').drewN nq))
                all_goals first
                  | ((with_reducible refine phK ?_ ?_); (focus rfl); (repeat (first | (with_reducible assumption) | (with_reducible exact Ext.refl _) | (with_reducible refine Ext.drew ?_) | (with_reducible refine Ext.drewN ?_ _) | (with_reducible refine Ext.alloc ?_ _) | (with_reducible refine Ext.trans ?_ (by with_reducible assumption)))))
                  | (exact phN (show OfM _ _ _ _ from ⟨_, rfl, Dm, hom, hFm⟩) hE hea)
                  | (exact phN (show OwM _ _ _ _ from ⟨_, rfl, n', D', hom', hFm', hn'⟩) hE hea)
                  | (exact phN (segPr_of hll.out r5) hE hea)
                  | ((with_reducible refine phT rfl hG ?_); (repeat (first | (with_reducible assumption) | (with_reducible exact Ext.refl _) | (with_reducible refine Ext.drew ?_) | (with_reducible refine Ext.drewN ?_ _) | (with_reducible refine Ext.alloc ?_ _) | (with_reducible refine Ext.trans ?_ (by with_reducible assumption)))))
                  | ((with_reducible refine phU hG ?_); (repeat (first | (with_reducible assumption) | (with_reducible exact Ext.refl _) | (with_reducible refine Ext.drew ?_) | (with_reducible refine Ext.drewN ?_ _) | (with_reducible refine Ext.alloc ?_ _) | (with_reducible refine Ext.trans ?_ (by with_reducible assumption)))))
                  | (with_reducible exact phBox hE)
                  | (with_reducible exact phRow hE))
            case he =>
              intro x wz EZ hd
              simp [PhEnd, at_k, at_p] at hd
              have e0 := hd.1
              have e1 := hd.2.1
              have e2 := hd.2.2.1
              have e3 := hd.2.2.2.1
              have e4 := hd.2.2.2.2.1
              have e5 := hd.2.2.2.2.2.1
              have e7 := hd.2.2.2.2.2.2.2.1
              have e10 := hd.2.2.2.2.2.2.2.2.2.2
              clear hd
              simp only [frL, List.length_cons, List.length_nil, List.take_succ_cons, List.take_zero, Nat.reduceAdd, Nat.zero_add, List.setIfInBounds_toArray, List.set_cons_zero, List.set_cons_succ, e0, e1, e2, e3, e4, e5, e7, e10, List.length_cons, List.length_nil, List.drop_succ_cons, List.drop_zero]
              clear e0 e1 e2 e3 e4 e5 e7 e10
              go_wp2
              go_ret
              exact ⟨rfl, E0.trans (ES.trans EZ)⟩
        · have hpe : pe = storeErr l := by rw [HPE2.out, if_pos hs]
          subst hpe
          have hL := HLn.out hs
          subst hL
          have q : (storeErr l != 0) = true := by simp [hs]
          have q2 : (storeErr l == 0) = false := by simp [hs]
          clear HPE2 HL0 HLn hs
          generalize storeErr l = sl at q q2 ⊢
          go_wp2
          go_ret
          exact ⟨rfl, E0.trans ES⟩
  · have hse : se = mapErr C O := by rw [HSE.out, if_pos hA]
    have hpe : pe = mapErr C O := by rw [HPE.out, if_pos hA]
    subst hse
    subst hpe
    have hsv : sv = false := by rw [HSV.out, if_neg hA]
    subst hsv
    obtain ⟨rfl, rfl⟩ := HPn.out hA
    have hL := HLn.out hA
    subst hL
    have q : (mapErr C O != 0) = true := by simp [hA]
    have SE := sameMap_any _ (.agg #[.slice none 0 0, .slice none 0 0]) [] [] [] [] w7 (IP9.out _ (Ext.refl _)) (nilMap_is _)
    rw [sameB_self] at SE
    have SE := hid SE
    have xp := blk2 bp9.out
    clear HP0 HPn HL0 HLn HSE HSV HPE hA
    generalize mapErr C O = er at q ⊢
    go_wp2_with fail
    refine (SE.out).mono ?_
    rintro e w8 ⟨rfl, E10⟩
    go_wp2
    go_ret
    exact ⟨rfl, E0.trans (E9.trans E10)⟩
end Go.Proofs.YtghemmmkbpfdhaaDoor
