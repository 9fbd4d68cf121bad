/- Contracts and lemmas for the proof of ShardSays; each theorem states its own conditions. -/
import Derived.Test.YtghemmmkbpfdhaaDoorQShardSaysaf
import Derived.Test.YtghemmmkbpfdhaaDoorQShardSaysal
set_option linter.unusedVariables false
set_option linter.unusedSimpArgs false
/- Contracts and lemmas for the proofs of this seat; each theorem states its own conditions. -/
namespace Go.Proofs.YtghemmmkbpfdhaaDoor
open Go.RowKit
/-- what stands after k rounds of Plain: w1 is the world ahead of the loop -/
def PS (w1 wr : World) (bx : Nat) (C : List ByteArray) (O : List Int) (k : Nat) : Prop :=
  ∃ a1 c1 a2 c2, wr.heap[bx]? = some (.cells #[.slice a1 (pl C O k).1.length c1, .slice a2 (pl C O k).2.length c2] 28 (0, 0)) ∧
    wr.ownsRow w1.heap.size 9 1 (.slice a1 (pl C O k).1.length c1) (pl C O k).1.length (cS (pl C O k).1) ∧
    wr.ownsRow w1.heap.size 3 1 (.slice a2 (pl C O k).2.length c2) (pl C O k).2.length (cI (pl C O k).2) ∧ Ext w1 wr
theorem PS_no {w1 wr : World} {bx : Nat} {C : List ByteArray} {O : List Int} {k : Nat} (h : PS w1 wr bx C O k) (ht : O.getD (k + 1) 0 = lastO (pl C O k).2) : PS w1 wr bx C O (k + 1) := by
  have e : pl C O (k + 1) = pl C O k := by simp only [pl, if_pos ht]
  unfold PS; rw [e]; exact h
theorem PS_yes {w1 w' : World} {bx : Nat} {C : List ByteArray} {O : List Int} {k : Nat} (hk : k < C.length) (hk' : k + 1 < O.length) (ht : O[k + 1] ≠ lastO (pl C O k).2) {v1 v2 : Value} {L : Nat → Bool} {x : Nat → Value}
    (h : TP w1 bx v1 v2 (pl C O k).1 (pl C O k).2 C[k] O[k + 1] L x w') (h4 : L 4 = true) (h9 : L 9 = true) (h11 : L 11 = true) (h13 : L 13 = true) : PS w1 w' bx C O (k + 1) := by
  have eO : O.getD (k + 1) 0 = O[k + 1] := by simp [hk']
  have e : pl C O (k + 1) = ((pl C O k).1 ++ [C[k]], (pl C O k).2 ++ [O[k + 1]]) := by simp only [pl, eO, if_neg ht, kAt_eq hk]
  obtain ⟨⟨a4, c4, e4⟩, o4⟩ := h.oa' h4
  obtain ⟨⟨a9, c9, e9⟩, o9⟩ := h.ob' h9
  have b := h.box
  rw [h11, h13, if_pos rfl, if_pos rfl, e4, e9] at b
  rw [e4] at o4; rw [e9] at o9
  unfold PS
  rw [e]
  simp only [List.length_append, List.length_singleton]
  exact ⟨a4, c4, a9, c9, b, by simpa [cS] using o4, by simpa [cI] using o9, h.ext⟩
set_option maxRecDepth 10000 in
set_option maxHeartbeats 1000000 in
theorem plain_ok (v : Value) (C : List ByteArray) (O : List Int) (w : World) (hv : IsMap w v C O) (hk : ∀ k ∈ C, k.size ≤ 9223372036854775807) (ok : MapOk C O) :
    Calls Tryd.prog 39 #[v] w fun e w' => ∃ v', e = .returned (.tuple #[v', .int .i64 0]) ∧ OwnMap w' w.heap.size v' (pl C O C.length).1 (pl C O C.length).2 ∧ Ext w w' := by
  have hv0 := hv
  obtain ⟨a1, k1, a2, k2, rfl, h1, h2⟩ := hv.unpack
  have hb0 := heap_1 w (.cells #[.slice a1 C.length k1, .slice a2 O.length k2] 28) (.cells #[.slice none 0 0, .slice none 0 0] 28)
  have hb1 := heap_2 w (.cells #[.slice a1 C.length k1, .slice a2 O.length k2] 28) (.cells #[.slice none 0 0, .slice none 0 0] 28)
  have q : (mapErr C O != 0) = false := by simp [mapErr_ok ok]
  have hf := ok.few
  have HL := hid ok.len
  have hl1 : C.length + 1 ≤ O.length := by have := ok.len; omega
  have hl2 : O.length ≤ 13 := by have := ok.len; omega
  obtain ⟨b2, off2, rfl, _, hk2, hk2', hc2⟩ := seg_cells h2 (by omega)
  unfold maxLen at hk2'
  go_enter Tryd.func39, Tryd.ntmps39
  go_wp2_with fail
  refine (mcheck_any _ C O _ (hv0.ext (by (repeat (first | (with_reducible assumption) | (with_reducible exact Ext.refl _) | (with_reducible refine Ext.drew ?_) | (with_reducible refine Ext.drewN ?_ _) | (with_reducible refine Ext.alloc ?_ _) | (with_reducible refine Ext.trans ?_ (by with_reducible assumption)))))) hk).mono ?_
  rintro e w1 ⟨rfl, he1⟩
  have hx1 : Ext w w1 := by (repeat (first | (with_reducible assumption) | (with_reducible exact Ext.refl _) | (with_reducible refine Ext.drew ?_) | (with_reducible refine Ext.drewN ?_ _) | (with_reducible refine Ext.alloc ?_ _) | (with_reducible refine Ext.trans ?_ (by with_reducible assumption))))
  have z0 := he1.heap hb0
  have z1 := he1.heap hb1
  have hz := he1.size'
  have hz2 : w.heap.size + 2 ≤ w1.heap.size := by simpa using hz
  have x0 := blk2 z0
  have x0' := cell2 x0.1
  have c00 := hx1.cell (hc2 _ _ (cI_at0 O 0 (by omega)))
  simp only [Nat.add_zero] at c00
  go_wp2_with fail
  have y1 := heap_1 w1 (.cells #[.int .i64 (O[0]'(by omega))] 3) (.cells #[.slice none 0 0, .slice (some ⟨w1.heap.size, 0, none⟩) 1 1] 28)
  have y2 := heap_2 w1 (.cells #[.int .i64 (O[0]'(by omega))] 3) (.cells #[.slice none 0 0, .slice (some ⟨w1.heap.size, 0, none⟩) 1 1] 28)
  have eO0 : O.getD 0 0 = O[0]'(by omega) := by simp [show 0 < O.length by omega]
  have y1' : ((w1.alloc (.cells #[.int .i64 (O[0]'(by omega))] 3)).alloc (.cells #[.slice none 0 0, .slice (some ⟨w1.heap.size, 0, none⟩) 1 1] 28)).ownsRow w1.heap.size 3 1 (.slice (some ⟨w1.heap.size, 0, none⟩) 1 1) 1 (cI [O.getD 0 0]) := by
    rw [eO0]
    exact ⟨rfl, .inr ⟨w1.heap.size, 1, _, rfl, Nat.le_refl _, y1, Nat.le_refl _, by simp [maxLen], rfl, rfl⟩⟩
  have y3 : PS w1 ((w1.alloc (.cells #[.int .i64 (O[0]'(by omega))] 3)).alloc (.cells #[.slice none 0 0, .slice (some ⟨w1.heap.size, 0, none⟩) 1 1] 28)) (w1.heap.size + 1) C O 0 :=
    ⟨none, 0, some ⟨w1.heap.size, 0, none⟩, 1, y2, World.ownsRow_nil _ _ _ _, y1', by (repeat (first | (with_reducible assumption) | (with_reducible exact Ext.refl _) | (with_reducible refine Ext.drew ?_) | (with_reducible refine Ext.drewN ?_ _) | (with_reducible refine Ext.alloc ?_ _) | (with_reducible refine Ext.trans ?_ (by with_reducible assumption))))⟩
  have Y3 := hid y3
  clear y1 y2 y1' y3 eO0
  go_loopw [6, 7, 8, 24] (fun _ _ _ i wr => ∃ k : Nat, k ≤ C.length ∧ i = .int .i64 k ∧ PS w1 wr (w1.heap.size + 1) C O k) (fun _ _ _ i _ => C.length - (intOf i).toNat)
  case atStart => exact ⟨0, by omega, rfl, Y3.out⟩
  case round =>
    obtain ⟨k, hkl, rfl, a3, c3, a4, c4, q1, q2, q3, q4⟩ := hrel
    have u0 := blk2 (q4.heap z0)
    have u1 := blk2 q1
    have hle := pl_le C O k
    have hln := pl_len C O k
    have HLN := hid hln
    clear hln
    by_cases hlt : k < C.length
    · obtain ⟨b1, off1, rfl, _, hk1, hk1', hc1⟩ := seg_cells h1 (by omega)
      unfold maxLen at hk1'
      have hxr : Ext w wr := hx1.trans q4
      have ck := hxr.cell (hc1 _ _ (cS_at0 C k hlt))
      have ok1 := hxr.cell (hc2 _ _ (cI_at0 O (k + 1) (by omega)))
      obtain ⟨g4, rfl, hg1, hg2, hg3, hg4⟩ := own_pos q3 (by have := HLN.out; omega)
      have hll : 1 ≤ (pl C O k).2.length := by have := HLN.out; omega
      have hll2 : (pl C O k).2.length ≤ 13 := by have := HLN.out; omega
      have cl := q3.cellAt ((pl C O k).2.length - 1) (by omega)
      rw [cI_at0 _ _ (by omega)] at cl
      have elast : lastO (pl C O k).2 = (pl C O k).2[(pl C O k).2.length - 1]'(by omega) := by simp [lastO, show (pl C O k).2.length - 1 < (pl C O k).2.length by omega]
      rw [← elast] at cl
      clear elast
      have ec : (((pl C O k).2.length : Int) - 1).toNat = (pl C O k).2.length - 1 := by omega
      clear hc1
      by_cases hne : O[k + 1] = lastO (pl C O k).2
      · have hb : (O[k + 1] != lastO (pl C O k).2) = false := by simp [hne]
        have HNE := hid (PS_no ⟨_, _, _, _, q1, q2, q3, q4⟩ (by simpa [show k + 1 < O.length by omega] using hne) : PS w1 wr (w1.heap.size + 1) C O (k + 1))
        clear hne
        go_wp2_with fail
        go_roundw
        case rel => exact ⟨k + 1, by omega, by go_num, HNE.out⟩
        case measure => simp [intOf]; omega
      · have hb : (O[k + 1] != lastO (pl C O k).2) = true := by simp [hne]
        have HNE := hid hne
        clear hne
        go_upto_region 10 with fail
        refine wp_region_lit_inv (by kernel_rfl) (by kernel_rfl) (fun i => match i with
          | 0 => some (.pointer (some ⟨w1.heap.size + 1, 0, none⟩)) | 1 => some (.slice a3 (pl C O k).1.length c3) | 2 => some (.string C[k])
          | 5 => some (.pointer (some ⟨w1.heap.size + 1, 1, none⟩)) | 6 => some (.slice (some ⟨g4, 0, none⟩) (pl C O k).2.length c4) | 7 => some (.int .i64 O[k + 1])
          | 10 => some (.pointer (some ⟨w1.heap.size + 1, 0, none⟩)) | 12 => some (.pointer (some ⟨w1.heap.size + 1, 1, none⟩)) | _ => none)
          (TP w1 (w1.heap.size + 1) (.slice a3 (pl C O k).1.length c3) (.slice (some ⟨g4, 0, none⟩) (pl C O k).2.length c4) (pl C O k).1 (pl C O k).2 C[k] O[k + 1]) ?h0 ?hs ?he
        case h0 => exact ⟨q4.drew, by omega, q1, by simp, fun _ => q2, by simp, by simp, fun _ => q3, by simp⟩
        case hs =>
          refine ⟨?s0, ?s1, ?s2, ?s3, ?s4, ?s5, ?s6, ?s7, ?s8, ?s9, ?s10, ?s11, ?s12, ?s13, trivial⟩
          case s0 =>
            intro L x w' hL hcl hd hG
            simp [Region.binds] at hd
            simp only [frL]
            go_wp2
            exact hG.quiet 0 _ (by decide)
          case s1 =>
            intro L x w' hL hcl hd hG
            simp [Region.binds] at hd
            have bx := blk2 (hG.box0 (hcl.notYet (j := 11) (i := 1) (by kernel_rfl) hL) (hcl.notYet (j := 13) (i := 1) (by kernel_rfl) hL))
            simp only [frL]
            go_wp2
            exact hG.quiet 1 _ (by decide)
          case s2 =>
            intro L x w' hL hcl hd hG
            simp [Region.binds] at hd
            simp only [frL]
            go_wp2
            exact hG.quiet 2 _ (by decide)
          case s3 =>
            intro L x w' hL hcl hd hG
            simp [Region.binds] at hd
            simp only [frL, List.length_cons, List.length_nil, List.take_succ_cons, List.take_zero, Nat.reduceAdd, Nat.zero_add, List.setIfInBounds_toArray, List.set_cons_zero, List.set_cons_succ, hd]
            go_wp2
            exact hG.bsA
          case s4 =>
            intro L x w' hL hcl hd hG
            simp [Region.binds] at hd
            have n9 := hcl.notYet (j := 9) (i := 4) (by kernel_rfl) hL
            have n11 := hcl.notYet (j := 11) (i := 4) (by kernel_rfl) hL
            have n13 := hcl.notYet (j := 13) (i := 4) (by kernel_rfl) hL
            obtain ⟨b3, e3, k3⟩ := hG.na hd.2 hL
            have o3 := hG.oa hL
            have z3 := hG.big
            have fin := fun v' w2 => TP.apA (v' := v') (w2 := w2) hG hL n9 n11 n13
            have FIN := hid fin
            clear fin n9 n11 n13
            simp only [frL, List.length_cons, List.length_nil, List.take_succ_cons, List.take_zero, Nat.reduceAdd, Nat.zero_add, List.setIfInBounds_toArray, List.set_cons_zero, List.set_cons_succ, hd.1.2, e3]
            refine wpList_app ?r1 (.tmp 46) (.tmp 48) 26 ?r2 w1.heap.size 9 (.string ⟨#[]⟩) 1 16 Tryd.underlying26 info_Str ?r3 (by decide) (.slice a3 (pl C O k).1.length c3) (pl C O k).1.length (cS (pl C O k).1) ?r4 o3 (.slice (some ⟨b3, 0, none⟩) 1 1) 1 [.string C[k]] ?r5 (seg_one k3) ?c1 ?c2 ?c3 z3 ?_
            case r1 => rfl
            case r2 => rfl
            case r3 => rfl
            case r4 => rfl
            case r5 => rfl
            case c1 => intro u hu; simp at hu; subst hu; rfl
            case c2 => omega
            case c3 => unfold maxLen; omega
            intro v' w2 ho hg
            exact wpList_nil ⟨rfl, v', rfl, by simp, FIN.out _ _ ho hg⟩
          case s5 =>
            intro L x w' hL hcl hd hG
            simp [Region.binds] at hd
            simp only [frL]
            go_wp2
            exact hG.quiet 5 _ (by decide)
          case s6 =>
            intro L x w' hL hcl hd hG
            simp [Region.binds] at hd
            have bx := blk2 (hG.box0 (hcl.notYet (j := 11) (i := 6) (by kernel_rfl) hL) (hcl.notYet (j := 13) (i := 6) (by kernel_rfl) hL))
            simp only [frL]
            go_wp2
            exact hG.quiet 6 _ (by decide)
          case s7 =>
            intro L x w' hL hcl hd hG
            simp [Region.binds] at hd
            simp only [frL]
            go_wp2
            exact hG.quiet 7 _ (by decide)
          case s8 =>
            intro L x w' hL hcl hd hG
            simp [Region.binds] at hd
            have n9 := hcl.notYet (j := 9) (i := 8) (by kernel_rfl) hL
            have F := hG.bsB n9
            simp only [frL, List.length_cons, List.length_nil, List.take_succ_cons, List.take_zero, Nat.reduceAdd, Nat.zero_add, List.setIfInBounds_toArray, List.set_cons_zero, List.set_cons_succ, hd]
            go_wp2
          case s9 =>
            intro L x w' hL hcl hd hG
            simp [Region.binds] at hd
            obtain ⟨⟨_, hd6⟩, hd8, hd4⟩ := hd
            have n11 := hcl.notYet (j := 11) (i := 9) (by kernel_rfl) hL
            have n13 := hcl.notYet (j := 13) (i := 9) (by kernel_rfl) hL
            obtain ⟨b8, e8, k8, _, _⟩ := hG.nb hd8 hL
            have o8 := hG.ob hL
            have z8 := hG.big
            have fin := fun v' w2 => TP.apB (v' := v') (w2 := w2) hG hd4 hL n11 n13
            have FIN := hid fin
            clear fin n11 n13
            simp only [frL, List.length_cons, List.length_nil, List.take_succ_cons, List.take_zero, Nat.reduceAdd, Nat.zero_add, List.setIfInBounds_toArray, List.set_cons_zero, List.set_cons_succ, hd6, e8]
            refine wpList_app ?r1 (.tmp 51) (.tmp 53) 22 ?r2 w1.heap.size 3 (.int .i64 0) 1 8 Tryd.underlying22 info_Int ?r3 (by decide) (.slice (some ⟨g4, 0, none⟩) (pl C O k).2.length c4) (pl C O k).2.length (cI (pl C O k).2) ?r4 o8 (.slice (some ⟨b8, 0, none⟩) 1 1) 1 [.int .i64 O[k + 1]] ?r5 (seg_one k8) ?c1 ?c2 ?c3 z8 ?_
            case r1 => rfl
            case r2 => rfl
            case r3 => rfl
            case r4 => rfl
            case r5 => rfl
            case c1 => intro u hu; simp at hu; subst hu; rfl
            case c2 => omega
            case c3 => unfold maxLen; omega
            intro v' w2 ho hg
            exact wpList_nil ⟨rfl, v', rfl, by simp, FIN.out _ _ ho hg⟩
          case s10 =>
            intro L x w' hL hcl hd hG
            simp [Region.binds] at hd
            simp only [frL]
            go_wp2
            exact hG.quiet 10 _ (by decide)
          case s11 =>
            intro L x w' hL hcl hd hG
            simp [Region.binds] at hd
            have d9 : L 9 = true := by simp_all
            have d4 : L 4 = true := by simp_all
            have d10 : x 10 = .pointer (some ⟨w1.heap.size + 1, 0, none⟩) := by simp_all
            have n13 := hcl.notYet (j := 13) (i := 11) (by kernel_rfl) hL
            have b := blk2 (hG.box0 hL n13)
            obtain ⟨⟨a5, c5, e5⟩, _⟩ := hG.oa' d4
            have F := hG.stA d4 d9 hL n13 undef
            rw [e5] at F
            clear hd hcl
            simp only [frL, List.length_cons, List.length_nil, List.take_succ_cons, List.take_zero, Nat.reduceAdd, Nat.zero_add, List.setIfInBounds_toArray, List.set_cons_zero, List.set_cons_succ, d10, e5]
            go_wp2
            exact ⟨_, F⟩
          case s12 =>
            intro L x w' hL hcl hd hG
            simp [Region.binds] at hd
            simp only [frL]
            go_wp2
            exact hG.quiet 12 _ (by decide)
          case s13 =>
            intro L x w' hL hcl hd hG
            simp [Region.binds] at hd
            have d11 : L 11 = true := by simp_all
            have d9 : L 9 = true := by simp_all
            have d4 : L 4 = true := by simp_all
            have d12 : x 12 = .pointer (some ⟨w1.heap.size + 1, 1, none⟩) := by simp_all
            have b := blk2 (hG.box1 d11 hL)
            obtain ⟨⟨a6, c6, e6⟩, _⟩ := hG.ob' d9
            have F := hG.stB d4 d9 d11 hL undef
            rw [e6] at F
            clear hd hcl
            simp only [frL, List.length_cons, List.length_nil, List.take_succ_cons, List.take_zero, Nat.reduceAdd, Nat.zero_add, List.setIfInBounds_toArray, List.set_cons_zero, List.set_cons_succ, d12, e6]
            go_wp2
            exact ⟨_, F⟩
        case he =>
          intro L x w' hd hG
          have hPS := PS_yes hlt (by omega) HNE.out hG (hd 4 (by decide)).1 (hd 9 (by decide)).1 (hd 11 (by decide)).1 (hd 13 (by decide)).1
          clear hd hG
          simp only [frL, List.length_cons, List.length_nil, List.take_succ_cons, List.take_zero, Nat.reduceAdd, Nat.zero_add, List.setIfInBounds_toArray, List.set_cons_zero, List.set_cons_succ]
          go_wp2
          go_roundw
          case rel => exact ⟨k + 1, by omega, by go_num, hPS⟩
          case measure => simp [intOf]; omega
    · obtain rfl : k = C.length := by omega
      have HM := hid (show IsMap wr (.agg #[.slice a3 (pl C O C.length).1.length c3, .slice a4 (pl C O C.length).2.length c4]) (pl C O C.length).1 (pl C O C.length).2 from ⟨_, _, rfl, own_seg q2, own_seg q3⟩)
      have l1 : (pl C O C.length).1.length < 1000000000 := by omega
      have l2 : (pl C O C.length).2.length < 1000000000 := by have := HLN.out; omega
      have zr := q4.heap z1
      generalize hC' : (pl C O C.length).1 = C' at q1 q2 q3 u1 HM l1 hle l2 HLN ⊢
      generalize hO' : (pl C O C.length).2 = O' at q1 q2 q3 u1 HM l2 HLN ⊢
      have HC' := hid hC'
      have HO' := hid hO'
      clear hC' hO'
      go_wp2_with fail
      refine (copied_any _ C' O' _ HM.out l1 l2).mono ?_
      rintro e w5 ⟨v', rfl, ⟨cc, oo, rfl, hc5, ho5⟩, he5⟩
      obtain ⟨a7, k7, rfl⟩ := own_form hc5
      obtain ⟨a8, k8, rfl⟩ := own_form ho5
      have z5 := he5.heap zr
      have x5 := blk2 z5
      have rB := blk2 (blk2_set2 (u := .slice a7 C'.length k7) (v := .slice a8 O'.length k8) z5)
      have hsz : w.heap.size + 2 ≤ wr.heap.size := by have := q4.size'; omega
      have hE : Ext w w5 := (hx1.trans q4).trans he5
      have p1 := own_set2 (p := ⟨w.heap.size + 1, 0, none⟩) (q := ⟨w.heap.size + 1, 1, none⟩) (u := .slice a7 C'.length k7) (u' := .slice a8 O'.length k8) hc5 (by show w.heap.size + 1 < _; omega) (by show w.heap.size + 1 < _; omega)
      have p2 := own_set2 (p := ⟨w.heap.size + 1, 0, none⟩) (q := ⟨w.heap.size + 1, 1, none⟩) (u := .slice a7 C'.length k7) (u' := .slice a8 O'.length k8) ho5 (by show w.heap.size + 1 < _; omega) (by show w.heap.size + 1 < _; omega)
      have FF := hid (And.intro (And.intro (own_base (B' := w.heap.size) p1 (by omega)) (own_base (B' := w.heap.size) p2 (by omega))) ((hE.setCell (p := ⟨w.heap.size + 1, 0, none⟩) (by simp) (.slice a7 C'.length k7)).setCell (p := ⟨w.heap.size + 1, 1, none⟩) (by simp) (.slice a8 O'.length k8)))
      clear p1 p2 hc5 ho5 q1 q2 q3
      go_wp2
      exact bodyPost_ret (v := .tuple #[.agg #[.slice a7 C'.length k7, .slice a8 O'.length k8], .int .i64 0]) (by simp [results, Tryd.results39, go_sem, rB.1, rB.2.1]) rfl ⟨_, rfl, ⟨_, _, rfl, by rw [HC'.out]; exact FF.out.1.1, by rw [HO'.out]; exact FF.out.1.2⟩, FF.out.2⟩
end Go.Proofs.YtghemmmkbpfdhaaDoor
