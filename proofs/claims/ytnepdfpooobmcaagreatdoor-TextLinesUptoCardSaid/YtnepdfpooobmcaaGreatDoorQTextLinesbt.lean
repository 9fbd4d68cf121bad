/- Contracts and lemmas for the proof of TextLines; each theorem states its own conditions. -/
import Derived.Test.YtnepdfpooobmcaaGreatDoorQTextLinesbr
import Derived.Test.YtnepdfpooobmcaaGreatDoorQTextLinesaw
import Derived.Test.YtnepdfpooobmcaaGreatDoorQTextLinesbs
set_option linter.unusedVariables false
set_option linter.unusedSimpArgs false
/- Contracts and lemmas for the proofs of this seat; each theorem states its own conditions. -/
namespace Go.Proofs.YtnepdfpooobmcaaGreatDoor
open Go.RowKit
/-! roref.MapText -/
/-- the pieces, cut by cut -/
def mtR (C : List ByteArray) (O : List Int) : Nat → List ByteArray
  | 0 => [bA (Lib.itoa (O.getD 0 0))]
  | i + 1 => mtR C O i ++ [C.getD i ⟨#[]⟩, bA (Lib.itoa (O.getD (i + 1) 0))]
theorem mtR_len (C : List ByteArray) (O : List Int) : ∀ i, (mtR C O i).length = 2 * i + 1
  | 0 => rfl
  | i + 1 => by rw [mtR, List.length_append, mtR_len C O i]; simp; omega
theorem mtR_jn {C : List ByteArray} {O : List Int} (h : O.length = C.length + 1) : ∀ i, i ≤ C.length → jn 58 ((mtR C O i).map (·.data.toList)) = mapTo C O i
  | 0, _ => by rw [mapTo_zero, mtR]; simp [jn, bA_toL]
  | i + 1, hi => by
    have ih := mtR_jn h i (by omega)
    have hne : (mtR C O i).map (·.data.toList) ≠ [] := by
      intro e
      have := congrArg List.length e
      rw [List.length_map, mtR_len] at this
      simp at this
    rw [mapTo_succ h (by omega), mtR, List.map_append, List.map_cons, List.map_cons, List.map_nil, ← ih]
    have e2 : ∀ (xs : List (List UInt8)) (a b : List UInt8), xs ++ [a, b] = (xs ++ [a]) ++ [b] := by intro xs a b; simp
    rw [e2, jn_snoc, jn_snoc, if_neg (by simp), if_neg hne]
    have e3 : C.getD i ⟨#[]⟩ = C[i]'(by omega) := by simp [show i < C.length by omega]
    have e4 : O.getD (i + 1) 0 = O[i + 1]'(by omega) := by simp [show i + 1 < O.length by omega]
    rw [e3, e4]
    simp [bA_toL]
theorem own_lit1 {w : World} {g B : Nat} {x : Value} {t : TypeId} (h : w.heap[g]? = some (.cells #[x] t (0, 0))) (hB : B ≤ g) : w.ownsRow B t 1 (.slice (some ⟨g, 0, none⟩) 1 1) 1 [x] :=
  ⟨rfl, .inr ⟨g, 1, _, rfl, hB, h, Nat.le_refl _, by simp [maxLen], rfl, rfl⟩⟩
abbrev GS (v : Value) (n : Nat) (ns : List Value) : Nat → Option (Nat × List Value) := G2 v n ns (.slice none 0 0) 0 []
theorem gs_none {v : Value} {n k : Nat} {ns : List Value} (h : v.ownBlock ≠ some k) : GS v n ns k = none := by
  unfold GS G2
  rw [if_neg h, if_neg (by simp [Value.ownBlock])]
theorem gs_grown {v : Value} {n : Nat} {ns : List Value} {w w' : World} (h : GF (GS v n ns) w w') : w.grownBy w' v.ownBlock :=
  ⟨h.1, h.2.1, h.2.2.1, h.2.2.2.1, fun k hk hne => by
    rcases h.2.2.2.2 k hk with e | ⟨_, _, _, _, e, _⟩
    · exact e
    · rw [gs_none (fun e' => hne e'.symm)] at e; cases e⟩
def AppS (G : Nat → Option (Nat × List Value)) (B n : Nat) (xs : List Value) (v : Value) (w : World) : Prop := OwnG G B 9 1 v n xs w
theorem AppS.st {G : Nat → Option (Nat × List Value)} {B n : Nat} {v : Value} {xs : List Value} {w w' : World} (hF : GF G w w') (h : AppS G B n xs v w) : AppS G B n xs v w' := OwnG.st hF h
theorem two_str2 (k j : ByteArray) : ∀ u ∈ [Value.string k, Value.string j], u.oneCell' = true := by
  intro u hu; simp at hu; rcases hu with rfl | rfl <;> rfl
set_option maxRecDepth 100000 in
set_option maxHeartbeats 4000000 in
theorem rmaptext_any (v : Value) (C : List ByteArray) (O : List Int) (w : World) (hv : IsMap w v C O) (ok : MapOk C O) :
    Calls Tryz.prog 15 #[v] w fun e w' => e = .returned (.string (bA (mapT C O))) ∧ Ext w w' := by
  obtain ⟨c, o, rfl, h1, h2⟩ := hv
  have hl := ok.len
  have hf := ok.few
  have HOW := hid (fun i (h : i < O.length) => own0 ok.own h)
  have HMT := hid (show mapTo C O C.length = mapT C O from mapTo_all hl)
  have HLE := hid (mapTo_len ok C.length (Nat.le_refl _))
  have HJN := hid (mtR_jn hl C.length (Nat.le_refl _))
  have HKS := hid (fun i (h : i < C.length) => key_size (cut_key ok.cut C[i] (List.getElem_mem h)))
  obtain ⟨ao, ko, rfl⟩ := seg_form h2
  obtain ⟨ac, kc, rfl⟩ := seg_form h1
  obtain ⟨b1, o1, rfl, _, g1, g2, hcO⟩ := seg_cells h2 (by omega)
  unfold maxLen at g2
  have HC := hid h1
  have HCO := hid hcO
  obtain ⟨N, hN⟩ : ∃ N, O.length = N := ⟨_, rfl⟩
  rw [hN] at g1 ⊢
  have hNC : N ≤ 13 ∧ 0 < N := by omega
  have HN := hid (show N = C.length + 1 by omega)
  have HLO := hid hN
  have h0O : 0 < O.length := by omega
  have E0 := (Ext.refl w).alloc (.cells #[.slice ac C.length kc, .slice (some ⟨b1, o1, none⟩) N ko] 28)
  have bm := heap_alloc_new w (.cells #[.slice ac C.length kc, .slice (some ⟨b1, o1, none⟩) N ko] 28)
  have BM := hid bm
  have HE0 := hid E0
  have x0 : (w.alloc (.cells #[.slice ac C.length kc, .slice (some ⟨b1, o1, none⟩) N ko] 28)).cell? ⟨b1, o1, none⟩ = some (.int .i64 (O[0]'h0O)) := E0.cell (hcO 0 _ (cI_at0 O 0 h0O))
  have hw0 := HOW.out 0 h0O
  have hm0 : mtR C O 0 = [bA (Lib.itoa (O[0]'h0O))] := by rw [mtR]; simp [h0O]
  have HM0 := hid hm0
  generalize hz : O[0]'h0O = z at x0 hw0 hm0 HM0
  have D0 := hid (fun w' => dec_any z w' (by omega) (by omega))
  clear h1 h2 hcO E0 bm ok hz hm0 hw0 hl hN h0O
  go_enter Tryz.func15, Tryz.ntmps15
  have k0 := blk2 BM.out
  go_wp2_with fail
  refine (D0.out _).mono ?_
  clear D0
  rintro r w1 ⟨rfl, rfl⟩
  go_wp2_with fail
  obtain ⟨wb, hwb⟩ : ∃ wb : World, w.alloc (.cells #[.slice ac C.length kc, .slice (some ⟨b1, o1, none⟩) N ko] 28) = wb := ⟨_, rfl⟩
  have hbs : wb.heap.size = w.heap.size + 1 := by rw [← hwb]; simp
  rw [hwb] at BM HE0 ⊢
  have HE0 := hid (show Ext w wb from hwb ▸ (Ext.refl w).alloc _)
  have HO0 := hid (show (wb.alloc (.cells #[.string (bA (Lib.itoa z))] 9)).ownsRow wb.heap.size 9 1 (.slice (some ⟨wb.heap.size, 0, none⟩) 1 1) 1 (cS (mtR C O 0)) from by
    rw [HM0.out]
    exact own_lit1 (heap_alloc_new _ _) (Nat.le_refl _))
  rw [hbs] at HO0
  clear hwb k0 HM0
  go_wp2_with fail
  go_loopw [3, 4, 14] (fun lv _ iv wr => ∃ i : Nat, i ≤ C.length ∧ iv = .int .i64 i ∧ Hid (wr.ownsRow wb.heap.size 9 1 lv (2 * i + 1) (cS (mtR C O i))) ∧ Hid (Ext wb wr)) (fun _ _ iv _ => C.length - (intOf iv).toNat)
  case atStart => exact ⟨0, Nat.zero_le _, rfl, by rw [hbs]; exact HO0, hid ((Ext.refl wb).alloc _)⟩
  case round =>
    obtain ⟨wq, rfl⟩ : ∃ wq : World, wq = wr := ⟨_, rfl⟩
    obtain ⟨i, hi, rfl, hO, hE1⟩ := hrel
    clear hbs HO0
    obtain ⟨al, kl, e1⟩ := own_form hO.out
    subst e1
    by_cases hil : i < C.length
    · obtain ⟨bc, oc, rfl, _, p1, p2, hcC⟩ := seg_cells HC.out (by omega)
      unfold maxLen at p2
      have hiO : i + 1 < O.length := by have := HLO.out; have := HN.out; omega
      have c1 := HE0.out.cell (hcC i _ (cS_at0 C i hil))
      have c2 := HE0.out.cell (HCO.out (i + 1) _ (cI_at0 O (i + 1) hiO))
      have hks := HKS.out i hil
      have how := HOW.out (i + 1) hiO
      have hst : mtR C O (i + 1) = mtR C O i ++ [C[i], bA (Lib.itoa O[i + 1])] := by rw [mtR]; simp [hil, hiO]
      have hml := mtR_len C O i
      generalize C[i] = ck at c1 hks hst
      generalize O[i + 1] = on at c2 how hst
      have z1 : (bA (Lib.itoa on)).size ≤ 21 := by rw [bA_size]; exact itoa_len21 (by omega) (by omega)
      have DC := hid (fun w' => dec_any on w' (by omega) (by omega))
      generalize bA (Lib.itoa on) = dc at *
      have HST := hid hst
      have HML := hid hml
      generalize mtR C O i = R at *
      have hOO := hO.out
      have hlt := fun k h => (hOO.lt k h).2
      have GN := hid (fun k (hk : wq.heap.size ≤ k) => (gs_none (fun e => by have := hlt k e; omega) : GS (.slice al (2 * i + 1) kl) (2 * i + 1) [.string ck, .string dc] k = none))
      have HGE := hid (fun k h => own_ge hOO k h)
      have hWS := hE1.out.size'
      have iN : IntKind.i64.wrap ((i : Int) + 1) = (i : Int) + 1 := by rw [IntKind.wrap_i64]; omega
      have q2 : ((i : Int) + 1).toNat = i + 1 := by omega
      have hiN : i + 1 < N := by have := HN.out; omega
      have hiN2 : (i : Int) + 1 < (N : Int) := by omega
      have hiN3 : (0 : Int) ≤ (i : Int) + 1 := by omega
      clear hst hml hlt hcC
      go_wp2_with fail
      refine PR.wp_region_ph (gf_fr (GS (.slice al (2 * i + 1) kl) (2 * i + 1) [.string ck, .string dc])) [PR.RS.k (.slice al (2 * i + 1) kl), PR.RS.k (.pointer (some ⟨w.heap.size, 0, none⟩)), PR.RS.k (.slice (some ⟨bc, oc, none⟩) C.length kc), PR.RS.k (.int .i64 i), PR.RS.k (.pointer (some ⟨bc, oc + i, none⟩)), PR.RS.k (.string ck), PR.RS.k (.pointer (some ⟨w.heap.size, 1, none⟩)), PR.RS.k (.slice (some ⟨b1, o1, none⟩) N ko), PR.RS.k (.int .i64 i), PR.RS.k (.int .i64 ((i : Int) + 1)), PR.RS.k (.pointer (some ⟨b1, o1 + (i + 1), none⟩)), PR.RS.k (.int .i64 on), PR.RS.k (.string dc), PR.RS.p (NewB wq.heap.size #[.string ck, .string dc] 9 2), PR.RS.p (AppS (GS (.slice al (2 * i + 1) kl) (2 * i + 1) [.string ck, .string dc]) wb.heap.size (2 * i + 1 + 2) (cS R ++ [.string ck, .string dc]))] [[], [], [], [], [], [], [], [], [], [], [], [], [], [], []] [] (by kernel_rfl) (by kernel_rfl) (by kernel_rfl) rfl rfl rfl (by kernel_rfl) ?hs ?hC ?he
      case hC =>
        intro i hi
        simp at hi
      case hs =>
        refine ⟨?_, ?_, ?_, ?_, ?_, ?_, ?_, ?_, ?_, ?_, ?_, ?_, ?_, ?_, ?_, trivial⟩
        all_goals (
          intro x w' hE hd
          try simp [PR.PhDeps, PR.at_k, PR.at_p, PR.at_d, PR.at_any, Region.binds] at hd
          have eB := hE1.out.grown (gs_grown hE) HGE.out
          have bx := blk2 (eB.heap BM.out)
          have x1 := eB.cell c1
          have x2 := eB.cell c2
          have ow := OwnG.st hE (g2_own_fst hOO)
          have sz := gf_size hE
          first | simp only [frL, List.length_cons, List.length_nil, List.take_succ_cons, List.take_zero, Nat.reduceAdd, Nat.zero_add, List.setIfInBounds_toArray, List.set_cons_zero, List.set_cons_succ, hd] | simp only [frL, List.length_cons, List.length_nil, List.take_succ_cons, List.take_zero, Nat.reduceAdd, Nat.zero_add, List.setIfInBounds_toArray, List.set_cons_zero, List.set_cons_succ]
          go_wp2_with (first | (go_at_call 105; refine (DC.out _).mono ?_; rintro e wa ⟨rfl, rfl⟩) | (at_builtin; refine (wpList_appG rfl _ _ 25 rfl wb.heap.size 9 (.string ⟨#[]⟩) 1 16 Tryz.underlying25 infoS7 rfl (by decide) _ (2 * i + 1) (cS R) rfl ow.1 _ 2 [.string ck, .string dc] rfl (by decide) ((hd.2.1.now (fun a b => NewB.st GN.out a b)).seg rfl (by decide)) (two_str2 _ _) (by omega) (by unfold maxLen; omega) (by omega) (GS (.slice al (2 * i + 1) kl) (2 * i + 1) [.string ck, .string dc]) g2_fst1 (fun k hk => GN.out k (by omega)) ?_); intro v' w'' o1 o2 o3))
          all_goals first
            | ((with_reducible refine PR.phK ?_ ?_); (focus rfl); exact gf_ext (by (repeat (first | (with_reducible assumption) | (with_reducible exact Ext.refl _) | (with_reducible refine Ext.drew ?_) | (with_reducible refine Ext.drewN ?_ _) | (with_reducible refine Ext.alloc ?_ _) | (with_reducible refine Ext.trans ?_ (by with_reducible assumption))))))
            | (exact PR.phN (gf_fr _) o1 hE o2)
            | (with_reducible exact phNew hE))
      case he =>
        intro x w9 hF9 hd
        simp [PR.PhEnd, PR.at_k, PR.at_p, PR.at_d] at hd
        obtain ⟨e0, e1, e2, e3, e4, e5, e6, e7, e8, e9, e10, e11, e12, u13, u14⟩ := hd
        have MA := (u14.now (fun a b => AppS.st a b))
        have eB := hid (hE1.out.grown (gs_grown hF9) HGE.out)
        simp only [frL, List.length_cons, List.length_nil, List.take_succ_cons, List.take_zero, Nat.reduceAdd, Nat.zero_add, List.setIfInBounds_toArray, List.set_cons_zero, List.set_cons_succ, e0, e1, e2, e3, e4, e5, e6, e7, e8, e9, e10, e11, e12, List.length_cons, List.length_nil, List.drop_succ_cons, List.drop_zero]
        clear e0 e1 e2 e3 e4 e5 e6 e7 e8 e9 e10 e11 e12 u13 u14 hF9
        generalize x 14 = v9 at MA ⊢
        have HMA := hid (show w9.ownsRow wb.heap.size 9 1 v9 (2 * (i + 1) + 1) (cS (mtR C O (i + 1))) from by
          have := MA.1
          rw [HST.out, show 2 * (i + 1) + 1 = 2 * i + 1 + 2 by omega]
          simpa [cS] using this)
        clear MA
        go_wp2
        go_roundw
        case rel => exact ⟨i + 1, by omega, by go_num, HMA, eB⟩
        case measure => simp [intOf] <;> omega
    · obtain rfl : i = C.length := by omega
      have hO2 := hO.out
      obtain ⟨g, rfl, g3, g4, g5, g6⟩ := own_pos hO2 (by omega)
      obtain ⟨g', og, e1, _, q1, q2, hcs⟩ := seg_cells (own_seg hO2) (by omega)
      injection e1 with e1; injection e1 with e1 e2
      subst e1; subst e2
      have hjn := HJN.out
      have hml := mtR_len C O C.length
      have JN := Any.strings_Join lays156 bextra156 g 0 kl (mtR C O C.length) ⟨#[58]⟩ wq (fun j x hx => hcs j _ (by simp [cS, hx])) g4 (by omega) (by omega) (by
        rw [join_jn, hjn]
        have := HLE.out
        omega)
      rw [join_jn, hjn, HMT.out, hml] at JN
      have JN := hid JN
      clear hO2 hjn hml hcs q1 q2
      go_wp2_with fail
      refine (JN.out).mono ?_
      clear JN
      rintro e w8 ⟨rfl, E8⟩
      have HX := hid ((HE0.out.trans hE1.out).trans E8)
      clear E8
      go_wp2
      go_ret
      exact ⟨rfl, HX.out⟩
end Go.Proofs.YtnepdfpooobmcaaGreatDoor
