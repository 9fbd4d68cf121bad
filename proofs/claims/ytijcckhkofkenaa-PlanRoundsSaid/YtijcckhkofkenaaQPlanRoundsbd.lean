/- Contracts and lemmas for the proof of PlanRounds; each theorem states its own conditions. -/
import Derived.Test.YtijcckhkofkenaaQPlanRoundsbc
import Derived.BigQuiet
set_option linter.unusedVariables false
set_option linter.unusedSimpArgs false
/- Contracts and lemmas for the proofs of this seat; each theorem states its own conditions. -/
namespace Go.Proofs.Ytijcckhkofkenaa
open Go.RowKit
def addA : Ops := [⟨2, ⟨#[97]⟩, ⟨#[]⟩, 0⟩]
theorem addA_ok : deedE addA = 0 := by decide +kernel
theorem addA_rnd : iN (rndTo [addA, addA] 2) = [0, 1] := by decide +kernel
def aheadB (D : List Ops) (i : Nat) : Nat → Bool
  | 0 => decide (rnd D i = 0)
  | k + 1 => aheadB D i k || (clashB (D.getD k []) (D.getD i []) && decide (rnd D k + 1 = rnd D i))
theorem ahead_keep (D : List Ops) (i : Nat) : ∀ {k j : Nat}, k ≤ j → aheadB D i k = true → aheadB D i j = true
  | k, 0, h, hk => by obtain rfl : k = 0 := by omega
                      exact hk
  | k, j + 1, h, hk => by
    rcases Nat.lt_or_ge k (j + 1) with e | e
    · have := ahead_keep D i (k := k) (j := j) (by omega) hk
      simp [aheadB, this]
    · obtain rfl : k = j + 1 := by omega
      exact hk
theorem ahead_all (D : List Ops) (i : Nat) : aheadB D i i = true := by
  rcases (rnd_spec D i).1 with h | ⟨j, hj, hc, he⟩
  · exact ahead_keep D i (k := 0) (Nat.zero_le _) (by simp [aheadB, h])
  · exact ahead_keep D i (k := j + 1) hj (by rw [aheadB, hc, he]; simp)
theorem seg_ds2 {w : World} {b b1 b2 : Nat} {d1 d2 : Ops} (h : w.heap[b]? = some (.cells #[.slice (some ⟨b1, 0, none⟩) d1.length d1.length, .slice (some ⟨b2, 0, none⟩) d2.length d2.length] 52 (0, 0)))
    (h1 : Seg w (.slice (some ⟨b1, 0, none⟩) d1.length d1.length) 4 d1.length (cO d1)) (h2 : Seg w (.slice (some ⟨b2, 0, none⟩) d2.length d2.length) 4 d2.length (cO d2)) : SegDs w (.slice (some ⟨b, 0, none⟩) 2 2) [d1, d2] :=
  SegDs.mk' (D := [d1, d2]) (Nat.le_refl _) (by simp [maxLen]) fun j d hd => by
    have hb := blk2 h
    rcases j with _ | _ | j
    · simp at hd; subst hd; exact ⟨_, _, hb.1, h1⟩
    · simp at hd; subst hd; exact ⟨_, _, hb.2.1, h2⟩
    · simp at hd
set_option maxRecDepth 100000 in
set_option maxHeartbeats 4000000 in
theorem prounds_walk (vd : Value) (ls : List (List Int)) (w : World) (hvd : SegLL w vd ls) :
    Calls Try.prog 10 #[vd] w fun e w' => e = .returned (.bool true) ∧ Ext w w' := by
  have b1 := heap_alloc_new w (.cells #[.int .i64 2, .string ⟨#[97]⟩, .string ⟨#[]⟩, .int .i64 0] 79)
  have E1 := (Ext.refl w).alloc (.cells #[.int .i64 2, .string ⟨#[97]⟩, .string ⟨#[]⟩, .int .i64 0] 79)
  have b2 := heap_alloc_new (w.alloc (.cells #[.int .i64 2, .string ⟨#[97]⟩, .string ⟨#[]⟩, .int .i64 0] 79)) (.cells #[.int .i64 2, .string ⟨#[97]⟩, .string ⟨#[]⟩, .int .i64 0] 79)
  have E2 := (Ext.refl (w.alloc (.cells #[.int .i64 2, .string ⟨#[97]⟩, .string ⟨#[]⟩, .int .i64 0] 79))).alloc (.cells #[.int .i64 2, .string ⟨#[97]⟩, .string ⟨#[]⟩, .int .i64 0] 79)
  have b3 := heap_alloc_new ((w.alloc (.cells #[.int .i64 2, .string ⟨#[97]⟩, .string ⟨#[]⟩, .int .i64 0] 79)).alloc (.cells #[.int .i64 2, .string ⟨#[97]⟩, .string ⟨#[]⟩, .int .i64 0] 79)) (.cells #[.slice (some ⟨w.heap.size, 0, none⟩) 1 1, .slice (some ⟨w.heap.size + 1, 0, none⟩) 1 1] 52)
  have E3 := (Ext.refl ((w.alloc (.cells #[.int .i64 2, .string ⟨#[97]⟩, .string ⟨#[]⟩, .int .i64 0] 79)).alloc (.cells #[.int .i64 2, .string ⟨#[97]⟩, .string ⟨#[]⟩, .int .i64 0] 79))).alloc (.cells #[.slice (some ⟨w.heap.size, 0, none⟩) 1 1, .slice (some ⟨w.heap.size + 1, 0, none⟩) 1 1] 52)
  have hs1 : (w.alloc (.cells #[.int .i64 2, .string ⟨#[97]⟩, .string ⟨#[]⟩, .int .i64 0] 79)).heap.size = w.heap.size + 1 := by simp
  have hs2 : ((w.alloc (.cells #[.int .i64 2, .string ⟨#[97]⟩, .string ⟨#[]⟩, .int .i64 0] 79)).alloc (.cells #[.int .i64 2, .string ⟨#[97]⟩, .string ⟨#[]⟩, .int .i64 0] 79)).heap.size = w.heap.size + 2 := by simp
  replace b1 := E3.heap (E2.heap b1)
  rw [hs1] at b2
  rw [hs2] at b3
  replace b2 := E3.heap b2
  have E := (E1.trans E2).trans E3
  have RK := rounds_ok (.slice (some ⟨w.heap.size + 2, 0, none⟩) 2 2) [addA, addA] _ (seg_ds2 (d1 := addA) (d2 := addA) b3 (seg_blk (xs := cO addA) b1 rfl (Nat.le_refl _) (by simp [maxLen, addA])) (seg_blk (xs := cO addA) b2 rfl (Nat.le_refl _) (by simp [maxLen, addA])))
    (by intro d hd; simp at hd; subst hd; exact deed_ok addA_ok) (by intro d hd o ho; simp at hd; subst hd; simp [addA] at ho; subst ho; decide) (by simp)
  have RK := hid RK
  clear b1 b2 b3 E1 E2 E3 hs1 hs2
  go_enter Try.func10, Try.ntmps10
  go_wp2_with fail
  refine (RK.out).mono ?_
  rintro e w1 ⟨v1, rfl, ho1, E1⟩
  replace E := E.trans E1
  clear RK E1
  rw [show iN (rndTo [addA, addA] [addA, addA].length) = [0, 1] from addA_rnd] at ho1
  have s1 := (own_seg ho1).ext ((Ext.refl w1).alloc (.cells #[.int .i64 0, .int .i64 1] 3))
  have b1 := heap_alloc_new w1 (.cells #[.int .i64 0, .int .i64 1] 3)
  have Q := hid (equal_Int v1 (.slice (some ⟨w1.heap.size, 0, none⟩) 2 2) [0, 1] [0, 1] (w1.alloc (.cells #[.int .i64 0, .int .i64 1] 3)) s1 (seg_blk (xs := cI [0, 1]) b1 rfl (Nat.le_refl _) (by simp [maxLen])))
  clear ho1 s1 b1
  go_wp2_with fail
  refine (Q.out).mono ?_
  rintro e w2 ⟨rfl, n, rfl⟩
  replace E := (E.alloc (.cells #[.int .i64 0, .int .i64 1] 3)).drewN n
  clear Q
  obtain ⟨w2, hw2⟩ : ∃ w2, (w1.alloc (.cells #[.int .i64 0, .int .i64 1] 3)).drewN n = w2 := ⟨_, rfl⟩
  rw [hw2] at E
  replace hvd := hvd.ext E
  go_wp2_with fail
  clear hw2
  refine (deeds_any _ ls 20 _ hvd (by omega)).mono ?_
  rintro e w3 ⟨vD, us, D, rfl, hout, hds, hdg, hdl, E1⟩
  have hD := hds.seg hout
  obtain ⟨aD, cD, rfl⟩ := own_form hout
  have hl := hds.len
  replace E := E.trans E1
  clear E1 hout hds hvd
  rw [hl] at hD
  have hus : us.length = D.length := hl
  have dok : ∀ d ∈ D, DeedOk d := fun d h => (hdg d h).ok
  have dsm : ∀ d ∈ D, ∀ o ∈ d, o.from_.size ≤ 9223372036854775807 := fun d h => (hdg d h).sm
  have RK := rounds_ok _ D w3 hD dok dsm (by omega)
  obtain ⟨_, _, eD, hc1, hc2, hcell⟩ := hD.form
  injection eD with eD1 _ eD3
  subst eD1; subst eD3
  have HC := hid hcell
  have HD := hid hD
  have RK := hid RK
  clear hcell hD hdg hl
  unfold maxLen at hc2
  simp only [hus]
  clear hus
  go_wp2_with fail
  refine (RK.out).mono ?_
  rintro e w4 ⟨v4, rfl, ho4, E4⟩
  obtain ⟨a4, c4, rfl⟩ := own_form ho4
  have qn : ((D.length : Int) != (D.length : Int)) = false := by simp
  clear RK
  have ER := hid (fun (i : Nat) (hi : i < D.length) (w' : World) (Ew : Ext w4 w') => (by
    obtain ⟨g, c, he, _, _⟩ := own_form_g ho4 (by omega)
    injection he with he1 _ he3
    subst he1; subst he3
    refine ⟨g, rfl, ?_⟩
    have := (own_int (own_ext ho4 Ew) (i := i) (by rw [iN_len, rndTo_len]; exact hi)).1
    rw [iN_rnd D hi] at this
    exact this : ∃ g, a4 = some ⟨g, 0, none⟩ ∧ w'.cell? ⟨g, i, none⟩ = some (.int .i64 (rnd D i : Int))))
  obtain ⟨B, hB⟩ : ∃ B, w4.heap.size = B := ⟨_, rfl⟩
  have hBE : ∀ w' : World, Ext w4 w' → B ≤ w'.heap.size := fun w' h => by have := h.size'; omega
  have hBE := hid hBE
  have HB := hid hB
  clear ho4 hB
  replace HD := hid (HD.out.ext E4)
  replace E := E.trans E4
  have HE4 := hid E4
  clear E4
  obtain ⟨wS, hwS⟩ : ∃ wS : World, wS = w4 := ⟨_, rfl⟩
  go_wp2_with fail
  go_loopw [8, 9, 10, 54, 59] (fun o _ _ nv _ wr => ∃ r : Nat, r ≤ D.length ∧ nv = .int .i64 r ∧ wr.ownsRow B 3 1 o (byR D D.length r).length (cN (byR D D.length r)) ∧ Ext w4 wr) (fun _ _ _ nv _ _ => D.length - (intOf nv).toNat)
  case atStart => exact ⟨0, Nat.zero_le _, rfl, World.ownsRow_nil _ _ _ _, Ext.refl _⟩
  case round =>
    obtain ⟨wo, rfl⟩ : ∃ wo : World, wo = wr := ⟨_, rfl⟩
    obtain ⟨r, hr, rfl, ho, Er⟩ := hrel
    by_cases hrl : r < D.length
    · go_wp2_with fail
      go_loopw [8, 10, 59] (fun o _ iv wr => ∃ i : Nat, i ≤ D.length ∧ iv = .int .i64 i ∧ wr.ownsRow B 3 1 o (byR D D.length r ++ ofR D r i).length (cN (byR D D.length r ++ ofR D r i)) ∧ Ext w4 wr) (fun _ _ iv _ => D.length - (intOf iv).toNat)
      case atStart => exact ⟨0, Nat.zero_le _, rfl, by rw [show ofR D r 0 = [] from rfl, List.append_nil]; exact ho, Er⟩
      case round =>
        clear ho Er
        obtain ⟨i, hi, rfl, ho, Ei⟩ := hrel
        by_cases hil : i < D.length
        · obtain ⟨ao, co, rfl⟩ := own_form ho
          obtain ⟨gr, rfl, cr⟩ := ER.out i hil wr Ei
          have hln : (byR D D.length r ++ ofR D r i).length ≤ 10000 := by
            have h1 := byR_len D D.length r
            have h2 := ofR_len D r i
            have h3 : D.length * r ≤ 20 * 20 := Nat.mul_le_mul (by omega) (by omega)
            simp; omega
          have hsc := ofR_succ D r i
          obtain ⟨X, hX⟩ : ∃ X, rnd D i = X := ⟨_, rfl⟩
          rw [hX] at cr hsc
          by_cases hx : X = r
          · subst hx
            rw [if_pos rfl] at hsc
            have HS := hid (show byR D D.length X ++ ofR D X (i + 1) = (byR D D.length X ++ ofR D X i) ++ [i] by rw [hsc, List.append_assoc])
            have HX := hid hX
            clear hsc hX
            generalize byR D D.length X ++ ofR D X i = R at ho hln HS
            have qx : ((X : Int) == (X : Int)) = true := by simp
            have p1 : Seg (wr.alloc (.cells #[.int .i64 (i : Int)] 3)) (.slice (some ⟨wr.heap.size, 0, none⟩) 1 1) 1 1 [.int .i64 (i : Int)] := seg_one (heap_alloc_new wr _)
            have p2 := ho.alloc (.cells #[.int .i64 (i : Int)] 3)
            have p3 : B ≤ (wr.alloc (.cells #[.int .i64 (i : Int)] 3)).heap.size := hBE.out _ (Ei.alloc _)
            go_wp2_with (first | (at_builtin; refine (wpList_app rfl _ _ 22 rfl B 3 (.int .i64 0) 1 8 Try.underlying22 infoI rfl (by decide) _ R.length (cN R) rfl p2 _ 1 [.int .i64 (i : Int)] rfl p1 (one_int _) (by omega) (by unfold maxLen; omega) p3 ?_); intro v' w9 ho' hg))
            go_roundw
            case rel => exact ⟨i + 1, by omega, by go_num, by rw [HS.out, List.length_append, cN_app]; exact ho', (Ei.alloc _).grown hg (fun k hk => HB.out ▸ own_ge p2 k hk)⟩
            case measure => simp [intOf] <;> omega
          · rw [if_neg hx, List.append_nil] at hsc
            have HS := hid (show byR D D.length r ++ ofR D r (i + 1) = byR D D.length r ++ ofR D r i by rw [hsc])
            clear hsc hX
            generalize byR D D.length r ++ ofR D r i = R at ho hln HS
            have qx : ((X : Int) == (r : Int)) = false := by simp; omega
            go_wp2
            go_roundw
            case rel => exact ⟨i + 1, by omega, by go_num, by rw [HS.out]; exact ho, Ei⟩
            case measure => simp [intOf] <;> omega
        · obtain rfl : i = D.length := by omega
          rw [show byR D D.length r ++ ofR D r D.length = byR D D.length (r + 1) from rfl] at ho
          obtain ⟨ao, co, rfl⟩ := own_form ho
          go_wp2
          go_roundw
          case rel => exact ⟨r + 1, by omega, by go_num, ho, Ei⟩
          case measure => simp [intOf] <;> omega
    · obtain rfl : r = D.length := by omega
      have sO := own_seg ho
      obtain ⟨ao, co, rfl⟩ := own_form ho
      have hOl : (byR D D.length D.length).length = D.length := perm_len (byR_nodup D D.length D.length) (byR_all D)
      have OK := fun w' (E' : Ext wo w') => order_ok (.slice aD D.length cD) (.slice ao (byR D D.length D.length).length co) D (byR D D.length D.length) w' ((HD.out.ext Er).ext E') dok dsm (by omega) (sO.ext E') hOl (byR_nodup _ _ _) (fun i h => (byR_all D i).1 h)
      have hadm := (adm_ord (byR_nodup D D.length D.length) (byR_all D)).2 (byR_adm' D)
      rw [hOl] at hadm
      simp only [hadm] at OK
      clear hadm
      rw [hOl] at OK ⊢
      have OK := hid OK
      clear sO ho hOl
      go_wp2_with fail
      go_loopw [11, 12, 13, 14, 15, 76, 85] (fun _ _ _ _ _ iv _ wr => ∃ i : Nat, i ≤ D.length ∧ iv = .int .i64 i ∧ Ext wo wr) (fun _ _ _ _ _ iv _ _ => D.length - (intOf iv).toNat)
      case atStart => exact ⟨0, Nat.zero_le _, rfl, Ext.refl _⟩
      case round =>
        obtain ⟨wq, rfl⟩ : ∃ wq : World, wq = wr := ⟨_, rfl⟩
        obtain ⟨i, hi, rfl, Ei⟩ := hrel
        by_cases hil : i < D.length
        · obtain ⟨gr, rfl, ci⟩ := ER.out i hil wq (Er.trans Ei)
          obtain ⟨bD, oD, rfl, hcc⟩ := HC.out (by omega)
          obtain ⟨x2, y2, c2, s2⟩ := hcc i D[i] (List.getElem?_eq_getElem hil)
          have E4q := HE4.out.trans (Er.trans Ei)
          replace c2 := E4q.cell c2
          replace s2 := s2.ext E4q
          have d2 := dok _ (List.getElem_mem hil)
          have f2 := dsm _ (List.getElem_mem hil)
          have hq := hid (getD_at hil)
          generalize D[i] = q at c2 s2 d2 f2 hq
          obtain ⟨X, hX⟩ : ∃ X, rnd D i = X := ⟨_, rfl⟩
          rw [hX] at ci
          have hXl : X ≤ i := by rw [← hX]; exact rnd_le D i
          have HX := hid hX
          have HAI := hid (show aheadB D i 0 = decide (X = 0) by rw [aheadB, hX])
          clear hcc hX
          go_wp2_with fail
          go_loopw [12, 13, 14, 15, 85] (fun av _ _ _ kv wr => ∃ k : Nat, k ≤ i ∧ kv = .int .i64 k ∧ av = .bool (aheadB D i k) ∧ Ext wq wr) (fun _ _ _ _ kv _ => i - (intOf kv).toNat)
          case atStart => exact ⟨0, Nat.zero_le _, rfl, vB (by rw [HAI.out]; by_cases h : X = 0 <;> simp [h]), Ext.refl _⟩
          case round =>
            obtain ⟨wz, rfl⟩ : ∃ wz : World, wz = wr := ⟨_, rfl⟩
            obtain ⟨k, hk, rfl, rfl, Ek⟩ := hrel
            obtain ⟨ab, hab⟩ : ∃ ab, aheadB D i k = ab := ⟨_, rfl⟩
            rw [hab]
            by_cases hki : k < i
            · have hkl : k < D.length := by omega
              obtain ⟨_, _, he, hcc⟩ := HC.out (by omega)
              injection he with he; injection he with he1 he2
              subst he1; subst he2
              obtain ⟨x1, y1, c1, s1⟩ := hcc k D[k] (List.getElem?_eq_getElem hkl)
              have E4z := E4q.trans Ek
              replace c1 := E4z.cell c1
              replace s1 := s1.ext E4z
              have c2' := Ek.cell c2
              have ci' := Ek.cell ci
              obtain ⟨_, he, ck⟩ := ER.out k hkl wz ((Er.trans Ei).trans Ek)
              injection he with he; injection he with he1
              subst he1
              have d1 := dok _ (List.getElem_mem hkl)
              have f1 := dsm _ (List.getElem_mem hkl)
              have hp := hid (getD_at hkl)
              generalize D[k] = p at c1 s1 d1 f1 hp
              have CL := fun w' (E : Ext wz w') => clash_ok (.slice x1 p.length y1) (.slice x2 q.length y2) p q w' (s1.ext E) ((s2.ext Ek).ext E) d1 d2 f1 f2
              obtain ⟨cl, hcl⟩ : ∃ cl, clashB p q = cl := ⟨_, rfl⟩
              have hst : aheadB D i (k + 1) = (ab || (cl && decide (rnd D k + 1 = X))) := by rw [aheadB, hab, hp.out, hq.out, hcl, HX.out]
              have hlt : cl = true → rnd D k < X := fun h => by
                rw [← HX.out]; exact (rnd_spec D i).2 k hki (by rw [hp.out, hq.out, hcl]; exact h)
              rw [hcl] at CL
              have CL := hid CL
              clear hcc hcl hab
              obtain ⟨Y, hY⟩ : ∃ Y, rnd D k = Y := ⟨_, rfl⟩
              rw [hY] at ck hst hlt
              have HST := hid hst
              have HLT := hid hlt
              clear hY hst hlt ci c2 
              go_wp2_with fail
              refine wp_region_ph [.k (.slice (some ⟨bD, oD, none⟩) D.length cD), .k (.int .i64 k), .k (.pointer (some ⟨bD, oD + k, none⟩)), .k (.agg #[.slice x1 p.length y1]), .k (.slice (some ⟨bD, oD, none⟩) D.length cD), .k (.int .i64 i), .k (.pointer (some ⟨bD, oD + i, none⟩)), .k (.agg #[.slice x2 q.length y2]), .k (.tuple #[.bool cl, .int .i64 0]), .k (.tuple #[.bool cl, .int .i64 0]), .k (.bool cl), .k (.int .i64 0), .k (.bool cl), .k (.int .i64 0)] [] (by kernel_rfl) (by kernel_rfl) (by kernel_rfl) rfl rfl ?hs ?hC ?he
              case hC =>
                intro i hi
                simp at hi
              case hs =>
                refine ⟨?_, ?_, ?_, ?_, ?_, ?_, ?_, ?_, ?_, ?_, ?_, ?_, ?_, ?_, trivial⟩
                all_goals (
                  intro x w' hE hd
                  try simp [PhDeps, at_k, at_p, at_t, at_any, Region.binds] at hd
                  try ((with_reducible refine Exists.elim hd ?_); clear hd; intro y hd; obtain ⟨hd, hG⟩ := hd)
                  have e1 := hE.cell c1
                  have e2 := hE.cell c2'
                  first | simp only [frL, List.length_cons, List.length_nil, List.take_succ_cons, List.take_zero, Nat.reduceAdd, Nat.zero_add, List.setIfInBounds_toArray, List.set_cons_zero, List.set_cons_succ, hd] | simp only [frL, List.length_cons, List.length_nil, List.take_succ_cons, List.take_zero, Nat.reduceAdd, Nat.zero_add, List.setIfInBounds_toArray, List.set_cons_zero, List.set_cons_succ]
                  go_wp2_with (first | (go_at_call 50; refine (CL.out w' hE).mono ?_; rintro e wa ⟨rfl, hea⟩))
                  all_goals first
                    | ((with_reducible refine phK ?_ ?_); (focus rfl); (repeat (first | (with_reducible assumption) | (with_reducible exact Ext.refl _) | (with_reducible refine Ext.drew ?_) | (with_reducible refine Ext.drewN ?_ _) | (with_reducible refine Ext.alloc ?_ _) | (with_reducible refine Ext.trans ?_ (by with_reducible assumption)))))
                    | ((with_reducible refine phT rfl hG ?_); (repeat (first | (with_reducible assumption) | (with_reducible exact Ext.refl _) | (with_reducible refine Ext.drew ?_) | (with_reducible refine Ext.drewN ?_ _) | (with_reducible refine Ext.alloc ?_ _) | (with_reducible refine Ext.trans ?_ (by with_reducible assumption)))))
                    | ((with_reducible refine phU hG ?_); (repeat (first | (with_reducible assumption) | (with_reducible exact Ext.refl _) | (with_reducible refine Ext.drew ?_) | (with_reducible refine Ext.drewN ?_ _) | (with_reducible refine Ext.alloc ?_ _) | (with_reducible refine Ext.trans ?_ (by with_reducible assumption)))))
                    | (with_reducible exact phBox hE)
                    | (with_reducible exact phRow hE))
              case he =>
                intro x w6 E6 hd
                simp [PhEnd, at_k, at_p, at_t, at_any] at hd
                simp only [frL, List.length_cons, List.length_nil, List.take_succ_cons, List.take_zero, Nat.reduceAdd, Nat.zero_add, List.setIfInBounds_toArray, List.set_cons_zero, List.set_cons_succ, hd, List.length_cons, List.length_nil, List.drop_succ_cons, List.drop_zero]
                clear hd
                replace ck := E6.cell ck
                replace ci' := E6.cell ci'
                clear CL
                cases cl with
                | false =>
                  go_wp2_with fail
                  go_quiet (fail)
                  cases ab with
                  | true =>
                    have HN := hid (show aheadB D i (k + 1) = true by rw [HST.out]; rfl)
                    go_wp2_with fail
                    go_quiet (fail)
                    go_wp2
                    go_roundw
                    case rel => exact ⟨k + 1, by omega, by go_num, by rw [HN.out], (Ek.trans E6).drewN _⟩
                    case measure => simp [intOf] <;> omega
                  | false =>
                    have HN := hid (show aheadB D i (k + 1) = false by rw [HST.out]; rfl)
                    go_wp2_with fail
                    go_quiet (fail)
                    go_wp2
                    go_roundw
                    case rel => exact ⟨k + 1, by omega, by go_num, by rw [HN.out], (Ek.trans E6).drewN _⟩
                    case measure => simp [intOf] <;> omega
                | true =>
                  have hlt := HLT.out rfl
                  have hd : ¬ ((Y : Int) ≥ (X : Int)) := by omega
                  have hd2 : ¬ ((X : Int) ≤ (Y : Int)) := by omega
                  clear hlt
                  go_wp2_with fail
                  go_quiet (fail)
                  cases ab with
                  | true =>
                    have HN := hid (show aheadB D i (k + 1) = true by rw [HST.out]; rfl)
                    go_wp2_with fail
                    go_quiet (fail)
                    go_wp2
                    go_roundw
                    case rel => exact ⟨k + 1, by omega, by go_num, by rw [HN.out], (Ek.trans E6).drewN _⟩
                    case measure => simp [intOf] <;> omega
                  | false =>
                    by_cases hyx : Y + 1 = X
                    · have HN := hid (show aheadB D i (k + 1) = true by rw [HST.out]; simp [hyx])
                      have hq2 := hid (show ((Y : Int) == (X : Int) - 1) = true by simp; omega)
                      clear hyx
                      go_wp2_with fail
                      go_quiet (fail)
                      go_wp2
                      go_roundw
                      case rel => exact ⟨k + 1, by omega, by go_num, by rw [HN.out]; exact vB hq2.out, (Ek.trans E6).drewN _⟩
                      case measure => simp [intOf] <;> omega
                    · have HN := hid (show aheadB D i (k + 1) = false by rw [HST.out]; simp [hyx])
                      have hq2 := hid (show ((Y : Int) == (X : Int) - 1) = false by simp; omega)
                      clear hyx
                      go_wp2_with fail
                      go_quiet (fail)
                      go_wp2
                      go_roundw
                      case rel => exact ⟨k + 1, by omega, by go_num, by rw [HN.out]; exact vB hq2.out, (Ek.trans E6).drewN _⟩
                      case measure => simp [intOf] <;> omega
            · obtain rfl : k = i := by omega
              have hab2 := hab
              rw [ahead_all] at hab2
              subst hab2
              clear hab
              go_wp2
              go_roundw
              case rel => exact ⟨k + 1, by omega, by go_num, Ei.trans Ek⟩
              case measure => simp [intOf] <;> omega
        · obtain rfl : i = D.length := by omega
          go_wp2_with fail
          refine (OK.out _ Ei).mono ?_
          rintro e wz ⟨rfl, Ez⟩
          go_wp2
          go_ret
          exact ⟨rfl, ((E.trans Er).trans Ei).trans Ez⟩
end Go.Proofs.Ytijcckhkofkenaa
