/- Contracts and lemmas for the proof of PlanPlays; each theorem states its own conditions. -/
import Derived.Test.YtghemmmkbpfdhaaGreatDoorQPlanPlaysbs
import Derived.Test.YtghemmmkbpfdhaaGreatDoorQPlanPlaysaw
import Derived.Test.YtghemmmkbpfdhaaGreatDoorQPlanPlaysbo
import Derived.Test.YtghemmmkbpfdhaaGreatDoorQPlanPlaysbk
import Derived.Test.YtghemmmkbpfdhaaGreatDoorQPlanPlaysbq
set_option linter.unusedVariables false
set_option linter.unusedSimpArgs false
/- Contracts and lemmas for the proofs of this seat; each theorem states its own conditions. -/
namespace Go.Proofs.YtghemmmkbpfdhaaGreatDoor
open Go.RowKit Go.Maps
/-! the document's table, in memory: Is, May, Ready -/
def goneB (g : Nat → Bool) (n : Nat) : List Bool := (List.range n).map g
theorem goneB_len (g : Nat → Bool) (n : Nat) : (goneB g n).length = n := by simp [goneB]
theorem goneB_at (g : Nat → Bool) {n i : Nat} (h : i < n) : (goneB g n)[i]? = some (g i) := by simp [goneB, h]
structure RTab (w : World) (bt : Nat) (A : List Ops) (g : Nat → Bool) (aD : Option Addr) (cD : Nat) (aG : Option Addr) (cG : Nat) : Prop where
  deeds : w.cell? ⟨bt, 0, none⟩ = some (.slice aD A.length cD)
  gone : w.cell? ⟨bt, 1, none⟩ = some (.slice aG A.length cG)
  sD : SegDs w (.slice aD A.length cD) A
  sG : Seg w (.slice aG A.length cG) 1 A.length (cB (goneB g A.length))
theorem RTab.ext {w w' : World} {bt : Nat} {A : List Ops} {g : Nat → Bool} {aD aG : Option Addr} {cD cG : Nat} (h : RTab w bt A g aD cD aG cG) (E : Ext w w') : RTab w' bt A g aD cD aG cG :=
  ⟨E.cell h.deeds, E.cell h.gone, h.sD.ext E, h.sG.ext E⟩
theorem RTab.at {w : World} {bt : Nat} {A : List Ops} {g : Nat → Bool} {aD aG : Option Addr} {cD cG : Nat} (h : RTab w bt A g aD cD aG cG) {i : Nat} (hi : i < A.length) :
    (∃ b off, aG = some ⟨b, off, none⟩ ∧ w.cell? ⟨b, off + i, none⟩ = some (.bool (g i))) ∧
    ∃ b off, aD = some ⟨b, off, none⟩ ∧ ∃ au cu, w.cell? ⟨b, off + i, none⟩ = some (.slice au A[i].length cu) ∧ Seg w (.slice au A[i].length cu) 4 A[i].length (cO A[i]) := by
  constructor
  · obtain ⟨b, off, rfl, _, _, _, hc⟩ := seg_cells h.sG (by omega)
    exact ⟨b, off, rfl, hc i _ (by simp [cB, goneB_at g hi])⟩
  · obtain ⟨a, c, e, h1, h2, h3⟩ := h.sD.form
    injection e with e1 _ e3
    subst e1; subst e3
    obtain ⟨b, off, rfl, h4⟩ := h3 (by omega)
    exact ⟨b, off, rfl, h4 i A[i] (List.getElem?_eq_getElem hi)⟩
def isB (A : List Ops) (g : Nat → Bool) (z : Int) : Bool := if 0 ≤ z ∧ z < (A.length : Int) then !g z.toNat else false
theorem isB_nat {A : List Ops} {g : Nat → Bool} {i : Nat} (h : i < A.length) : isB A g (i : Int) = !g i := by
  unfold isB; rw [if_pos (by omega)]; simp
theorem isB_no {A : List Ops} {g : Nat → Bool} {z : Int} (h : ¬ (0 ≤ z ∧ z < (A.length : Int))) : isB A g z = false := by unfold isB; rw [if_neg h]
set_option maxRecDepth 10000 in
set_option maxHeartbeats 1000000 in
theorem ris_any {w : World} {bt : Nat} {A : List Ops} {g : Nat → Bool} {aD aG : Option Addr} {cD cG : Nat} (h : RTab w bt A g aD cD aG cG) (z : Int) (hl : A.length ≤ 60) :
    Calls Tryz.prog 73 #[.pointer (some ⟨bt, 0, none⟩), .int .i64 z] w fun e w' => e = .returned (.bool (isB A g z)) ∧ Ext w w' := by
  have c0 := h.deeds
  have c1 := h.gone
  have W := rwithin_any z 0 ((A.length : Int) - 1) w
  by_cases hr : 0 ≤ z ∧ z < (A.length : Int)
  · obtain ⟨i, rfl⟩ : ∃ i : Nat, z = (i : Int) := ⟨z.toNat, by omega⟩
    have hi : i < A.length := by omega
    obtain ⟨⟨b, off, rfl, hc⟩, _⟩ := h.at hi
    have qd : (decide (0 ≤ (i : Int)) && decide ((i : Int) ≤ (A.length : Int) - 1)) = true := by simp; omega
    rw [qd] at W
    have W := hid W
    rw [isB_nat hi]
    clear h hr qd
    generalize g i = gi at hc ⊢
    go_enter Tryz.func73, Tryz.ntmps73
    go_wp2_with (first | (go_at_call 51; refine (W.out).mono ?_; rintro e w1 ⟨rfl, rfl⟩))
    go_ret
    exact ⟨rfl, Ext.refl _⟩
  · rw [isB_no hr]
    have qd : (decide (0 ≤ z) && decide (z ≤ (A.length : Int) - 1)) = false := by
      simp only [Bool.and_eq_false_iff, decide_eq_false_iff_not]; omega
    rw [qd] at W
    have W := hid W
    clear h hr qd
    go_enter Tryz.func73, Tryz.ntmps73
    go_wp2_with (first | (go_at_call 51; refine (W.out).mono ?_; rintro e w1 ⟨rfl, rfl⟩))
    go_ret
    exact ⟨rfl, Ext.refl _⟩
theorem may_no {A : List Ops} {g : Nat → Bool} {s t : Nat} (ht : t < s) (hg : g t = false) (hc : clashB (A.getD t []) (A.getD s []) = true) : mayB A g s = false := by
  cases h : mayB A g s with
  | false => rfl
  | true => have := mayB_iff.1 h t ht hg; rw [hc] at this; cases this
set_option maxRecDepth 100000 in
set_option maxHeartbeats 4000000 in
theorem rmay_any {w : World} {bt : Nat} {A : List Ops} {g : Nat → Bool} {aD aG : Option Addr} {cD cG : Nat} (h : RTab w bt A g aD cD aG cG) (dok : ∀ d ∈ A, DeedOk d) (s : Nat) (hs : s < A.length) (hl : A.length ≤ 60) :
    Calls Tryz.prog 74 #[.pointer (some ⟨bt, 0, none⟩), .int .i64 s] w fun e w' => e = .returned (.bool (mayB A g s)) ∧ Ext w w' := by
  obtain ⟨⟨bG, oG, rfl, _⟩, bD, oD, rfl, x2, y2, c2, s2⟩ := h.at hs
  have hcs := hid h.sG
  have c0 := h.deeds
  have c1 := h.gone
  have HT := hid h
  have d2 := dok _ (List.getElem_mem hs)
  have hq := hid (show A.getD s [] = A[s] by simp [hs])
  generalize A[s] = q at c2 s2 d2 hq
  clear h
  go_enter Tryz.func74, Tryz.ntmps74
  go_wp2_with fail
  go_loopw [5, 7] (fun _ iv wr => ∃ k : Nat, k ≤ s ∧ iv = .int .i64 k ∧ Hid (∀ t < k, g t = false → clashB (A.getD t []) q = false) ∧ Ext w wr) (fun _ iv _ => s - (intOf iv).toNat)
  case atStart => exact ⟨0, Nat.zero_le _, rfl, hid (fun t h => by omega), Ext.refl _⟩
  case round =>
    obtain ⟨wz, rfl⟩ : ∃ wz : World, wz = wr := ⟨_, rfl⟩
    obtain ⟨k, hk, rfl, hok, Ek⟩ := hrel
    by_cases hks : k < s
    · have hkl : k < A.length := by omega
      obtain ⟨⟨_, _, eG, cg⟩, _, _, eD, x1, y1, k1, s1⟩ := (HT.out.ext Ek).at hkl
      injection eG with eG; injection eG with eG1 eG2
      subst eG1; subst eG2
      injection eD with eD; injection eD with eD1 eD2
      subst eD1; subst eD2
      have e0 := Ek.cell c0
      have e1 := Ek.cell c1
      have k2 := Ek.cell c2
      have d1 := dok _ (List.getElem_mem hkl)
      have hp := hid (show A.getD k [] = A[k] by simp [hkl])
      generalize A[k] = p at k1 s1 d1 hp
      cases hgk : g k with
      | true =>
        rw [hgk] at cg
        have HN := hid (fun (t : Nat) (ht : t < k + 1) (hg : g t = false) => (by
          by_cases e : t = k
          · subst e; rw [hgk] at hg; cases hg
          · exact hok.out t (by omega) hg : clashB (A.getD t []) q = false))
        clear hgk k1 s1
        go_wp2_with fail
        go_quiet (fail)
        go_wp2
        go_roundw
        case rel => exact ⟨k + 1, by omega, by go_num, HN, Ek.drewN _⟩
        case measure => simp [intOf] <;> omega
      | false =>
        rw [hgk] at cg
        have CL := fun w' (E : Ext wz w') => rclash_any (.slice x1 p.length y1) (.slice x2 q.length y2) p q w' (s1.ext E) ((s2.ext Ek).ext E) d1 d2
        have HNO := hid (fun (hc : clashB p q = true) => may_no (A := A) (g := g) (s := s) hks hgk (by rw [hp.out, hq.out]; exact hc))
        have HYE := hid (fun (hc : clashB p q = false) (t : Nat) (ht : t < k + 1) (hg : g t = false) => (by
          by_cases e : t = k
          · subst e; rw [hp.out]; exact hc
          · exact hok.out t (by omega) hg : clashB (A.getD t []) q = false))
        generalize clashB p q = cl at CL HNO HYE
        have CL := hid CL
        clear hgk s1
        go_wp2_with fail
        refine wp_region_ph [.k (.pointer (some ⟨bt, 0, none⟩)), .k (.pointer (some ⟨bt, 0, none⟩)), .k (.pointer (some ⟨bt, 1, none⟩)), .k (.slice (some ⟨bG, oG, none⟩) A.length cG), .k (.int .i64 k), .k (.pointer (some ⟨bG, oG + k, none⟩)), .k (.bool false), .k (.bool true), .k (.bool true), .k (.pointer (some ⟨bt, 0, none⟩)), .k (.pointer (some ⟨bt, 0, none⟩)), .k (.pointer (some ⟨bt, 0, none⟩)), .k (.slice (some ⟨bD, oD, none⟩) A.length cD), .k (.int .i64 k), .k (.pointer (some ⟨bD, oD + k, none⟩)), .k (.agg #[.slice x1 p.length y1]), .k (.pointer (some ⟨bt, 0, none⟩)), .k (.pointer (some ⟨bt, 0, none⟩)), .k (.pointer (some ⟨bt, 0, none⟩)), .k (.slice (some ⟨bD, oD, none⟩) A.length cD), .k (.int .i64 s), .k (.pointer (some ⟨bD, oD + s, none⟩)), .k (.agg #[.slice x2 q.length y2]), .k (.bool cl)] [] (by kernel_rfl) (by kernel_rfl) (by kernel_rfl) rfl rfl ?hs ?hC ?he
        case hC =>
          intro i hi
          simp at hi
        case hs =>
          refine ⟨?_, ?_, ?_, ?_, ?_, ?_, ?_, ?_, ?_, ?_, ?_, ?_, ?_, ?_, ?_, ?_, ?_, ?_, ?_, ?_, ?_, ?_, ?_, ?_, trivial⟩
          all_goals (
            intro x w' hE hd
            try simp [PhDeps, at_k, at_p, at_t, at_any, Region.binds] at hd
            try ((with_reducible refine Exists.elim hd ?_); clear hd; intro y hd; obtain ⟨hd, hG⟩ := hd)
            have f0 := hE.cell e0
            have f1 := hE.cell e1
            have f2 := hE.cell k1
            have f3 := hE.cell k2
            have f4 := hE.cell cg
            first | simp only [frL, List.length_cons, List.length_nil, List.take_succ_cons, List.take_zero, Nat.reduceAdd, Nat.zero_add, List.setIfInBounds_toArray, List.set_cons_zero, List.set_cons_succ, hd] | simp only [frL, List.length_cons, List.length_nil, List.take_succ_cons, List.take_zero, Nat.reduceAdd, Nat.zero_add, List.setIfInBounds_toArray, List.set_cons_zero, List.set_cons_succ]
            go_wp2_with (first | (go_at_call 105; refine (CL.out w' hE).mono ?_; rintro e wa ⟨rfl, hea⟩))
            all_goals first
              | ((with_reducible refine phK ?_ ?_); (focus rfl); (repeat (first | (with_reducible assumption) | (with_reducible exact Ext.refl _) | (with_reducible refine Ext.drew ?_) | (with_reducible refine Ext.drewN ?_ _) | (with_reducible refine Ext.alloc ?_ _) | (with_reducible refine Ext.trans ?_ (by with_reducible assumption)))))
              | ((with_reducible refine phT rfl hG ?_); (repeat (first | (with_reducible assumption) | (with_reducible exact Ext.refl _) | (with_reducible refine Ext.drew ?_) | (with_reducible refine Ext.drewN ?_ _) | (with_reducible refine Ext.alloc ?_ _) | (with_reducible refine Ext.trans ?_ (by with_reducible assumption)))))
              | ((with_reducible refine phU hG ?_); (repeat (first | (with_reducible assumption) | (with_reducible exact Ext.refl _) | (with_reducible refine Ext.drew ?_) | (with_reducible refine Ext.drewN ?_ _) | (with_reducible refine Ext.alloc ?_ _) | (with_reducible refine Ext.trans ?_ (by with_reducible assumption)))))
              | (with_reducible exact phBox hE)
              | (with_reducible exact phRow hE))
        case he =>
          intro x w6 E6 hd
          simp [PhEnd, at_k, at_p, at_t, at_any] at hd
          simp only [frL, List.length_cons, List.length_nil, List.take_succ_cons, List.take_zero, Nat.reduceAdd, Nat.zero_add, List.setIfInBounds_toArray, List.set_cons_zero, List.set_cons_succ, hd, List.length_cons, List.length_nil, List.drop_succ_cons, List.drop_zero]
          clear hd
          clear CL
          cases cl with
          | true =>
            have HN := hid (HNO.out rfl)
            clear HNO HYE
            go_wp2
            go_ret
            exact ⟨rB HN.out.symm, Ek.trans E6⟩
          | false =>
            have HN := hid (HYE.out rfl)
            clear HNO HYE
            go_wp2
            go_roundw
            case rel => exact ⟨k + 1, by omega, by go_num, HN, Ek.trans E6⟩
            case measure => simp [intOf] <;> omega
    · obtain rfl : k = s := by omega
      have HY := hid (show mayB A g k = true from mayB_iff.2 fun t ht hg => by rw [hq.out]; exact hok.out t ht hg)
      go_wp2
      go_ret
      exact ⟨rB HY.out.symm, Ek⟩
set_option maxRecDepth 100000 in
set_option maxHeartbeats 4000000 in
theorem rready_any {w : World} {bt : Nat} {A : List Ops} {g : Nat → Bool} {aD aG : Option Addr} {cD cG : Nat} (h : RTab w bt A g aD cD aG cG) (dok : ∀ d ∈ A, DeedOk d) (hl : A.length ≤ 60) :
    Calls Tryz.prog 43 #[.pointer (some ⟨bt, 0, none⟩)] w fun e w' => ∃ v', e = .returned v' ∧ w'.ownsRow w.heap.size 3 1 v' (readyL A g A.length).length (cN (readyL A g A.length)) ∧ Ext w w' := by
  have c0 := h.deeds
  have HT := hid h
  clear h
  go_enter Tryz.func43, Tryz.ntmps43
  go_wp2_with fail
  go_loopw [3, 4, 10] (fun ov _ iv wr => ∃ k : Nat, k ≤ A.length ∧ iv = .int .i64 k ∧ wr.ownsRow w.heap.size 3 1 ov (readyL A g k).length (cN (readyL A g k)) ∧ Ext w wr) (fun _ _ iv _ => A.length - (intOf iv).toNat)
  case atStart => exact ⟨0, Nat.zero_le _, rfl, World.ownsRow_nil _ _ _ _, Ext.refl _⟩
  case round =>
    obtain ⟨wz, rfl⟩ : ∃ wz : World, wz = wr := ⟨_, rfl⟩
    obtain ⟨k, hk, rfl, ho, Ek⟩ := hrel
    by_cases hkl : k < A.length
    · have IS := ris_any (HT.out.ext Ek) (k : Int) hl
      rw [isB_nat hkl] at IS
      have IS := hid IS
      have hlen := ready_len A g k
      have hsc := ready_succ A g k
      have MY := hid (fun w' (E : Ext wz w') => rmay_any ((HT.out.ext Ek).ext E) dok k hkl hl)
      generalize mayB A g k = m at hsc MY
      generalize g k = gk at hsc IS
      obtain ⟨ao, co, rfl⟩ := own_form ho
      cases gk with
      | true =>
        have HS := hid (show readyL A g (k + 1) = readyL A g k by rw [hsc]; simp)
        clear hsc
        generalize readyL A g k = R at ho hlen HS
        go_wp2_with (first | (go_at_call 73; refine (IS.out).mono ?_; rintro e w1 ⟨rfl, E1⟩))
        go_roundw
        case rel => exact ⟨k + 1, by omega, by go_num, by rw [HS.out]; exact own_ext ho E1, Ek.trans E1⟩
        case measure => simp [intOf] <;> omega
      | false =>
        cases m with
        | false =>
          have HS := hid (show readyL A g (k + 1) = readyL A g k by rw [hsc]; simp)
          clear hsc
          generalize readyL A g k = R at ho hlen HS
          go_wp2_with (first | (go_at_call 73; refine (IS.out).mono ?_; rintro e w1 ⟨rfl, E1⟩) | (go_at_call 74; refine (MY.out _ E1).mono ?_; rintro e w2 ⟨rfl, E2⟩))
          go_roundw
          case rel => exact ⟨k + 1, by omega, by go_num, by rw [HS.out]; exact own_ext ho (E1.trans E2), Ek.trans (E1.trans E2)⟩
          case measure => simp [intOf] <;> omega
        | true =>
          have HS := hid (show readyL A g (k + 1) = readyL A g k ++ [k] by rw [hsc]; simp)
          clear hsc
          generalize readyL A g k = R at ho hlen HS
          go_wp2_with (first | (go_at_call 73; refine (IS.out).mono ?_; rintro e w1 ⟨rfl, E1⟩) | (go_at_call 74; refine (MY.out _ E1).mono ?_; rintro e w2 ⟨rfl, E2⟩; have ho2 := own_ext ho (E1.trans E2); have EE := Ek.trans (E1.trans E2); have p1 : Seg (w2.alloc (.cells #[.int .i64 (k : Int)] 3)) (.slice (some ⟨w2.heap.size, 0, none⟩) 1 1) 1 1 [.int .i64 (k : Int)] := seg_one (heap_alloc_new w2 _); have p2 := ho2.alloc (.cells #[.int .i64 (k : Int)] 3); have p3 : w.heap.size ≤ (w2.alloc (.cells #[.int .i64 (k : Int)] 3)).heap.size := (EE.alloc _).size') | (at_builtin; refine (wpList_app rfl _ _ 24 rfl w.heap.size 3 (.int .i64 0) 1 8 Tryz.underlying24 infoI rfl (by decide) _ R.length (cN R) rfl p2 _ 1 [.int .i64 (k : Int)] rfl p1 (one_int _) (by omega) (by unfold maxLen; omega) p3 ?_); intro v' w9 ho' hg))
          go_roundw
          case rel => exact ⟨k + 1, by omega, by go_num, by rw [HS.out, List.length_append, cN_app]; exact ho', (EE.alloc _).grown hg (fun k hk => own_ge p2 k hk)⟩
          case measure => simp [intOf] <;> omega
    · obtain rfl : k = A.length := by omega
      go_wp2
      go_ret
      exact ⟨_, rfl, ho, Ek⟩
end Go.Proofs.YtghemmmkbpfdhaaGreatDoor

/- Contracts and lemmas for the proofs of this seat; each theorem states its own conditions. -/
namespace Go.Proofs.YtghemmmkbpfdhaaGreatDoor
open Go.RowKit
/-! the document's Deeds -/
def deedsE (D : List Ops) : Int := if 60 < D.length then 2 else firstE (fun i => deedE (D.getD i [])) D.length
theorem deedsE_at {D : List Ops} {k : Nat} (hk : k < D.length) : deedE (D.getD k []) = deedE D[k] := by simp [hk]
theorem deeds_ok' {D : List Ops} (h : deedsE D = 0) : D.length ≤ 60 ∧ ∀ d ∈ D, DeedOk d := by
  unfold deedsE at h
  split at h
  · cases h
  · refine ⟨by omega, fun d hd => ?_⟩
    obtain ⟨i, hi, rfl⟩ := List.mem_iff_getElem.1 hd
    have := firstE_all h i hi
    rw [deedsE_at hi] at this
    exact deed_ok this
set_option maxRecDepth 10000 in
set_option maxHeartbeats 1000000 in
theorem rdeeds_any (v : Value) (D : List Ops) (w : World) (hv : SegDs w v D) (hd : ∀ d ∈ D, opsSm d) :
    Calls Tryz.prog 9 #[v] w fun e w' => e = .returned (.int .i64 (deedsE D)) ∧ Ext w w' := by
  obtain ⟨a, c, rfl, m1, m2, hc⟩ := hv.form
  have HC := hid hc
  clear hc hv
  unfold maxLen at m2
  by_cases hz : 60 < D.length
  · have HO := hid (show deedsE D = 2 by unfold deedsE; rw [if_pos hz])
    have hz' : (60 : Int) < (D.length : Int) := by omega
    clear hz
    go_enter Tryz.func9, Tryz.ntmps9
    go_wp2
    go_ret
    exact ⟨rI HO.out.symm, Ext.refl _⟩
  · have HO := hid (show deedsE D = firstE (fun i => deedE (D.getD i [])) D.length by unfold deedsE; rw [if_neg hz])
    have hz' : ¬ (60 : Int) < (D.length : Int) := by omega
    clear hz
    go_enter Tryz.func9, Tryz.ntmps9
    go_wp2
    clear hz'
    go_loopw [4, 5, 11] (fun _ _ iv wr => ∃ k : Nat, k ≤ D.length ∧ iv = .int .i64 k ∧ zeroTo (fun i => deedE (D.getD i [])) k ∧ Ext w wr) (fun _ _ iv _ => D.length - (intOf iv).toNat)
    case atStart => exact ⟨0, Nat.zero_le _, rfl, fun j h => absurd h (by omega), Ext.refl _⟩
    case round =>
      obtain ⟨wo, rfl⟩ : ∃ wo : World, wo = wr := ⟨_, rfl⟩
      obtain ⟨k, hkl, rfl, hall, E⟩ := hrel
      by_cases hlt : k < D.length
      · obtain ⟨b, off, rfl, hc⟩ := HC.out (by omega)
        obtain ⟨au, cu, hcell, hs⟩ := hc k D[k] (List.getElem?_eq_getElem hlt)
        have c0 := E.cell hcell
        have hs := hs.ext E
        have hsm := hd _ (List.getElem_mem hlt)
        have hE := deedsE_at hlt
        have FE := hid (fun (h : deedE D[k] ≠ 0) => (firstE_at hall (fun h0 => h (hE.symm.trans h0)) hlt).trans hE)
        have ZS := hid (fun (h : deedE D[k] = 0) => zeroTo_succ hall (hE.trans h))
        clear hc hcell hall hE
        generalize D[k] = d at c0 hs hsm FE ZS
        have EA := (Ext.refl wo).alloc (.cells #[.slice au d.length cu] 33)
        have xb := heap_alloc_new wo (.cells #[.slice au d.length cu] 33)
        have y0 := cell_of_one xb
        have CK := hid (rdeed_any (.slice au d.length cu) d _ (hs.ext EA) hsm)
        clear hs xb
        by_cases h0 : deedE d = 0
        · have HZ := hid (ZS.out h0)
          have q : (deedE d != 0) = false := by simp [h0]
          clear h0 FE ZS
          go_wp2_with fail
          refine (CK.out).mono ?_
          rintro e w1 ⟨rfl, E1⟩
          go_wp2
          go_roundw
          case rel => exact ⟨k + 1, by omega, by go_num, HZ.out, E.trans (EA.trans E1)⟩
          case measure => simp [intOf] <;> omega
        · have HF := hid (FE.out h0)
          have q : (deedE d != 0) = true := by simp [h0]
          clear h0 FE ZS
          go_wp2_with fail
          refine (CK.out).mono ?_
          rintro e w1 ⟨rfl, E1⟩
          go_wp2
          go_ret
          exact ⟨rI (by rw [HO.out, HF.out]), E.trans (EA.trans E1)⟩
      · obtain rfl : k = D.length := by omega
        have HZ2 := hid (firstE_zero hall)
        clear hall
        go_wp2
        go_ret
        exact ⟨rI (by rw [HO.out, HZ2.out]), E⟩
end Go.Proofs.YtghemmmkbpfdhaaGreatDoor
