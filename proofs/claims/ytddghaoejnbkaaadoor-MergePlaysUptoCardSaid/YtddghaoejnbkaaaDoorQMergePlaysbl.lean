/- Contracts and lemmas for the proof of MergePlays; each theorem states its own conditions. -/
import Derived.Test.YtddghaoejnbkaaaDoorQMergePlaysbk
set_option linter.unusedVariables false
set_option linter.unusedSimpArgs false
/- Contracts and lemmas for the proofs of this seat; each theorem states its own conditions. -/
namespace Go.Proofs.YtddghaoejnbkaaaDoor
open Go.RowKit
/-! roref.Merge: Close -/
set_option maxRecDepth 100000 in
set_option maxHeartbeats 4000000 in
theorem rmclose_ok {w : World} {S P : Nat → Prop} {bm : Nat} {bs : List (List Bat)} (h : RMS w S P bm bs) (i : Nat) (hi : i < bs.length) (hf : (bs.getD i []).length ≤ 60) :
    Calls Tryd.prog 13 #[.pointer (some ⟨bm, 0, none⟩), .int .i64 i] w fun e w' => e = .returned (.tuple #[.int .i64 ((bs.getD i []).length : Nat), .int .i64 0]) ∧ ∃ S', RMS w' S' P bm (bs.set i (bs.getD i [] ++ [[]])) ∧ Kp S w w' S' := by
  have IS := rmis_any h i
  rw [show (decide ((0 : Int) ≤ (i : Int)) && decide ((i : Int) ≤ (bs.length : Int) - 1)) = true by
    rw [Bool.and_eq_true]; exact ⟨by simp, by simp; omega⟩] at IS
  have IS := hid IS
  obtain ⟨vB, us, h⟩ := h
  have hb := blk1 h.box
  have h4 := h.n4
  have hl := h.ln
  have hiu : i < us.length := by omega
  obtain ⟨a, c, e0⟩ := own_form h.outer
  subst e0
  obtain ⟨bo, rfl, _, _, p1, p2⟩ := own_pos h.outer (by omega)
  obtain ⟨_, _, e1, _, _, _, hcs⟩ := seg_cells (own_seg h.outer) (by omega)
  injection e1 with e1; injection e1 with e1 e2
  subst e1; subst e2
  unfold maxLen at p2
  have c1 := hcs i us[i] (List.getElem?_eq_getElem hiu)
  rw [Nat.zero_add] at c1
  have hu : us[i]? = some us[i] := List.getElem?_eq_getElem hiu
  have hbl : bs[i]? = some bs[i] := List.getElem?_eq_getElem hi
  obtain ⟨ts, t1, t2, t3, t4, t5⟩ := h.rows i us[i] bs[i] hu hbl
  have hg : bs.getD i [] = bs[i] := by simp [hi]
  rw [hg] at hf ⊢
  have hEn : ∀ (k : Nat) (t : Value) (X : Bat), (ts ++ [.slice none 0 0])[k]? = some t → (bs[i] ++ [[]])[k]? = some X → EntsP w P t X := fun k t X p q => by
    have hkl := t1.1
    by_cases hk : k < ts.length
    · rw [List.getElem?_append_left hk] at p
      rw [List.getElem?_append_left (by omega)] at q
      exact t2 k t X p q
    · rw [List.getElem?_append_right (by omega)] at p q
      have : k - ts.length = 0 := by
        rcases Nat.eq_zero_or_pos (k - ts.length) with z | z
        · exact z
        · rw [List.getElem?_eq_none (by simp; omega)] at p; cases p
      rw [this] at p
      have e : k - bs[i].length = 0 := by omega
      rw [e] at q
      simp at p q
      subst p; subst q
      exact EntsP.nil _ _
  have hl1 : 1 ≤ (bs[i] ++ [([] : Bat)]).length := by simp
  have hl61 : (bs[i] ++ [([] : Bat)]).length ≤ 61 := by simp; omega
  have HC := hid (fun (v : Value) (w1 : World) (a : w1.ownsRow 0 23 1 v (bs[i] ++ [([] : Bat)]).length (ts ++ [Value.slice none 0 0])) b c => RMG.store (ts' := ts ++ [Value.slice none 0 0]) (l' := bs[i] ++ [([] : Bat)]) (v := v) (w1 := w1) h hu hbl t1 t5 a b c hEn hl1 hl61)
  clear hl1 hl61
  clear hEn
  have nbm := own_ne t1 h.box (by decide)
  obtain ⟨co, hco⟩ := own_some h.outer (k := bo) rfl
  have nbo := own_ne t1 hco (by decide)
  have HO := hid hco
  have HX := hid h.box
  rw [List.length_append] at HC
  generalize us[i] = u at c1 t1 nbm nbo HC
  obtain ⟨a2, c2, rfl⟩ := own_form t1
  generalize bs[i] = l at *
  obtain ⟨m, hm⟩ : ∃ m, l.length = m := ⟨_, rfl⟩
  rw [hm] at hf t1 c1 nbm nbo HC t4 ⊢
  obtain ⟨N, hN⟩ : ∃ N, us.length = N := ⟨_, rfl⟩
  rw [hN] at hb p1 hiu HX HC
  have hf2 : ¬ (60 : Int) < (m : Int) := by omega
  have hf3 : decide ((60 : Int) < (m : Int)) = false := decide_eq_false hf2
  have cb := hb.1
  have hN4 : N ≤ 4 := by omega
  clear h hl hcs hg hN hm hb t2 t5 hu hbl hco
  go_enter Tryd.func13, Tryd.ntmps13
  go_wp2_with fail
  refine (IS.out).mono ?_
  clear IS
  rintro r w1 ⟨rfl, rfl⟩
  obtain ⟨w, rfl⟩ : ∃ wz : World, wz = w1 := ⟨_, rfl⟩
  go_wp2_with fail
  refine wp_region_pm (by kernel_rfl) (by kernel_rfl) (fun ii => match ii with | 0 => some (.pointer (some ⟨bm, 0, none⟩)) | 1 => some (.pointer (some ⟨bm, 0, none⟩)) | 2 => some (.pointer (some ⟨bm, 0, none⟩)) | 3 => some (.slice (some ⟨bo, 0, none⟩) N c) | 4 => some (.int .i64 i) | 5 => some (.pointer (some ⟨bm, 0, none⟩)) | 6 => some (.pointer (some ⟨bm, 0, none⟩)) | 7 => some (.pointer (some ⟨bm, 0, none⟩)) | 8 => some (.slice (some ⟨bo, 0, none⟩) N c) | 9 => some (.int .i64 i) | 10 => some (.pointer (some ⟨bo, i, none⟩)) | 14 => some (.pointer (some ⟨bo, i, none⟩)) | _ => none) 11 12 13 15 (by decide) (by kernel_rfl) (by kernel_rfl) (by kernel_rfl) (by kernel_rfl) (fun w' => w'.cell? ⟨bm, 0, none⟩ = some (.slice (some ⟨bo, 0, none⟩) N c) ∧ w'.cell? ⟨bo, i, none⟩ = some (.slice a2 m c2)) (fun w' => Ext w w') (fun v _ => v = .slice a2 m c2) (fun v w' => NewC #[.slice none 0 0] 23 1 v w') (fun v w' => AppM w 23 1 (m + 1) (ts ++ [.slice none 0 0]) (.slice a2 m c2) v w') (fun w' => StoM w 23 1 (m + 1) (ts ++ [.slice none 0 0]) (.slice a2 m c2) bo i w') ?st0 ?stp ?stq ?st1 ?k0 ?k1 ?h0 ?hs ?he
  case hs =>
    refine ⟨?s0, ?s1, ?s2, ?s3, ?s4, ?s5, ?s6, ?s7, ?s8, ?s9, ?s10, ?sp, ?sq, ?sm, ?s14, ?sz, trivial⟩
    case s0 =>
      intro x w' hd
      try simp [Region.binds] at hd
      refine ⟨fun _ _ _ _ hK => ?_, fun h => absurd h (by decide), fun h => absurd h (by decide), fun h => absurd h (by decide), fun h => absurd h (by decide)⟩
      obtain ⟨d1, d2⟩ := hK
      unfold TPost
      first | simp only [frL, List.length_cons, List.length_nil, List.take_succ_cons, List.take_zero, Nat.reduceAdd, Nat.zero_add, List.setIfInBounds_toArray, List.set_cons_zero, List.set_cons_succ, hd] | simp only [frL, List.length_cons, List.length_nil, List.take_succ_cons, List.take_zero, Nat.reduceAdd, Nat.zero_add, List.setIfInBounds_toArray, List.set_cons_zero, List.set_cons_succ]
      go_wp2
      all_goals first | (with_reducible exact Ext.refl _) | exact ⟨rfl, _, rfl, (fun u hu => by simpa using hu), (by (repeat (first | (with_reducible assumption) | (with_reducible exact Ext.refl _) | (with_reducible refine Ext.drew ?_) | (with_reducible refine Ext.drewN ?_ _) | (with_reducible refine Ext.alloc ?_ _) | (with_reducible refine Ext.trans ?_ (by with_reducible assumption)))))⟩ | (with_reducible exact (by (repeat (first | (with_reducible assumption) | (with_reducible exact Ext.refl _) | (with_reducible refine Ext.drew ?_) | (with_reducible refine Ext.drewN ?_ _) | (with_reducible refine Ext.alloc ?_ _) | (with_reducible refine Ext.trans ?_ (by with_reducible assumption))))))
    case s1 =>
      intro x w' hd
      try simp [Region.binds] at hd
      refine ⟨fun _ _ _ _ hK => ?_, fun h => absurd h (by decide), fun h => absurd h (by decide), fun h => absurd h (by decide), fun h => absurd h (by decide)⟩
      obtain ⟨d1, d2⟩ := hK
      unfold TPost
      first | simp only [frL, List.length_cons, List.length_nil, List.take_succ_cons, List.take_zero, Nat.reduceAdd, Nat.zero_add, List.setIfInBounds_toArray, List.set_cons_zero, List.set_cons_succ, hd] | simp only [frL, List.length_cons, List.length_nil, List.take_succ_cons, List.take_zero, Nat.reduceAdd, Nat.zero_add, List.setIfInBounds_toArray, List.set_cons_zero, List.set_cons_succ]
      go_wp2
      all_goals first | (with_reducible exact Ext.refl _) | exact ⟨rfl, _, rfl, (fun u hu => by simpa using hu), (by (repeat (first | (with_reducible assumption) | (with_reducible exact Ext.refl _) | (with_reducible refine Ext.drew ?_) | (with_reducible refine Ext.drewN ?_ _) | (with_reducible refine Ext.alloc ?_ _) | (with_reducible refine Ext.trans ?_ (by with_reducible assumption)))))⟩ | (with_reducible exact (by (repeat (first | (with_reducible assumption) | (with_reducible exact Ext.refl _) | (with_reducible refine Ext.drew ?_) | (with_reducible refine Ext.drewN ?_ _) | (with_reducible refine Ext.alloc ?_ _) | (with_reducible refine Ext.trans ?_ (by with_reducible assumption))))))
    case s2 =>
      intro x w' hd
      try simp [Region.binds] at hd
      refine ⟨fun _ _ _ _ hK => ?_, fun h => absurd h (by decide), fun h => absurd h (by decide), fun h => absurd h (by decide), fun h => absurd h (by decide)⟩
      obtain ⟨d1, d2⟩ := hK
      unfold TPost
      first | simp only [frL, List.length_cons, List.length_nil, List.take_succ_cons, List.take_zero, Nat.reduceAdd, Nat.zero_add, List.setIfInBounds_toArray, List.set_cons_zero, List.set_cons_succ, hd] | simp only [frL, List.length_cons, List.length_nil, List.take_succ_cons, List.take_zero, Nat.reduceAdd, Nat.zero_add, List.setIfInBounds_toArray, List.set_cons_zero, List.set_cons_succ]
      go_wp2
      all_goals first | (with_reducible exact Ext.refl _) | exact ⟨rfl, _, rfl, (fun u hu => by simpa using hu), (by (repeat (first | (with_reducible assumption) | (with_reducible exact Ext.refl _) | (with_reducible refine Ext.drew ?_) | (with_reducible refine Ext.drewN ?_ _) | (with_reducible refine Ext.alloc ?_ _) | (with_reducible refine Ext.trans ?_ (by with_reducible assumption)))))⟩ | (with_reducible exact (by (repeat (first | (with_reducible assumption) | (with_reducible exact Ext.refl _) | (with_reducible refine Ext.drew ?_) | (with_reducible refine Ext.drewN ?_ _) | (with_reducible refine Ext.alloc ?_ _) | (with_reducible refine Ext.trans ?_ (by with_reducible assumption))))))
    case s3 =>
      intro x w' hd
      try simp [Region.binds] at hd
      refine ⟨fun _ _ _ _ hK => ?_, fun h => absurd h (by decide), fun h => absurd h (by decide), fun h => absurd h (by decide), fun h => absurd h (by decide)⟩
      obtain ⟨d1, d2⟩ := hK
      unfold TPost
      first | simp only [frL, List.length_cons, List.length_nil, List.take_succ_cons, List.take_zero, Nat.reduceAdd, Nat.zero_add, List.setIfInBounds_toArray, List.set_cons_zero, List.set_cons_succ, hd] | simp only [frL, List.length_cons, List.length_nil, List.take_succ_cons, List.take_zero, Nat.reduceAdd, Nat.zero_add, List.setIfInBounds_toArray, List.set_cons_zero, List.set_cons_succ]
      go_wp2
      all_goals first | (with_reducible exact Ext.refl _) | exact ⟨rfl, _, rfl, (fun u hu => by simpa using hu), (by (repeat (first | (with_reducible assumption) | (with_reducible exact Ext.refl _) | (with_reducible refine Ext.drew ?_) | (with_reducible refine Ext.drewN ?_ _) | (with_reducible refine Ext.alloc ?_ _) | (with_reducible refine Ext.trans ?_ (by with_reducible assumption)))))⟩ | (with_reducible exact (by (repeat (first | (with_reducible assumption) | (with_reducible exact Ext.refl _) | (with_reducible refine Ext.drew ?_) | (with_reducible refine Ext.drewN ?_ _) | (with_reducible refine Ext.alloc ?_ _) | (with_reducible refine Ext.trans ?_ (by with_reducible assumption))))))
    case s4 =>
      intro x w' hd
      try simp [Region.binds] at hd
      refine ⟨fun _ _ _ _ hK => ?_, fun h => absurd h (by decide), fun h => absurd h (by decide), fun h => absurd h (by decide), fun h => absurd h (by decide)⟩
      obtain ⟨d1, d2⟩ := hK
      unfold TPost
      first | simp only [frL, List.length_cons, List.length_nil, List.take_succ_cons, List.take_zero, Nat.reduceAdd, Nat.zero_add, List.setIfInBounds_toArray, List.set_cons_zero, List.set_cons_succ, hd] | simp only [frL, List.length_cons, List.length_nil, List.take_succ_cons, List.take_zero, Nat.reduceAdd, Nat.zero_add, List.setIfInBounds_toArray, List.set_cons_zero, List.set_cons_succ]
      go_wp2
      all_goals first | (with_reducible exact Ext.refl _) | exact ⟨rfl, _, rfl, (fun u hu => by simpa using hu), (by (repeat (first | (with_reducible assumption) | (with_reducible exact Ext.refl _) | (with_reducible refine Ext.drew ?_) | (with_reducible refine Ext.drewN ?_ _) | (with_reducible refine Ext.alloc ?_ _) | (with_reducible refine Ext.trans ?_ (by with_reducible assumption)))))⟩ | (with_reducible exact (by (repeat (first | (with_reducible assumption) | (with_reducible exact Ext.refl _) | (with_reducible refine Ext.drew ?_) | (with_reducible refine Ext.drewN ?_ _) | (with_reducible refine Ext.alloc ?_ _) | (with_reducible refine Ext.trans ?_ (by with_reducible assumption))))))
    case s5 =>
      intro x w' hd
      try simp [Region.binds] at hd
      refine ⟨fun _ _ _ _ hK => ?_, fun h => absurd h (by decide), fun h => absurd h (by decide), fun h => absurd h (by decide), fun h => absurd h (by decide)⟩
      obtain ⟨d1, d2⟩ := hK
      unfold TPost
      first | simp only [frL, List.length_cons, List.length_nil, List.take_succ_cons, List.take_zero, Nat.reduceAdd, Nat.zero_add, List.setIfInBounds_toArray, List.set_cons_zero, List.set_cons_succ, hd] | simp only [frL, List.length_cons, List.length_nil, List.take_succ_cons, List.take_zero, Nat.reduceAdd, Nat.zero_add, List.setIfInBounds_toArray, List.set_cons_zero, List.set_cons_succ]
      go_wp2
      all_goals first | (with_reducible exact Ext.refl _) | exact ⟨rfl, _, rfl, (fun u hu => by simpa using hu), (by (repeat (first | (with_reducible assumption) | (with_reducible exact Ext.refl _) | (with_reducible refine Ext.drew ?_) | (with_reducible refine Ext.drewN ?_ _) | (with_reducible refine Ext.alloc ?_ _) | (with_reducible refine Ext.trans ?_ (by with_reducible assumption)))))⟩ | (with_reducible exact (by (repeat (first | (with_reducible assumption) | (with_reducible exact Ext.refl _) | (with_reducible refine Ext.drew ?_) | (with_reducible refine Ext.drewN ?_ _) | (with_reducible refine Ext.alloc ?_ _) | (with_reducible refine Ext.trans ?_ (by with_reducible assumption))))))
    case s6 =>
      intro x w' hd
      try simp [Region.binds] at hd
      refine ⟨fun _ _ _ _ hK => ?_, fun h => absurd h (by decide), fun h => absurd h (by decide), fun h => absurd h (by decide), fun h => absurd h (by decide)⟩
      obtain ⟨d1, d2⟩ := hK
      unfold TPost
      first | simp only [frL, List.length_cons, List.length_nil, List.take_succ_cons, List.take_zero, Nat.reduceAdd, Nat.zero_add, List.setIfInBounds_toArray, List.set_cons_zero, List.set_cons_succ, hd] | simp only [frL, List.length_cons, List.length_nil, List.take_succ_cons, List.take_zero, Nat.reduceAdd, Nat.zero_add, List.setIfInBounds_toArray, List.set_cons_zero, List.set_cons_succ]
      go_wp2
      all_goals first | (with_reducible exact Ext.refl _) | exact ⟨rfl, _, rfl, (fun u hu => by simpa using hu), (by (repeat (first | (with_reducible assumption) | (with_reducible exact Ext.refl _) | (with_reducible refine Ext.drew ?_) | (with_reducible refine Ext.drewN ?_ _) | (with_reducible refine Ext.alloc ?_ _) | (with_reducible refine Ext.trans ?_ (by with_reducible assumption)))))⟩ | (with_reducible exact (by (repeat (first | (with_reducible assumption) | (with_reducible exact Ext.refl _) | (with_reducible refine Ext.drew ?_) | (with_reducible refine Ext.drewN ?_ _) | (with_reducible refine Ext.alloc ?_ _) | (with_reducible refine Ext.trans ?_ (by with_reducible assumption))))))
    case s7 =>
      intro x w' hd
      try simp [Region.binds] at hd
      refine ⟨fun _ _ _ _ hK => ?_, fun h => absurd h (by decide), fun h => absurd h (by decide), fun h => absurd h (by decide), fun h => absurd h (by decide)⟩
      obtain ⟨d1, d2⟩ := hK
      unfold TPost
      first | simp only [frL, List.length_cons, List.length_nil, List.take_succ_cons, List.take_zero, Nat.reduceAdd, Nat.zero_add, List.setIfInBounds_toArray, List.set_cons_zero, List.set_cons_succ, hd] | simp only [frL, List.length_cons, List.length_nil, List.take_succ_cons, List.take_zero, Nat.reduceAdd, Nat.zero_add, List.setIfInBounds_toArray, List.set_cons_zero, List.set_cons_succ]
      go_wp2
      all_goals first | (with_reducible exact Ext.refl _) | exact ⟨rfl, _, rfl, (fun u hu => by simpa using hu), (by (repeat (first | (with_reducible assumption) | (with_reducible exact Ext.refl _) | (with_reducible refine Ext.drew ?_) | (with_reducible refine Ext.drewN ?_ _) | (with_reducible refine Ext.alloc ?_ _) | (with_reducible refine Ext.trans ?_ (by with_reducible assumption)))))⟩ | (with_reducible exact (by (repeat (first | (with_reducible assumption) | (with_reducible exact Ext.refl _) | (with_reducible refine Ext.drew ?_) | (with_reducible refine Ext.drewN ?_ _) | (with_reducible refine Ext.alloc ?_ _) | (with_reducible refine Ext.trans ?_ (by with_reducible assumption))))))
    case s8 =>
      intro x w' hd
      try simp [Region.binds] at hd
      refine ⟨fun _ _ _ _ hK => ?_, fun h => absurd h (by decide), fun h => absurd h (by decide), fun h => absurd h (by decide), fun h => absurd h (by decide)⟩
      obtain ⟨d1, d2⟩ := hK
      unfold TPost
      first | simp only [frL, List.length_cons, List.length_nil, List.take_succ_cons, List.take_zero, Nat.reduceAdd, Nat.zero_add, List.setIfInBounds_toArray, List.set_cons_zero, List.set_cons_succ, hd] | simp only [frL, List.length_cons, List.length_nil, List.take_succ_cons, List.take_zero, Nat.reduceAdd, Nat.zero_add, List.setIfInBounds_toArray, List.set_cons_zero, List.set_cons_succ]
      go_wp2
      all_goals first | (with_reducible exact Ext.refl _) | exact ⟨rfl, _, rfl, (fun u hu => by simpa using hu), (by (repeat (first | (with_reducible assumption) | (with_reducible exact Ext.refl _) | (with_reducible refine Ext.drew ?_) | (with_reducible refine Ext.drewN ?_ _) | (with_reducible refine Ext.alloc ?_ _) | (with_reducible refine Ext.trans ?_ (by with_reducible assumption)))))⟩ | (with_reducible exact (by (repeat (first | (with_reducible assumption) | (with_reducible exact Ext.refl _) | (with_reducible refine Ext.drew ?_) | (with_reducible refine Ext.drewN ?_ _) | (with_reducible refine Ext.alloc ?_ _) | (with_reducible refine Ext.trans ?_ (by with_reducible assumption))))))
    case s9 =>
      intro x w' hd
      try simp [Region.binds] at hd
      refine ⟨fun _ _ _ _ hK => ?_, fun h => absurd h (by decide), fun h => absurd h (by decide), fun h => absurd h (by decide), fun h => absurd h (by decide)⟩
      obtain ⟨d1, d2⟩ := hK
      unfold TPost
      first | simp only [frL, List.length_cons, List.length_nil, List.take_succ_cons, List.take_zero, Nat.reduceAdd, Nat.zero_add, List.setIfInBounds_toArray, List.set_cons_zero, List.set_cons_succ, hd] | simp only [frL, List.length_cons, List.length_nil, List.take_succ_cons, List.take_zero, Nat.reduceAdd, Nat.zero_add, List.setIfInBounds_toArray, List.set_cons_zero, List.set_cons_succ]
      go_wp2
      all_goals first | (with_reducible exact Ext.refl _) | exact ⟨rfl, _, rfl, (fun u hu => by simpa using hu), (by (repeat (first | (with_reducible assumption) | (with_reducible exact Ext.refl _) | (with_reducible refine Ext.drew ?_) | (with_reducible refine Ext.drewN ?_ _) | (with_reducible refine Ext.alloc ?_ _) | (with_reducible refine Ext.trans ?_ (by with_reducible assumption)))))⟩ | (with_reducible exact (by (repeat (first | (with_reducible assumption) | (with_reducible exact Ext.refl _) | (with_reducible refine Ext.drew ?_) | (with_reducible refine Ext.drewN ?_ _) | (with_reducible refine Ext.alloc ?_ _) | (with_reducible refine Ext.trans ?_ (by with_reducible assumption))))))
    case s10 =>
      intro x w' hd
      try simp [Region.binds] at hd
      refine ⟨fun _ _ _ _ hK => ?_, fun h => absurd h (by decide), fun h => absurd h (by decide), fun h => absurd h (by decide), fun h => absurd h (by decide)⟩
      obtain ⟨d1, d2⟩ := hK
      unfold TPost
      first | simp only [frL, List.length_cons, List.length_nil, List.take_succ_cons, List.take_zero, Nat.reduceAdd, Nat.zero_add, List.setIfInBounds_toArray, List.set_cons_zero, List.set_cons_succ, hd] | simp only [frL, List.length_cons, List.length_nil, List.take_succ_cons, List.take_zero, Nat.reduceAdd, Nat.zero_add, List.setIfInBounds_toArray, List.set_cons_zero, List.set_cons_succ]
      go_wp2
      all_goals first | (with_reducible exact Ext.refl _) | exact ⟨rfl, _, rfl, (fun u hu => by simpa using hu), (by (repeat (first | (with_reducible assumption) | (with_reducible exact Ext.refl _) | (with_reducible refine Ext.drew ?_) | (with_reducible refine Ext.drewN ?_ _) | (with_reducible refine Ext.alloc ?_ _) | (with_reducible refine Ext.trans ?_ (by with_reducible assumption)))))⟩ | (with_reducible exact (by (repeat (first | (with_reducible assumption) | (with_reducible exact Ext.refl _) | (with_reducible refine Ext.drew ?_) | (with_reducible refine Ext.drewN ?_ _) | (with_reducible refine Ext.alloc ?_ _) | (with_reducible refine Ext.trans ?_ (by with_reducible assumption))))))
    case s14 =>
      intro x w' hd
      try simp [Region.binds] at hd
      refine ⟨fun _ _ _ _ hK => ?_, fun h => absurd h (by decide), fun h => absurd h (by decide), fun h => absurd h (by decide), fun h => absurd h (by decide)⟩
      obtain ⟨d1, d2⟩ := hK
      unfold TPost
      first | simp only [frL, List.length_cons, List.length_nil, List.take_succ_cons, List.take_zero, Nat.reduceAdd, Nat.zero_add, List.setIfInBounds_toArray, List.set_cons_zero, List.set_cons_succ, hd] | simp only [frL, List.length_cons, List.length_nil, List.take_succ_cons, List.take_zero, Nat.reduceAdd, Nat.zero_add, List.setIfInBounds_toArray, List.set_cons_zero, List.set_cons_succ]
      go_wp2
      all_goals first | (with_reducible exact Ext.refl _) | exact ⟨rfl, _, rfl, (fun u hu => by simpa using hu), (by (repeat (first | (with_reducible assumption) | (with_reducible exact Ext.refl _) | (with_reducible refine Ext.drew ?_) | (with_reducible refine Ext.drewN ?_ _) | (with_reducible refine Ext.alloc ?_ _) | (with_reducible refine Ext.trans ?_ (by with_reducible assumption)))))⟩ | (with_reducible exact (by (repeat (first | (with_reducible assumption) | (with_reducible exact Ext.refl _) | (with_reducible refine Ext.drew ?_) | (with_reducible refine Ext.drewN ?_ _) | (with_reducible refine Ext.alloc ?_ _) | (with_reducible refine Ext.trans ?_ (by with_reducible assumption))))))
    case sp =>
      intro x w' hd
      try simp [Region.binds] at hd
      refine ⟨fun h => absurd rfl h, fun _ hS => ?_, fun h => absurd h (by decide), fun h => absurd h (by decide), fun h => absurd h (by decide)⟩
      have hE : Ext w w' := hS
      have d4 := hE.cell c1
      unfold TPost
      first | simp only [frL, List.length_cons, List.length_nil, List.take_succ_cons, List.take_zero, Nat.reduceAdd, Nat.zero_add, List.setIfInBounds_toArray, List.set_cons_zero, List.set_cons_succ, hd] | simp only [frL, List.length_cons, List.length_nil, List.take_succ_cons, List.take_zero, Nat.reduceAdd, Nat.zero_add, List.setIfInBounds_toArray, List.set_cons_zero, List.set_cons_succ]
      go_wp2
      exact Ext.refl _
    case sq =>
      intro x w' hd
      try simp [Region.binds] at hd
      refine ⟨fun _ h => absurd rfl h, fun h => absurd h (by decide), fun _ hS => ?_, fun h => absurd h (by decide), fun h => absurd h (by decide)⟩
      unfold TPost
      first | simp only [frL, List.length_cons, List.length_nil, List.take_succ_cons, List.take_zero, Nat.reduceAdd, Nat.zero_add, List.setIfInBounds_toArray, List.set_cons_zero, List.set_cons_succ, hd] | simp only [frL, List.length_cons, List.length_nil, List.take_succ_cons, List.take_zero, Nat.reduceAdd, Nat.zero_add, List.setIfInBounds_toArray, List.set_cons_zero, List.set_cons_succ]
      go_wp2
      exact ⟨(Ext.refl _).alloc _, newC_alloc _ _ _ _⟩
    case sm =>
      intro x w' hd
      try simp [Region.binds] at hd
      refine ⟨fun _ _ h => absurd rfl h, fun h => absurd h (by decide), fun h => absurd h (by decide), fun _ hS hP hQ => ?_, fun h => absurd h (by decide)⟩
      have hE : Ext w w' := hS
      obtain ⟨b, hx, hbk⟩ := hQ
      have ho := own_ext t1 hE
      have hsg := seg_one hbk
      unfold TPost
      first | simp only [frL, List.length_cons, List.length_nil, List.take_succ_cons, List.take_zero, Nat.reduceAdd, Nat.zero_add, List.setIfInBounds_toArray, List.set_cons_zero, List.set_cons_succ, hd, hx, hP] | simp only [frL, List.length_cons, List.length_nil, List.take_succ_cons, List.take_zero, Nat.reduceAdd, Nat.zero_add, List.setIfInBounds_toArray, List.set_cons_zero, List.set_cons_succ, hx, hP]
      go_wp2_with (first | (at_builtin; refine (wpList_appR rfl _ _ 52 rfl 0 23 (.slice none 0 0) 1 24 Tryd.underlying52 infoEs rfl (by decide) _ m ts rfl ho _ 1 [.slice none 0 0] rfl (by decide) hsg (one_sl _ _ _) (by omega) (by unfold maxLen; omega) (Nat.zero_le _) ?_); intro v' w9 ho' hg hb'))
      exact ⟨ho', ext_grown hE hg, fun k hk => (hb' k hk).imp id (fun h => by have := hE.size'; omega)⟩
    case sz =>
      intro x w' hd
      try simp [Region.binds] at hd
      refine ⟨fun _ _ _ h => absurd rfl h, fun h => absurd h (by decide), fun h => absurd h (by decide), fun h => absurd h (by decide), fun _ hS => ?_⟩
      have hA := hid hS
      obtain ⟨ho', hg, hb'⟩ := hS
      have hb9 := grown_heap hg HO.out nbo
      have f1 : w'.frozen? ⟨bo, i, none⟩ = false := by simp [World.frozen?, hb9]
      have c9 : w'.cell? ⟨bo, i, none⟩ = some (.slice a2 m c2) := cell_same c1 (fun o ho => by rw [HO.out] at ho; rw [hb9]; exact ho)
      obtain ⟨a9, k9, e9⟩ := own_form ho'
      rw [e9] at hA
      clear ho' hg hb' hb9
      unfold TPost
      first | simp only [frL, List.length_cons, List.length_nil, List.take_succ_cons, List.take_zero, Nat.reduceAdd, Nat.zero_add, List.setIfInBounds_toArray, List.set_cons_zero, List.set_cons_succ, hd, e9] | simp only [frL, List.length_cons, List.length_nil, List.take_succ_cons, List.take_zero, Nat.reduceAdd, Nat.zero_add, List.setIfInBounds_toArray, List.set_cons_zero, List.set_cons_succ, e9]
      go_wp2
      exact ⟨_, _, hA.out, Ext.refl _⟩
  case st0 => intro a b E h; exact Ext.trans h E
  case stp => intro v a b E h; exact h
  case stq => intro v a b E h; exact NewC.ext h E
  case st1 => intro v a b E h; exact AppM.ext h E
  case k0 =>
    intro a hE
    exact ⟨Ext.cell hE cb, Ext.cell hE c1⟩
  case k1 =>
    intro v a hA
    have h1 := grown_heap hA.grown HX.out nbm
    have h2 := grown_heap hA.grown HO.out nbo
    exact ⟨by simp [World.cell?, h1], cell_same c1 (fun o ho => by rw [HO.out] at ho; rw [h2]; exact ho)⟩
  case h0 => exact (Ext.refl _).drew
  case he =>
    intro x w6 hd hS
    obtain ⟨v, w1, hA, E6⟩ := hS
    simp only [frL, List.length_cons, List.length_nil, List.take_succ_cons, List.take_zero, Nat.reduceAdd, Nat.zero_add, List.setIfInBounds_toArray, List.set_cons_zero, List.set_cons_succ]
    clear hd
    obtain ⟨S', G6, K6⟩ := HC.out v w1 hA.own hA.grown hA.lies
    have R6 := hid (show ∃ S', RMS w6 S' P bm (bs.set i (l ++ [[]])) ∧ Kp S w w6 S' from ⟨S', ⟨_, _, G6.ext E6⟩, K6.ext E6⟩)
    clear G6 K6 hA E6
    go_wp2
    go_ret2
    exact ⟨rfl, R6.out⟩
end Go.Proofs.YtddghaoejnbkaaaDoor
