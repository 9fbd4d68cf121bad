/- Contracts and lemmas for the proof of TopMoves; each theorem states its own conditions. -/
import Derived.Test.YtnepdfpooobmcaaGreatQTopMovesak
import Derived.Test.YtnepdfpooobmcaaGreatQTopMovesah
import Derived.Test.YtnepdfpooobmcaaGreatQTopMovesaf
set_option linter.unusedVariables false
set_option linter.unusedSimpArgs false
/- Contracts and lemmas for the proofs of this seat; each theorem states its own conditions. -/
namespace Go.Proofs.YtnepdfpooobmcaaGreat
open Go.RowKit
theorem cP_take (l : Prs) (n : Nat) : (cP l).take (n * 2) = cP (l.take n) := by
  induction l generalizing n with
  | nil => simp [cP]
  | cons p l ih =>
    cases n with
    | zero => simp [cP]
    | succ n =>
      have := ih n
      rw [show (n + 1) * 2 = n * 2 + 1 + 1 from by omega]
      simpa [cP] using this
theorem cP_drop (l : Prs) (n : Nat) : (cP l).drop (n * 2) = cP (l.drop n) := by
  induction l generalizing n with
  | nil => simp [cP]
  | cons p l ih =>
    cases n with
    | zero => simp [cP]
    | succ n =>
      have := ih n
      rw [show (n + 1) * 2 = n * 2 + 1 + 1 from by omega]
      simpa [cP] using this
theorem cP_app (l m : Prs) : cP (l ++ m) = cP l ++ cP m := by simp [cP]
theorem infoP : (Tryz.prog.info? 60).map (fun i => (i.zero, i.size, i.bytes)) = some (some (.agg #[.string ⟨#[]⟩, .int .i64 0]), 2, 24) := by kernel_rfl
theorem zeroP (w : World) : (zeroValue 60).run Tryz.prog w = .ok (.agg #[.string ⟨#[]⟩, .int .i64 0]) w := by kernel_rfl
theorem zeroPc (n : Nat) : ∀ v ∈ (Builtin.zeroCells (Value.agg #[.string ⟨#[]⟩, .int .i64 0]).cells n).toList, v.oneCell' = true := by
  intro v hv
  have hc : (Value.agg #[.string ⟨#[]⟩, .int .i64 0]).cells = #[.string ⟨#[]⟩, .int .i64 0] := by kernel_rfl
  rw [hc] at hv
  simp only [Builtin.zeroCells, Array.toList_map, List.mem_map] at hv
  obtain ⟨i, _, rfl⟩ := hv
  have h2 : i % 2 = 0 ∨ i % 2 = 1 := by omega
  rcases h2 with h2 | h2 <;> simp [h2, Value.oneCell']
set_option maxRecDepth 100000 in
set_option maxHeartbeats 1000000 in
theorem delP_any (B c g : Nat) (l : Prs) (i : Nat) (w : World) (cur : List Value) (hrow : RowB w g 60 cur) (hB : B ≤ g) (hn : l.length ≤ c) (hc : c ≤ maxLen) (hl : cur.length = c * 2) (ht : cur.take (l.length * 2) = cP l)
    (hi : i < l.length) (hlen : l.length ≤ 1000000) :
    Calls Tryz.prog 93 #[.slice (some ⟨g, 0, none⟩) l.length c, .int .i64 i, .int .i64 ((i : Int) + 1)] w fun e w' =>
      ∃ v', e = .returned v' ∧ Seg w' v' 2 (l.length - 1) (cP (l.take i ++ l.drop (i + 1))) ∧ Below B w w' := by
  unfold maxLen at hc
  have q1 : ((i : Int) == (i : Int) + 1) = false := by simp; omega
  have q2 : (0 : Int) ≤ (i : Int) := by omega
  have q3 : (0 : Int) ≤ (i : Int) + 1 := by omega
  have q4 : (i : Int) ≤ (i : Int) + 1 := by omega
  have q5 : (i : Int) + 1 ≤ (l.length : Int) := by omega
  have q6 : (l.length : Int) ≤ (c : Int) := by omega
  have q7 : ((i : Int) + 1).toNat = i + 1 := by omega
  have HL := hid (And.intro hl ht)
  clear hl ht
  obtain ⟨ad, had, hcell⟩ : ∃ ad : Addr, ad = (if c = i + 1 then ⟨g, 0, none⟩ else ⟨g, (i + 1) * 2, none⟩) ∧ ∀ w', RowB w' g 60 cur → ∀ j u, (cP (l.drop (i + 1)))[j]? = some u → w'.cell? (ad.add j) = some u := by
    refine ⟨_, rfl, fun w' hr j u hu => ?_⟩
    by_cases hcc : c = i + 1
    · have : l.drop (i + 1) = [] := List.drop_of_length_le (by omega)
      rw [this] at hu; simp [cP] at hu
    · rw [if_neg hcc, addr_add]
      refine hr.cell ?_
      rw [← cP_drop, List.getElem?_drop, ← HL.out.2, List.getElem?_take] at hu
      split at hu
      · exact hu
      · cases hu
  have HAD := hid had
  clear had
  go_enter Tryz.func93, Tryz.ntmps93
  go_wp2_with fail
  refine wp_region_ph [.k (.slice (some ⟨g, 0, none⟩) l.length c), .k (.int .i64 i), .k (.slice (some ⟨g, 0, none⟩) i c), .k (.slice (some ⟨g, 0, none⟩) l.length c), .k (.int .i64 ((i : Int) + 1)), .k (.slice (some ad) (l.length - (i + 1)) (c - (i + 1)))] [] (by kernel_rfl) (by kernel_rfl) (by kernel_rfl) rfl rfl ?hs ?hC ?he
  case hC =>
    intro i hi
    simp at hi
  case hs =>
    refine ⟨?_, ?_, ?_, ?_, ?_, ?_, trivial⟩
    all_goals (
      intro x w' hE hd
      try simp [PhDeps, at_k, at_p, at_t, at_any, Region.binds] at hd
      try ((with_reducible refine Exists.elim hd ?_); clear hd; intro y hd; obtain ⟨hd, hG⟩ := hd)
      have had := HAD.out
      subst had
      first | simp only [frL, List.length_cons, List.length_nil, List.take_succ_cons, List.take_zero, Nat.reduceAdd, Nat.zero_add, List.setIfInBounds_toArray, List.set_cons_zero, List.set_cons_succ, hd] | simp only [frL, List.length_cons, List.length_nil, List.take_succ_cons, List.take_zero, Nat.reduceAdd, Nat.zero_add, List.setIfInBounds_toArray, List.set_cons_zero, List.set_cons_succ]
      go_wp2
      all_goals first
        | ((with_reducible refine phK ?_ ?_); (focus rfl); (repeat (first | (with_reducible assumption) | (with_reducible exact Ext.refl _) | (with_reducible refine Ext.drew ?_) | (with_reducible refine Ext.drewN ?_ _) | (with_reducible refine Ext.alloc ?_ _) | (with_reducible refine Ext.trans ?_ (by with_reducible assumption)))))
        | ((with_reducible refine phT rfl hG ?_); (repeat (first | (with_reducible assumption) | (with_reducible exact Ext.refl _) | (with_reducible refine Ext.drew ?_) | (with_reducible refine Ext.drewN ?_ _) | (with_reducible refine Ext.alloc ?_ _) | (with_reducible refine Ext.trans ?_ (by with_reducible assumption)))))
        | ((with_reducible refine phU hG ?_); (repeat (first | (with_reducible assumption) | (with_reducible exact Ext.refl _) | (with_reducible refine Ext.drew ?_) | (with_reducible refine Ext.drewN ?_ _) | (with_reducible refine Ext.alloc ?_ _) | (with_reducible refine Ext.trans ?_ (by with_reducible assumption)))))
        | (with_reducible exact phBox hE)
        | (with_reducible exact phRow hE))
  case he =>
    intro x w1 E1 hd
    simp [PhEnd, at_k, at_p, at_any] at hd
    have hrow1 : RowB w1 g 60 cur := E1.heap hrow
    have hnw := hcell w1 hrow1
    obtain ⟨ip, hip, _, hip2, _⟩ := info_parts infoP
    have hlen2 : (cP (l.drop (i + 1))).length = (l.length - (i + 1)) * 2 := by rw [cP_len, List.length_drop]
    have hcl : cur.length = c * 2 := HL.out.1
    have hrun := run_app_row (P := Tryz.prog) w1 35 35 60 ip Tryz.underlying35 hip g i c cur hrow1 ad (l.length - (i + 1)) (c - (i + 1)) (cP (l.drop (i + 1))) (by rw [hip2]; exact hlen2) hnw (cP_one _) (by omega) (by rw [hip2, hlen2]; omega)
    rw [hip2] at hrun
    have hrow2 := hrow1.set (spl cur (i * 2) (cP (l.drop (i + 1))))
    have hB2 : Below B w (w1.setRow g (spl cur (i * 2) (cP (l.drop (i + 1)))).toArray) := below_setRow (Below.mono E1 (by have := (Array.getElem?_eq_some_iff.1 hrow).1; omega)) hB _
    have hl2 : (spl cur (i * 2) (cP (l.drop (i + 1)))).length = c * 2 := by rw [spl_len (by rw [hlen2]; omega)]; exact hcl
    have ht2 : (spl cur (i * 2) (cP (l.drop (i + 1)))).take ((l.length - 1) * 2) = cP (l.take i ++ l.drop (i + 1)) := by
      have h1 := spl_take (cur := cur) (vs := cP (l.drop (i + 1))) (o := i * 2) (by rw [hlen2]; omega)
      rw [hlen2, show i * 2 + (l.length - (i + 1)) * 2 = (l.length - 1) * 2 from by omega] at h1
      rw [h1, cP_app, ← cP_take, ← HL.out.2, List.take_take, Nat.min_eq_left (by omega)]
    generalize spl cur (i * 2) (cP (l.drop (i + 1))) = cur2 at hrun hrow2 hB2 hl2 ht2
    generalize w1.setRow g cur2.toArray = w2 at hrun hrow2 hB2
    simp only [frL, List.length_cons, List.length_nil, List.take_succ_cons, List.take_zero, Nat.reduceAdd, Nat.zero_add, List.setIfInBounds_toArray, List.set_cons_zero, List.set_cons_succ, hd, List.length_cons, List.length_nil, List.drop_succ_cons, List.drop_zero]
    have HC := hid (And.intro hcl (And.intro hl2 ht2))
    have hsum : i + (l.length - (i + 1)) = l.length - 1 := by omega
    rw [hsum] at hrun
    clear hd hcl hl2 ht2 hlen2 hnw hip hip2 hsum
    have hr3 : ((l.length - 1 : Nat) : Int) = (l.length : Int) - 1 := by omega
    have hz2 : (Builtin.zeroCells (Value.agg #[.string ⟨#[]⟩, .int .i64 0]).cells (l.length - (l.length - 1))).size = (l.length - (l.length - 1)) * 2 := by
      rw [size_zeroCells]; rfl
    have hz3 : (Builtin.zeroCells (Value.agg #[.string ⟨#[]⟩, .int .i64 0]).cells (l.length - (l.length - 1))).toList.length = (l.length - (l.length - 1)) * 2 := hz2
    have hclr := fun ty => run_clear_row (P := Tryz.prog) w2 35 60 ty _ Tryz.underlying35 zeroP g ((l.length - 1) * 2) (l.length - (l.length - 1)) (c - (l.length - 1)) cur2 (by omega) hrow2 (by rw [hz2, HC.out.2.1]; omega) (zeroPc _)
    have hl3 := spl_len (cur := cur2) (o := (l.length - 1) * 2) (vs := (Builtin.zeroCells (Value.agg #[.string ⟨#[]⟩, .int .i64 0]).cells (l.length - (l.length - 1))).toList) (by rw [hz3, HC.out.2.1]; omega)
    have ht3 := spl_take_lo (cur := cur2) (o := (l.length - 1) * 2) (m := (l.length - 1) * 2) (vs := (Builtin.zeroCells (Value.agg #[.string ⟨#[]⟩, .int .i64 0]).cells (l.length - (l.length - 1))).toList) (by rw [HC.out.2.1]; omega) (Nat.le_refl _)
    have hrow3 := hrow2.set (spl cur2 ((l.length - 1) * 2) (Builtin.zeroCells (Value.agg #[.string ⟨#[]⟩, .int .i64 0]).cells (l.length - (l.length - 1))).toList)
    have hB3 := below_setRow hB2 hB (spl cur2 ((l.length - 1) * 2) (Builtin.zeroCells (Value.agg #[.string ⟨#[]⟩, .int .i64 0]).cells (l.length - (l.length - 1))).toList).toArray
    generalize spl cur2 ((l.length - 1) * 2) (Builtin.zeroCells (Value.agg #[.string ⟨#[]⟩, .int .i64 0]).cells (l.length - (l.length - 1))).toList = cur3 at hclr hl3 ht3 hrow3 hB3
    have HD := hid (And.intro hl3 ht3)
    have HCL := hid hclr
    clear hl3 ht3 hz2 hz3 hclr
    go_wp2_with (first | (at_builtin; refine Lib.wpList_append_run _ rfl _ _ _ _ rfl _ _ rfl rfl _ _ hrun ?_) | (refine wpList_clear_run w2 rfl _ _ rfl _ (by rfl) (HCL.out _) ?_))
    go_ret
    refine ⟨_, rfl, seg_of_take hrow3 (by omega) (by unfold maxLen; omega) ?_ ?_, hB3⟩
    · rw [cP_len, List.length_append, List.length_take, List.length_drop]; omega
    · rw [HD.out.2, HC.out.2.2]
end Go.Proofs.YtnepdfpooobmcaaGreat
