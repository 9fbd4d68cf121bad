/- Contracts and lemmas for the proof of TopLog; each theorem states its own conditions. -/
import Derived.Test.YtddghaoejnbkaaaGreatDoorQTopLogan
set_option linter.unusedVariables false
set_option linter.unusedSimpArgs false
/- Contracts and lemmas for the proofs of this seat; each theorem states its own conditions. -/
namespace Go.Proofs.YtddghaoejnbkaaaGreatDoor
open Go.RowKit
theorem ins_rowB {cur P X D : List Value} {i n : Nat} (hP : cur.take (i * 2) = P) (hi : i ≤ n) (hX : X.length = 2) (hD : D.length = (n - i) * 2) (hc : (n + 1) * 2 ≤ cur.length) :
    (spl (spl cur (i * 2) X) ((i + 1) * 2) D).take ((n + 1) * 2) = P ++ X ++ D := by
  have h1 := spl_take (cur := cur) (vs := X) (o := i * 2) (by omega)
  have hl := spl_len (cur := cur) (vs := X) (o := i * 2) (by omega)
  have h2 := spl_take (cur := spl cur (i * 2) X) (vs := D) (o := (i + 1) * 2) (by omega)
  rw [show (i + 1) * 2 + D.length = (n + 1) * 2 from by omega] at h2
  rw [show i * 2 + X.length = (i + 1) * 2 from by omega] at h1
  rw [h2, h1, hP]
theorem ins_rowC {cur P X D : List Value} {i n : Nat} (hP : cur.take (i * 2) = P) (hi : i ≤ n) (hX : X.length = 2) (hD : D.length = (n - i) * 2) (hc : (n + 1) * 2 ≤ cur.length) :
    (spl (spl cur ((i + 1) * 2) D) (i * 2) X).take ((n + 1) * 2) = P ++ X ++ D := by
  have hlo := spl_take_lo (cur := cur) (vs := D) (o := (i + 1) * 2) (m := i * 2) (by omega) (by omega)
  have hdr : (spl cur ((i + 1) * 2) D).drop (i * 2 + X.length) = D ++ cur.drop ((i + 1) * 2 + D.length) := by
    have hl : (cur.take ((i + 1) * 2)).length = i * 2 + X.length := by rw [List.length_take]; omega
    unfold spl
    rw [← hl, List.append_assoc, List.drop_left]
  have hPl : P.length = i * 2 := by rw [← hP, List.length_take]; omega
  rw [show spl (spl cur ((i + 1) * 2) D) (i * 2) X = (spl cur ((i + 1) * 2) D).take (i * 2) ++ X ++ (spl cur ((i + 1) * 2) D).drop (i * 2 + X.length) from rfl, hdr, hlo, hP, ← List.append_assoc]
  have : (P ++ X ++ D).length = (n + 1) * 2 := by simp only [List.length_append]; omega
  rw [← this, List.take_left]
theorem seg_vb {w : World} {vb : Nat} {k : ByteArray} {n : Int} (h : w.heap[vb]? = some (.cells #[.string k, .int .i64 n] 62 (0, 0))) : ∀ j u, ([Value.string k, .int .i64 n])[j]? = some u → w.cell? ((⟨vb, 0, none⟩ : Addr).add j) = some u := by
  intro j u hu
  rw [addr_add, Nat.zero_add]
  match j, hu with
  | 0, hu => simp at hu; subst hu; simp [World.cell?, h]
  | 1, hu => simp at hu; subst hu; simp [World.cell?, h]
theorem kv_one (k : ByteArray) (n : Int) : ∀ v ∈ [Value.string k, .int .i64 n], v.oneCell' = true := by
  intro v hv; simp at hv; rcases hv with rfl | rfl <;> rfl
set_option maxRecDepth 100000 in
set_option maxHeartbeats 1000000 in
theorem insP_end (B c : Nat) (a : Option Addr) (l : Prs) (k : ByteArray) (n : Int) (vb : Nat) (w : World) (h : w.ownsRow B 62 2 (.slice a l.length c) l.length (cP l)) (hB : B ≤ w.heap.size)
    (hv : w.heap[vb]? = some (.cells #[.string k, .int .i64 n] 62 (0, 0))) (hlen : l.length ≤ 1000000) :
    Calls Tryz.prog 171 #[.slice a l.length c, .int .i64 l.length, .slice (some ⟨vb, 0, none⟩) 1 1] w fun e w' =>
      ∃ v', e = .returned v' ∧ Seg w' v' 2 (l.length + 1) (cP (l ++ [(k, n)])) ∧ Below B w w' := by
  obtain ⟨_, _, _, hq, hc1, hc2, _⟩ := own_seg h
  injection hq with hq1 _ hq3
  rw [← hq3] at hc1 hc2
  clear hq1 hq3
  unfold maxLen at hc2
  have hge := own_ge h
  have hsv : Seg w (.slice (some ⟨vb, 0, none⟩) 1 1) 2 1 [.string k, .int .i64 n] := ⟨rfl, _, _, rfl, Nat.le_refl _, by simp [maxLen], fun _ => ⟨vb, 0, rfl, fun j u hu => by have := seg_vb hv j u hu; rwa [addr_add] at this⟩⟩
  have hE : cP (l ++ [(k, n)]) = cP l ++ [.string k, .int .i64 n] := by simp [cP]
  have HE := hid hE
  clear hE
  have q0 : ((1 : Int) == 0) = false := by decide
  have q1 : ((l.length : Int) == (l.length : Int)) = true := by simp
  have q2 : (0 : Int) ≤ (l.length : Int) := by omega
  have q3 : (l.length : Int) ≤ (c : Int) := by omega
  have ha : (∃ ad, a = some ad) ∨ a = none := by cases a <;> simp
  rcases ha with ⟨ad, rfl⟩ | rfl
  all_goals
    by_cases hcl : c = l.length
    all_goals
      go_enter Tryz.func171, Tryz.ntmps171
      go_wp2_with (first | (at_builtin; refine (wpList_app rfl _ _ 36 rfl B 62 (.agg #[.string ⟨#[]⟩, .int .i64 0]) 2 24 Tryz.underlying36 infoP rfl (by decide) _ l.length (cP l) rfl h (.slice (some ⟨vb, 0, none⟩) 1 1) 1 [.string k, .int .i64 n] rfl hsv (kv_one k n) (by omega) (by unfold maxLen; omega) hB ?_); intro v' w1 ho hg))
      go_ret
      exact ⟨_, rfl, by rw [HE.out]; exact own_seg ho, Below.grown (Below.refl _ _) hg hB hge⟩
set_option maxRecDepth 100000 in
set_option maxHeartbeats 1000000 in
theorem insP_room (B c g : Nat) (l : Prs) (i : Nat) (k : ByteArray) (n : Int) (vb : Nat) (w : World) (cur : List Value) (hrow : RowB w g 62 cur) (hB : B ≤ g) (hn : l.length + 1 ≤ c) (hc : c ≤ maxLen) (hl : cur.length = c * 2) (ht : cur.take (l.length * 2) = cP l)
    (hi : i < l.length) (hv : w.heap[vb]? = some (.cells #[.string k, .int .i64 n] 62 (0, 0))) (hne : vb ≠ g) (hBw : B ≤ w.heap.size) (hlen : l.length ≤ 1000000) :
    Calls Tryz.prog 171 #[.slice (some ⟨g, 0, none⟩) l.length c, .int .i64 i, .slice (some ⟨vb, 0, none⟩) 1 1] w fun e w' =>
      ∃ v', e = .returned v' ∧ Seg w' v' 2 (l.length + 1) (cP (l.take i ++ [(k, n)] ++ l.drop i)) ∧ Below B w w' := by
  unfold maxLen at hc
  have q0 : ((1 : Int) == 0) = false := by decide
  have q1 : ((i : Int) == (l.length : Int)) = false := by simp; omega
  have q2 : (0 : Int) ≤ (i : Int) := by omega
  have q3 : (0 : Int) ≤ (i : Int) + 1 := by omega
  have q4 : (i : Int) + 1 ≤ (l.length : Int) + 1 := by omega
  have q5 : (l.length : Int) + 1 ≤ (c : Int) := by omega
  have q6 : (i : Int) ≤ (l.length : Int) := by omega
  have q7 : ((i : Int) + 1).toNat = i + 1 := by omega
  have q8 : ((l.length : Int) + 1).toNat = l.length + 1 := by omega
  have q9 : decide ((c : Int) < (l.length : Int) + 1) = false := by simp; omega
  have qa : ¬ c = i := by omega
  have qb : ¬ c = i + 1 := by omega
  have HL := hid (And.intro hl ht)
  clear hl ht
  have hov : ∀ lb cb, (callFunc 231 #[.slice (some ⟨vb, 0, none⟩) 1 1, .slice (some ⟨g, (i + 1) * 2, none⟩) lb cb]).run Tryz.prog w = .ok (.value (.bool false)) w := fun lb cb => by
    rw [run_callFunc_extern Tryz.func231 (by kernel_rfl) (by kernel_rfl) (by kernel_rfl) (e := Extern.SlicesOverlaps.overlaps #[36, 36] #[4]) (by kernel_rfl),
      Lib.run_overlaps_apart w 36 4 62 Tryz.underlying36 2 (fun w => by kernel_rfl) ⟨vb, 0, none⟩ ⟨g, (i + 1) * 2, none⟩ 1 1 lb cb hne 62 62 2 cur.length (by simp [World.shape?, hv]) (by unfold RowB at hrow; simp [World.shape?, hrow]) (by rw [HL.out.1]; omega) (by simp [World.frozen?, hv]) (by simp [World.frozen?, hv])]
    rfl
  go_enter Tryz.func171, Tryz.ntmps171
  go_wp2_with (simp only [hov])
  clear hov
  refine wp_region_ph [.k (.slice (some ⟨g, 0, none⟩) (l.length + 1) c), .k (.int .i64 i), .k (.int .i64 1), .k (.int .i64 ((i : Int) + 1)), .k (.slice (some ⟨g, (i + 1) * 2, none⟩) (l.length - i) (c - (i + 1))), .k (.slice (some ⟨g, 0, none⟩) (l.length + 1) c), .k (.int .i64 i), .k (.slice (some ⟨g, i * 2, none⟩) (l.length + 1 - i) (c - i))] [] (by kernel_rfl) (by kernel_rfl) (by kernel_rfl) rfl rfl ?hs ?hC ?he
  case hC =>
    intro i hi
    simp at hi
  case hs =>
    refine ⟨?_, ?_, ?_, ?_, ?_, ?_, ?_, ?_, trivial⟩
    all_goals (
      intro x w' hE hd
      try simp [PhDeps, at_k, at_p, at_t, at_any, Region.binds] at hd
      try ((with_reducible refine Exists.elim hd ?_); clear hd; intro y hd; obtain ⟨hd, hG⟩ := hd)
      first | simp only [frL, List.length_cons, List.length_nil, List.take_succ_cons, List.take_zero, Nat.reduceAdd, Nat.zero_add, List.setIfInBounds_toArray, List.set_cons_zero, List.set_cons_succ, hd] | simp only [frL, List.length_cons, List.length_nil, List.take_succ_cons, List.take_zero, Nat.reduceAdd, Nat.zero_add, List.setIfInBounds_toArray, List.set_cons_zero, List.set_cons_succ]
      go_wp2
      all_goals first
        | ((with_reducible refine phK ?_ ?_); (focus rfl); (repeat (first | (with_reducible assumption) | (with_reducible exact Ext.refl _) | (with_reducible refine Ext.drew ?_) | (with_reducible refine Ext.drewN ?_ _) | (with_reducible refine Ext.alloc ?_ _) | (with_reducible refine Ext.trans ?_ (by with_reducible assumption)))))
        | ((with_reducible refine phT rfl hG ?_); (repeat (first | (with_reducible assumption) | (with_reducible exact Ext.refl _) | (with_reducible refine Ext.drew ?_) | (with_reducible refine Ext.drewN ?_ _) | (with_reducible refine Ext.alloc ?_ _) | (with_reducible refine Ext.trans ?_ (by with_reducible assumption)))))
        | ((with_reducible refine phU hG ?_); (repeat (first | (with_reducible assumption) | (with_reducible exact Ext.refl _) | (with_reducible refine Ext.drew ?_) | (with_reducible refine Ext.drewN ?_ _) | (with_reducible refine Ext.alloc ?_ _) | (with_reducible refine Ext.trans ?_ (by with_reducible assumption)))))
        | (with_reducible exact phBox hE)
        | (with_reducible exact phRow hE))
  case he =>
    intro x w1 E1 hd
    simp [PhEnd, at_k, at_p, at_any] at hd
    have hrow1 : RowB w1 g 62 cur := E1.heap hrow
    have hv1 := E1.heap hv
    have hcl : cur.length = c * 2 := HL.out.1
    have hD : (cP (l.drop i)).length = (l.length - i) * 2 := by rw [cP_len, List.length_drop]
    have hP : cur.take (i * 2) = cP (l.take i) := by rw [← cP_take, ← HL.out.2, List.take_take, Nat.min_eq_left (by omega)]
    have hmin : Nat.min (l.length + 1 - i) (l.length - i) = l.length - i := by simp only [Nat.min_def]; split <;> omega
    have hsrc : ∀ j u, (cP (l.drop i))[j]? = some u → w1.cell? ((⟨g, i * 2, none⟩ : Addr).add j) = some u := fun j u hu => by
      rw [addr_add]
      refine hrow1.cell ?_
      rw [← cP_drop, List.getElem?_drop, ← HL.out.2, List.getElem?_take] at hu
      split at hu
      · exact hu
      · cases hu
    have hsz2 : (Tryz.prog.info? 62).map (·.size) = some 2 := by kernel_rfl
    have hr1 := fun ty => run_copy_row (P := Tryz.prog) w1 36 36 ty 62 2 g ((i + 1) * 2) (l.length - i) (c - (i + 1)) ⟨g, i * 2, none⟩ (l.length + 1 - i) (c - i) (cP (l.drop i)) cur Tryz.underlying36 hsz2 hrow1 (by rw [hmin, hD]) hsrc (by rw [hD]; omega) (cP_one _)
    have hrow2 := hrow1.set (spl cur ((i + 1) * 2) (cP (l.drop i)))
    have hB2 : Below B w (w1.setRow g (spl cur ((i + 1) * 2) (cP (l.drop i))).toArray) := below_setRow (Below.mono E1 hBw) hB _
    have hv2 := (setRow_other w1 g vb (spl cur ((i + 1) * 2) (cP (l.drop i))).toArray hne).trans hv1
    have hl2 := spl_len (cur := cur) (o := (i + 1) * 2) (vs := cP (l.drop i)) (by rw [hD]; omega)
    have hfin := ins_rowC (cur := cur) (X := [.string k, .int .i64 n]) (D := cP (l.drop i)) (n := l.length) hP (by omega) rfl hD (by omega)
    generalize spl cur ((i + 1) * 2) (cP (l.drop i)) = cur2 at hr1 hrow2 hB2 hv2 hl2 hfin
    generalize w1.setRow g cur2.toArray = w2 at hr1 hrow2 hB2 hv2
    have hmin2 : Nat.min 1 (l.length + 1 - i) = 1 := by simp only [Nat.min_def]; split <;> omega
    have hr2 := fun ty dc => run_copy_row (P := Tryz.prog) w2 36 36 ty 62 2 g (i * 2) (l.length + 1 - i) dc ⟨vb, 0, none⟩ 1 1 [.string k, .int .i64 n] cur2 Tryz.underlying36 hsz2 hrow2 (by rw [hmin2]; rfl) (seg_vb hv2) (by rw [hl2]; simp; omega) (kv_one k n)
    have hrow3 := hrow2.set (spl cur2 (i * 2) [.string k, .int .i64 n])
    have hB3 := below_setRow hB2 hB (spl cur2 (i * 2) [.string k, .int .i64 n]).toArray
    generalize spl cur2 (i * 2) [.string k, .int .i64 n] = cur3 at hr2 hrow3 hB3 hfin
    have HF := hid hfin
    simp only [frL, List.length_cons, List.length_nil, List.take_succ_cons, List.take_zero, Nat.reduceAdd, Nat.zero_add, List.setIfInBounds_toArray, List.set_cons_zero, List.set_cons_succ, hd, List.drop_succ_cons, List.drop_zero]
    clear hd hfin hmin hmin2 hD hP hcl hl2 hsz2 hsrc
    go_wp2
    go_ret
    refine ⟨_, rfl, seg_of_take hrow3 (by omega) (by unfold maxLen; omega) ?_ ?_, hB3⟩
    · rw [cP_len, List.length_append, List.length_append, List.length_take, List.length_drop]; simp; omega
    · rw [HF.out, cP_app, cP_app]; rfl
set_option maxRecDepth 100000 in
set_option maxHeartbeats 1000000 in
theorem insP_grow (B c g : Nat) (l : Prs) (i : Nat) (k : ByteArray) (n : Int) (vb : Nat) (w : World) (cur : List Value) (hrow : RowB w g 62 cur) (hnc : l.length ≤ c) (hn : c < l.length + 1) (hc : c ≤ maxLen) (hl : cur.length = c * 2) (ht : cur.take (l.length * 2) = cP l)
    (hi : i < l.length) (hv : w.heap[vb]? = some (.cells #[.string k, .int .i64 n] 62 (0, 0))) (hBw : B ≤ w.heap.size) (hlen : l.length ≤ 1000000) :
    Calls Tryz.prog 171 #[.slice (some ⟨g, 0, none⟩) l.length c, .int .i64 i, .slice (some ⟨vb, 0, none⟩) 1 1] w fun e w' =>
      ∃ v', e = .returned v' ∧ Seg w' v' 2 (l.length + 1) (cP (l.take i ++ [(k, n)] ++ l.drop i)) ∧ Below B w w' := by
  unfold maxLen at hc
  have q0 : ((1 : Int) == 0) = false := by decide
  have q1 : ((i : Int) == (l.length : Int)) = false := by simp; omega
  have q2 : (0 : Int) ≤ (i : Int) := by omega
  have q3 : (0 : Int) ≤ (i : Int) + 1 := by omega
  have q4 : (i : Int) + 1 ≤ (l.length : Int) := by omega
  have q5 : (l.length : Int) ≤ (c : Int) := by omega
  have q6 : (i : Int) ≤ (l.length : Int) := by omega
  have q7 : ((i : Int) + 1).toNat = i + 1 := by omega
  have q9 : decide ((c : Int) < (l.length : Int) + 1) = true := by simp; omega
  have qa : ¬ c = i := by omega
  have HL := hid (And.intro hl ht)
  clear hl ht
  obtain ⟨ip, hip, hz0, hip2, hip3⟩ := info_parts infoP
  have hP : cur.take (i * 2) = cP (l.take i) := by rw [← cP_take, ← HL.out.2, List.take_take, Nat.min_eq_left (by omega)]
  have hold : (Builtin.firstCells ip.size i (.slice (some ⟨g, 0, none⟩) i c)).run Tryz.prog w.drew = .ok (cP (l.take i)).toArray w.drew := by
    rw [hip2]
    refine run_firstCells_some w.drew 2 i ⟨g, 0, none⟩ i c _ (by rw [cP_len, List.length_take]; omega) (fun j u hu => ?_)
    rw [addr_add, Nat.zero_add]
    refine hrow.drew.cell ?_
    rw [← hP, List.getElem?_take] at hu
    split at hu
    · exact hu
    · cases hu
  have hrz := fun ty => Lib.run_append_grow_zeros (P := Tryz.prog) w 36 3 ty 62 ip _ .i64 .i64 Tryz.underlying36 Tryz.underlying3 hip hz0 (some ⟨g, 0, none⟩) i c _ hold (l.length + 1 - i) (by omega) (by omega) (by omega) (by omega) (by rw [hip3]; omega) (by rw [hip3]; exact growslice_fits (by omega) (by omega))
  rw [show i + (l.length + 1 - i) = l.length + 1 from by omega, show ((l.length + 1 - i : Nat) : Int) = (l.length : Int) + 1 - (i : Int) from by omega] at hrz
  have hge := grownCap_ge w (l.length + 1) c 62
  have hle := grownCap_le_maxLen w (l.length + 1) c 62 (by unfold maxLen; omega)
  generalize grownCap w (l.length + 1) c 62 = C at hrz hge hle
  unfold maxLen at hle
  have hzsz : ∀ m, (Builtin.zeroCells (Value.agg #[.string ⟨#[]⟩, .int .i64 0]).cells m).toList.length = m * 2 := fun m => by
    have : (Builtin.zeroCells (Value.agg #[.string ⟨#[]⟩, .int .i64 0]).cells m).size = m * 2 := by rw [size_zeroCells]; rfl
    exact this
  obtain ⟨R, hR⟩ : ∃ R : List Value, R = cP (l.take i) ++ (Builtin.zeroCells (Value.agg #[.string ⟨#[]⟩, .int .i64 0]).cells (l.length + 1 - i)).toList ++ (Builtin.zeroCells (Value.agg #[.string ⟨#[]⟩, .int .i64 0]).cells (C - (l.length + 1))).toList := ⟨_, rfl⟩
  have hRa : (cP (l.take i)).toArray ++ Builtin.zeroCells (Value.agg #[.string ⟨#[]⟩, .int .i64 0]).cells (l.length + 1 - i) ++ Builtin.zeroCells (Value.agg #[.string ⟨#[]⟩, .int .i64 0]).cells (C - (l.length + 1)) = R.toArray := by
    rw [hR]; simp
  have hpl : (cP (l.take i)).length = i * 2 := by rw [cP_len, List.length_take, Nat.min_eq_left (by omega)]
  have hRl : R.length = C * 2 := by rw [hR, List.length_append, List.length_append, hzsz, hzsz, hpl]; omega
  have hR0 : R.take (i * 2) = cP (l.take i) := by rw [hR, List.append_assoc, ← hpl, List.take_left]
  rw [hRa] at hrz
  have E1 : Ext w (w.drew.alloc (.cells R.toArray 62)) := (Ext.refl w).drew.alloc _
  have hrowG : RowB (w.drew.alloc (.cells R.toArray 62)) w.heap.size 62 R := heap_alloc_new w.drew _
  generalize w.drew.alloc (.cells R.toArray 62) = w1 at hrz E1 hrowG
  have hv1 := E1.heap hv
  have hrow1 : RowB w1 g 62 cur := E1.heap hrow
  have hgw : g < w.heap.size := (Array.getElem?_eq_some_iff.1 hrow).1
  have hvw : vb < w.heap.size := (Array.getElem?_eq_some_iff.1 hv).1
  have hB1 : Below B w w1 := Below.mono E1 hBw
  have hsz2 : (Tryz.prog.info? 62).map (·.size) = some 2 := by kernel_rfl
  generalize hG : w.heap.size = G at hrz hrowG
  have hgG : g ≠ G := by omega
  have hvG : vb ≠ G := by omega
  have hBG : B ≤ G := by omega
  have hmin2 : Nat.min 1 (l.length + 1 - i) = 1 := by simp only [Nat.min_def]; split <;> omega
  have hr2 := fun ty dc => run_copy_row (P := Tryz.prog) w1 36 36 ty 62 2 G (i * 2) (l.length + 1 - i) dc ⟨vb, 0, none⟩ 1 1 [.string k, .int .i64 n] R Tryz.underlying36 hsz2 hrowG (by rw [hmin2]; rfl) (seg_vb hv1) (by rw [hRl]; simp; omega) (kv_one k n)
  have hrowG2 := hrowG.set (spl R (i * 2) [.string k, .int .i64 n])
  have hB2 := below_setRow hB1 hBG (spl R (i * 2) [.string k, .int .i64 n]).toArray
  have hrow2 : RowB (w1.setRow G (spl R (i * 2) [.string k, .int .i64 n]).toArray) g 62 cur := (setRow_other w1 G g _ hgG).trans hrow1
  have hD : (cP (l.drop i)).length = (l.length - i) * 2 := by rw [cP_len, List.length_drop]
  have hl2 := spl_len (cur := R) (o := i * 2) (vs := [.string k, .int .i64 n]) (by rw [hRl]; simp; omega)
  have hfin := ins_rowB (cur := R) (X := [.string k, .int .i64 n]) (D := cP (l.drop i)) (n := l.length) hR0 (by omega) rfl hD (by omega)
  generalize spl R (i * 2) [.string k, .int .i64 n] = R2 at hr2 hrowG2 hB2 hrow2 hl2 hfin
  generalize w1.setRow G R2.toArray = w2 at hr2 hrowG2 hB2 hrow2
  have HF := hid (And.intro hl2 (And.intro hRl (And.intro hD hfin)))
  have HG := hid hG
  clear hl2 hRl hD hfin hG hRa hR hR0 hpl hzsz hold hP hip hz0 hip2 hip3
  have qc : ¬ C = i := by omega
  have qd : ¬ C = i + 1 := by omega
  have qe : (i : Int) ≤ (l.length : Int) + 1 := by omega
  have qf : (i : Int) + 1 ≤ (l.length : Int) + 1 := by omega
  go_enter Tryz.func171, Tryz.ntmps171
  go_wp2_with (at_builtin; refine Lib.wpList_append_run _ rfl _ _ _ _ rfl _ _ rfl rfl _ _ (hrz _) ?_)
  clear hrz hr2
  refine wp_region_ph [.k (.slice (some ⟨G, 0, none⟩) (l.length + 1) C), .k (.int .i64 i), .k (.int .i64 1), .k (.int .i64 ((i : Int) + 1)), .k (.slice (some ⟨G, (i + 1) * 2, none⟩) (l.length - i) (C - (i + 1))), .k (.slice (some ⟨g, 0, none⟩) l.length c), .k (.int .i64 i), .k (.slice (some ⟨g, i * 2, none⟩) (l.length - i) (c - i))] [] (by kernel_rfl) (by kernel_rfl) (by kernel_rfl) rfl rfl ?hs ?hC ?he
  case hC =>
    intro i hi
    simp at hi
  case hs =>
    refine ⟨?_, ?_, ?_, ?_, ?_, ?_, ?_, ?_, trivial⟩
    all_goals (
      intro x w' hE hd
      try simp [PhDeps, at_k, at_p, at_t, at_any, Region.binds] at hd
      try ((with_reducible refine Exists.elim hd ?_); clear hd; intro y hd; obtain ⟨hd, hG⟩ := hd)
      first | simp only [frL, List.length_cons, List.length_nil, List.take_succ_cons, List.take_zero, Nat.reduceAdd, Nat.zero_add, List.setIfInBounds_toArray, List.set_cons_zero, List.set_cons_succ, hd] | simp only [frL, List.length_cons, List.length_nil, List.take_succ_cons, List.take_zero, Nat.reduceAdd, Nat.zero_add, List.setIfInBounds_toArray, List.set_cons_zero, List.set_cons_succ]
      go_wp2
      all_goals first
        | ((with_reducible refine phK ?_ ?_); (focus rfl); (repeat (first | (with_reducible assumption) | (with_reducible exact Ext.refl _) | (with_reducible refine Ext.drew ?_) | (with_reducible refine Ext.drewN ?_ _) | (with_reducible refine Ext.alloc ?_ _) | (with_reducible refine Ext.trans ?_ (by with_reducible assumption)))))
        | ((with_reducible refine phT rfl hG ?_); (repeat (first | (with_reducible assumption) | (with_reducible exact Ext.refl _) | (with_reducible refine Ext.drew ?_) | (with_reducible refine Ext.drewN ?_ _) | (with_reducible refine Ext.alloc ?_ _) | (with_reducible refine Ext.trans ?_ (by with_reducible assumption)))))
        | ((with_reducible refine phU hG ?_); (repeat (first | (with_reducible assumption) | (with_reducible exact Ext.refl _) | (with_reducible refine Ext.drew ?_) | (with_reducible refine Ext.drewN ?_ _) | (with_reducible refine Ext.alloc ?_ _) | (with_reducible refine Ext.trans ?_ (by with_reducible assumption)))))
        | (with_reducible exact phBox hE)
        | (with_reducible exact phRow hE))
  case he =>
    intro x w3 E3 hd
    simp [PhEnd, at_k, at_p, at_any] at hd
    have hrow3 : RowB w3 g 62 cur := E3.heap hrow2
    have hrowG3 : RowB w3 G 62 R2 := E3.heap hrowG2
    have hB3 : Below B w w3 := Below.trans hB2 (Below.mono E3 (by have := hB2.size; omega))
    have hsrc : ∀ j u, (cP (l.drop i))[j]? = some u → w3.cell? ((⟨g, i * 2, none⟩ : Addr).add j) = some u := fun j u hu => by
      rw [addr_add]
      refine hrow3.cell ?_
      rw [← cP_drop, List.getElem?_drop, ← HL.out.2, List.getElem?_take] at hu
      split at hu
      · exact hu
      · cases hu
    have hmin3 : Nat.min (l.length - i) (l.length - i) = l.length - i := Nat.min_self _
    have hr3 := fun ty => run_copy_row (P := Tryz.prog) w3 36 36 ty 62 2 G ((i + 1) * 2) (l.length - i) (C - (i + 1)) ⟨g, i * 2, none⟩ (l.length - i) (c - i) (cP (l.drop i)) R2 Tryz.underlying36 hsz2 hrowG3 (by rw [hmin3, HF.out.2.2.1]) hsrc (by rw [HF.out.2.2.1, HF.out.1, HF.out.2.1]; omega) (cP_one _)
    have hrow4 := hrowG3.set (spl R2 ((i + 1) * 2) (cP (l.drop i)))
    have hB4 := below_setRow hB3 hBG (spl R2 ((i + 1) * 2) (cP (l.drop i))).toArray
    have hfin := HF.out.2.2.2
    generalize spl R2 ((i + 1) * 2) (cP (l.drop i)) = R3 at hr3 hrow4 hB4 hfin
    have HI := hid hfin
    simp only [frL, List.length_cons, List.length_nil, List.take_succ_cons, List.take_zero, Nat.reduceAdd, Nat.zero_add, List.setIfInBounds_toArray, List.set_cons_zero, List.set_cons_succ, hd, List.drop_succ_cons, List.drop_zero]
    clear hd hsrc hmin3 hfin hmin2 hsz2
    go_wp2
    go_ret
    refine ⟨_, rfl, seg_of_take hrow4 (by omega) (by unfold maxLen; omega) ?_ ?_, hB4⟩
    · rw [cP_len, List.length_append, List.length_append, List.length_take, List.length_drop]; simp; omega
    · rw [HI.out, cP_app, cP_app]; rfl
end Go.Proofs.YtddghaoejnbkaaaGreatDoor
