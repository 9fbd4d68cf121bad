/- Contracts and lemmas for the proof of PartsPlay; each theorem states its own conditions. -/
import Derived.Test.YtimchedebcoohaaGreatDoorQPartsPlaybj
import Derived.Test.YtimchedebcoohaaGreatDoorQPartsPlayba
import Derived.Test.YtimchedebcoohaaGreatDoorQPartsPlaybk
import Derived.Test.YtimchedebcoohaaGreatDoorQPartsPlayav
import Derived.Test.YtimchedebcoohaaGreatDoorQPartsPlayap
set_option linter.unusedVariables false
set_option linter.unusedSimpArgs false
/- Contracts and lemmas for the proofs of this seat; each theorem states its own conditions. -/
namespace Go.Proofs.YtimchedebcoohaaGreatDoor
open Go.RowKit Go.Shelf Go.Lib Go.Sort
/-! parts.Who -/
theorem sort_leI (zs : List Int) : (zs.mergeSort fun x y => decide (x ≤ y)).Pairwise fun x y => x ≤ y := by
  have := List.pairwise_mergeSort (le := fun x y : Int => decide (x ≤ y)) (fun a b c h k => by simp only [decide_eq_true_eq] at *; omega) (fun a b => by
    simp only [Bool.or_eq_true, decide_eq_true_eq]; omega) zs
  exact this.imp fun h => by simpa using h
theorem comp_toI {d : Array Int} (h : ∀ i j, i < j → j < d.size → d[i]! ≤ d[j]!) : ∀ m, m ≤ d.size → (compactUpTo d m).Pairwise (fun x y => x < y) ∧ (∀ x ∈ compactUpTo d m, ∃ j, j < m ∧ x = d[j]!) ∧ ∀ j, j < m → d[j]! ∈ compactUpTo d m
  | 0, _ => by simp [compactUpTo]
  | m + 1, hm => by
    obtain ⟨h1, h2, h3⟩ := comp_toI h m (by omega)
    rw [compactUpTo_succ]
    by_cases hk : keeps d m = true
    · rw [if_pos hk]
      refine ⟨List.pairwise_append.2 ⟨h1, by simp, fun a ha b hb => ?_⟩, fun x hx => ?_, fun j hj => ?_⟩
      · simp at hb; subst hb
        obtain ⟨j, hj, rfl⟩ := h2 a ha
        have hne : d[m]! ≠ d[m - 1]! := by
          simp [keeps] at hk
          rcases hk with e | e
          · omega
          · exact e
        have h4 := h (m - 1) m (by omega) (by omega)
        rcases Nat.lt_or_ge j (m - 1) with e | e
        · have := h j (m - 1) e (by omega); omega
        · have : j = m - 1 := by omega
          rw [this]; omega
      · rcases List.mem_append.1 hx with hx | hx
        · obtain ⟨j, hj, e⟩ := h2 x hx; exact ⟨j, by omega, e⟩
        · simp at hx; exact ⟨m, by omega, hx⟩
      · rcases Nat.lt_or_ge j m with e | e
        · exact List.mem_append_left _ (h3 j e)
        · have : j = m := by omega
          rw [this]; simp
    · rw [if_neg hk, List.append_nil]
      have hm0 : m ≠ 0 ∧ d[m]! = d[m - 1]! := by
        simp [keeps] at hk; exact hk
      refine ⟨h1, fun x hx => ?_, fun j hj => ?_⟩
      · obtain ⟨j, hj, e⟩ := h2 x hx; exact ⟨j, by omega, e⟩
      · rcases Nat.lt_or_ge j m with e | e
        · exact h3 j e
        · have : j = m := by omega
          rw [this, hm0.2]
          exact h3 (m - 1) (by omega)
theorem comp_sortedI {zs : List Int} (h : zs.Pairwise fun x y => x ≤ y) : (compact zs).Pairwise (fun x y => x < y) ∧ ∀ x, x ∈ compact zs ↔ x ∈ zs := by
  have ha : ∀ i j, i < j → j < zs.toArray.size → zs.toArray[i]! ≤ zs.toArray[j]! := fun i j hij hj => by
    have hj' : j < zs.length := by simpa using hj
    have hi' : i < zs.length := by omega
    have := List.pairwise_iff_getElem.1 h i j hi' hj' hij
    simpa [hi', hj'] using this
  obtain ⟨h1, h2, h3⟩ := comp_toI ha zs.length (by simp)
  refine ⟨h1, fun x => ⟨fun hx => ?_, fun hx => ?_⟩⟩
  · obtain ⟨j, hj, e⟩ := h2 x hx
    rw [e]; simp [hj]
  · obtain ⟨j, hj, rfl⟩ := List.mem_iff_getElem.1 hx
    have := h3 j hj
    unfold compact
    simpa [hj] using this
/-- numbers in order, each once -/
def sortI (L : List Int) : List Int := compact (L.mergeSort fun x y => decide (x ≤ y))
theorem sortI_mem (L : List Int) (x : Int) : x ∈ sortI L ↔ x ∈ L := by
  unfold sortI
  rw [(comp_sortedI (sort_leI L)).2, List.mem_mergeSort]
theorem sortI_srt (L : List Int) : (sortI L).Pairwise fun x y => x < y := (comp_sortedI (sort_leI L)).1
theorem sortI_len (L : List Int) : (sortI L).length ≤ L.length := by
  unfold sortI
  have := compact_length_le (L.mergeSort fun x y => decide (x ≤ y))
  rwa [List.length_mergeSort] at this
theorem holds_ownI {w : World} {B e c g : Nat} {zs : List Int} {n : Nat} (h : w.ownsRow B e 1 (.slice (some ⟨g, 0, none⟩) n c) n (cI zs)) : Holds (Value.int .i64) w g 0 zs.toArray := by
  intro j hj
  have hj' : j < zs.length := by simpa using hj
  have hn := h.1
  simp [cI] at hn
  obtain ⟨_, _, he, _, _, _, hc⟩ := seg_cells (own_seg h) (by omega)
  injection he with he; injection he with he1 he2
  subst he1; subst he2
  refine ⟨?_, ?_⟩
  · rw [hc j (.int .i64 zs[j]) (by simp [cI, hj'])]
    simp [hj']
  · obtain ⟨cur, hcu⟩ := own_heap h
    simp [World.frozen?, hcu]
/-- whose keys a deed touches -/
def whoL (C : List ByteArray) (O : List Int) (d : Ops) : List Int := sortI ((sortU (rds d) ++ sortU (wrs d)).map (whose C O))
theorem keys_some {d : Ops} (h : DeedOk d) : 0 < (sortU (rds d) ++ sortU (wrs d)).length := by
  cases e : d with
  | nil => have := h.lo; rw [e] at this; simp at this
  | cons o d' =>
    have ho := h.ops o (by rw [e]; simp)
    have : ∃ k, k ∈ rds (o :: d') ∨ k ∈ wrs (o :: d') := by
      rcases kinds ho with q | q | q | q | q
      · exact ⟨o.key, .inr (by simp [wrs, wrO, q])⟩
      · exact ⟨o.key, .inr (by simp [wrs, wrO, q])⟩
      · exact ⟨o.key, .inr (by simp [wrs, wrO, q])⟩
      · exact ⟨o.key, .inl (by simp [rds, rdO, q])⟩
      · exact ⟨o.key, .inr (by simp [wrs, wrO, q])⟩
    obtain ⟨k, hk⟩ := this
    rcases hk with hk | hk
    · have := List.length_pos_of_mem ((sortU_mem _ _).2 hk); rw [List.length_append]; omega
    · have := List.length_pos_of_mem ((sortU_mem _ _).2 hk); rw [List.length_append]; omega
theorem who_pos (C : List ByteArray) (O : List Int) {d : Ops} (h : DeedOk d) : 0 < (whoL C O d).length := by
  have hk := keys_some h
  unfold whoL
  generalize sortU (rds d) ++ sortU (wrs d) = K at hk
  have hm : whose C O (K[0]'hk) ∈ sortI (K.map (whose C O)) := (sortI_mem _ _).2 (List.mem_map.2 ⟨_, List.getElem_mem hk, rfl⟩)
  exact List.length_pos_of_mem hm
theorem who_len (C : List ByteArray) (O : List Int) {d : Ops} (h : DeedOk d) : (whoL C O d).length ≤ 32 := by
  obtain ⟨h1, h2⟩ := rw_len h
  have := sortI_len ((sortU (rds d) ++ sortU (wrs d)).map (whose C O))
  rw [List.length_map, List.length_append] at this
  unfold whoL; omega
theorem wh_step (C : List ByteArray) (O : List Int) {K : List ByteArray} {j : Nat} (h : j < K.length) : cI ((K.take j).map (whose C O)) ++ [.int .i64 (whose C O K[j])] = cI ((K.take (j + 1)).map (whose C O)) := by
  rw [List.take_succ_eq_append_getElem h, List.map_append]; simp [cI]
set_option maxRecDepth 100000 in
set_option maxHeartbeats 4000000 in
theorem pwho_ok {w : World} {bt : Nat} {C : List ByteArray} {O : List Int} {P : Nat → Prs} {vc vo : Value} {pv : Nat → Value} (h : PartsSt w bt C O P vc vo pv) (hm : MapOk C O) (vd : Value) (d : Ops) (hvd : Seg w vd 4 d.length (cO d)) (hd : DeedOk d) (hf : ∀ o ∈ d, o.from_.size ≤ 9223372036854775807) :
    Calls Tryz.prog 18 #[.pointer (some ⟨bt, 0, none⟩), .agg #[vd]] w fun e w' => ∃ v', e = .returned (.tuple #[v', .int .i64 0]) ∧ w'.ownsRow w.heap.size 3 1 v' (whoL C O d).length (cI (whoL C O d)) ∧ Ext w w' := by
  have E0 := (Ext.refl w).alloc (.cells #[vd] 43)
  have b0 := heap_alloc_new w (.cells #[vd] 43)
  obtain ⟨ad, cd, rfl⟩ := seg_form hvd
  have z0 := cell_of_one b0
  have few := hm.few
  obtain ⟨hr16, hw16⟩ := rw_len hd
  have KY := hid (keys_ok (.slice ad d.length cd) d _ (hvd.ext E0) hd hf)
  have hKp := keys_some hd
  have hKl : (sortU (rds d) ++ sortU (wrs d)).length = (sortU (rds d)).length + (sortU (wrs d)).length := List.length_append
  have hWL : whoL C O d = sortI ((sortU (rds d) ++ sortU (wrs d)).map (whose C O)) := rfl
  rw [hWL]
  have HP0 := hid (h.ext E0)
  generalize hKe : sortU (rds d) ++ sortU (wrs d) = K at hKl hKp ⊢
  have HKE := hid hKe
  generalize sortU (rds d) = RS' at hr16 KY hKl HKE hKe
  generalize sortU (wrs d) = WS at hw16 KY hKl HKE hKe
  clear hKe h b0 hvd hWL
  have hK32 : K.length ≤ 32 := by omega
  clear hKl
  go_enter Tryz.func18, Tryz.ntmps18
  go_wp2_with fail
  refine (KY.out).mono ?_
  rintro e w1 ⟨v1, v2, rfl, o1, o2, E1⟩
  have s1 := own_seg o1
  have s2 := own_seg o2
  obtain ⟨a1, c1, rfl⟩ := own_form o1
  obtain ⟨a2, c2, rfl⟩ := own_form o2
  have b1 := heap_alloc_new w1 (.cells #[.slice a1 RS'.length c1, .slice a2 WS.length c2] 22)
  have E2 := (Ext.refl w1).alloc (.cells #[.slice a1 RS'.length c1, .slice a2 WS.length c2] 22)
  have CC := concat2_Str w1.heap.size (.slice a1 RS'.length c1) (.slice a2 WS.length c2) RS' WS _ b1 (s1.ext E2) (s2.ext E2) (by omega)
  rw [HKE.out] at CC
  have CC := hid CC
  have E02 := hid ((E1.trans E2))
  clear o1 o2 s1 s2 b1 KY E1 E2 z0
  go_wp2_with fail
  refine (CC.out).mono ?_
  rintro e w2 ⟨v3, rfl, o3, E3⟩
  have s3 := own_seg o3
  obtain ⟨a3, c3, rfl⟩ := own_form o3
  have E13 := hid (E0.trans (E02.out.trans E3))
  have HPP := hid (HP0.out.ext (E02.out.trans E3))
  have HS3 := hid s3
  clear CC o3 s3 E3 E02 HP0 E0
  go_wp2_with fail
  go_loopw [9, 11, 26] (fun ov _ jv wr => ∃ j : Nat, j ≤ K.length ∧ jv = .int .i64 j ∧ wr.ownsRow w2.heap.size 3 1 ov j (cI ((K.take j).map (whose C O))) ∧ Ext w2 wr) (fun _ _ jv _ => K.length - (intOf jv).toNat)
  case atStart => exact ⟨0, Nat.zero_le _, rfl, World.ownsRow_nil _ _ _ _, Ext.refl _⟩
  case round =>
    obtain ⟨wo, rfl⟩ : ∃ wo : World, wo = wr := ⟨_, rfl⟩
    obtain ⟨j, hj, rfl, ho, Eo⟩ := hrel
    obtain ⟨ot, oc, rfl⟩ := own_form ho
    by_cases hjK : j < K.length
    · obtain ⟨b3, f3, rfl, _, m1, m2, h3⟩ := seg_cells HS3.out (by omega)
      unfold maxLen at m2
      have ck := Eo.cell (h3 j (.string K[j]) (by simp [cS, hjK]))
      have hst := wh_step C O hjK
      have hP := HPP.out.ext Eo
      obtain ⟨x0, x1⟩ := hP.cell0
      have OF := of_any (.agg #[vc, vo]) C O K[j] wo hP.is hm.srt hm.len (by omega)
      generalize K[j] = key at ck hst OF
      generalize whose C O key = q at hst OF
      have OF := hid OF
      have HST := hid hst
      have HO := hid ho
      clear h3 hst hP ho
      go_wp2_with fail
      refine (OF.out).mono ?_
      rintro e w6 ⟨rfl, E6⟩
      have p1 : Seg (w6.alloc (.cells #[.int .i64 q] 3)) (.slice (some ⟨w6.heap.size, 0, none⟩) 1 1) 1 1 [.int .i64 q] := seg_one (heap_alloc_new w6 _)
      have p2 := (own_ext HO.out E6).alloc (.cells #[.int .i64 q] 3)
      have p3 : w2.heap.size ≤ (w6.alloc (.cells #[.int .i64 q] 3)).heap.size := by have := (Eo.trans E6).size'; simp; omega
      clear OF x0 x1 ck
      go_wp2_with (first | (at_builtin; refine (wpList_app rfl _ _ 23 rfl w2.heap.size 3 (.int .i64 0) 1 8 Tryz.underlying23 infoI rfl (by decide) _ j (cI ((K.take j).map (whose C O))) rfl p2 _ 1 [.int .i64 q] rfl p1 (one_int _) (by omega) (by unfold maxLen; omega) p3 ?_); intro v' w9 ho' hg; obtain ⟨a9, c9, rfl⟩ := own_form ho'))
      rw [HST.out] at ho'
      have HN := hid ho'
      have E9 := ((Eo.trans E6).alloc _).grown hg (fun k hk => own_ge p2 k hk)
      go_roundw
      case rel => exact ⟨j + 1, by omega, by go_num, HN.out, E9⟩
      case measure => simp [intOf] <;> omega
    · obtain rfl : j = K.length := by omega
      rw [List.take_length] at ho
      have hLl : (K.map (whose C O)).length = K.length := by simp
      have hle2 := sortI_len (K.map (whose C O))
      have hsi : sortI (K.map (whose C O)) = compact ((K.map (whose C O)).mergeSort fun x y => decide (x ≤ y)) := rfl
      generalize hKL : K.map (whose C O) = L at ho hLl hle2 hsi
      have HKL := hid hKL
      obtain ⟨g, rfl, hg1, hg2, hg3, hg4⟩ := own_pos ho (by omega)
      have S1 := Any.slices_Sort_int lays189 g 0 oc L wo (holds_ownI ho) hg2 (by omega)
      have hls : (L.mergeSort fun x y => decide (x ≤ y)).length = L.length := by rw [List.length_mergeSort]
      have hH := holds_ownI ho
      have PSt := fun q => putRow_eq_setCells (Value.int .i64) wo g 0 L.toArray (L.mergeSort fun x y => decide (x ≤ y)) q hH (by rw [hls]; simp)
      have hcl0 := compact_length_le (L.mergeSort fun x y => decide (x ≤ y))
      generalize (L.mergeSort fun x y => decide (x ≤ y)) = M at S1 hls PSt hcl0 hsi
      have HSI := hid hsi
      rw [hLl] at S1
      have S1 := hid S1
      have PSt := hid PSt
      have HO := hid ho
      have HL := hid hLl
      have HLS := hid hls
      have hcl1 := hid hcl0
      clear ho hH hLl hls hle2 hsi hcl0 hKL
      go_wp2_with fail
      refine (S1.out).mono ?_
      clear S1
      rintro e w1' ⟨rfl, q, os, rfl⟩
      rw [PSt.out q]
      clear PSt
      have hMl : M.length = K.length := by rw [HLS.out, HL.out]
      obtain ⟨ho1, hg'⟩ := own_puts HO.out (ys := M.map (Value.int .i64)) (by simpa using hMl) q os
      have hgo : w2.heap.size ≤ wo.heap.size := Eo.size'
      generalize grow ((wo.drewN q).setCells g 0 (M.map (Value.int .i64))) os = w1' at ho1 hg' ⊢
      have C1 := Any.slices_Compact_int lays2n20 g 0 oc M w1' (holds_ownI ho1) (by omega) (by omega)
      have hH1 := holds_ownI ho1
      have PS1 := fun q => putRow_eq_setCells (Value.int .i64) w1' g 0 M.toArray (compact M ++ List.replicate (M.length - (compact M).length) 0) q hH1 (by simp; have := hcl1.out; omega)
      rw [hMl] at C1 PS1
      have HLE := hid (show (compact M).length ≤ K.length by have := hcl1.out; omega)
      have C1 := hid C1
      have PS1 := hid PS1
      clear hH1 hcl1
      generalize compact M = Dd at C1 PS1 HLE HSI
      have HG1 := hid hg'
      have HO1 := hid ho1
      clear hg' ho1 hMl
      go_wp2_with fail
      refine (C1.out).mono ?_
      clear C1
      rintro e w2' ⟨rfl, q2, rfl⟩
      rw [PS1.out q2]
      clear PS1
      have hle := HLE.out
      obtain ⟨ho2, hg2'⟩ := own_puts HO1.out (ys := (Dd ++ List.replicate (K.length - Dd.length) 0).map (Value.int .i64)) (by simp; omega) q2 #[]
      rw [grow_empty] at ho2 hg2'
      have ho3 := own_shorter ho2 (m := Dd.length) hle
      have et : ((Dd ++ List.replicate (K.length - Dd.length) 0).map (Value.int .i64)).take Dd.length = Dd.map (Value.int .i64) := by rw [List.map_append, List.take_left' (by simp)]
      rw [et] at ho3
      clear et
      generalize ((w1'.drewN q2).setCells g 0 ((Dd ++ List.replicate (K.length - Dd.length) 0).map (Value.int .i64))) = w2' at ho2 ho3 hg2' ⊢
      have K0 := hid (clone_Int (.slice (some ⟨g, 0, none⟩) Dd.length oc) Dd.length (Dd.map (Value.int .i64)) w2' (own_seg ho3) (cI_one Dd) (by omega))
      have hG := HG1.out.trans hg2'
      have EF := hid (ext_keptB ((E13.out.trans Eo)) hG (show w.heap.size ≤ g by have := E13.out.size'; omega))
      clear hle ho2 ho3 hg2' hG
      go_wp2_with fail
      refine (K0.out).mono ?_
      rintro e w3 ⟨a', c', rfl, ho', E1⟩
      go_wp2
      go_ret2
      refine ⟨_, rfl, ?_, EF.out.trans E1⟩
      rw [HKL.out, HSI.out]
      exact own_base ho' EF.out.size'
end Go.Proofs.YtimchedebcoohaaGreatDoor

/- Contracts and lemmas for the proofs of this seat; each theorem states its own conditions. -/
namespace Go.Proofs.YtimchedebcoohaaGreatDoor
open Go.RowKit
/-! PartsPlay: plain laws: how many keys a store may have, whose a deed's keys are -/
theorem nd_le {α : Type} [DecidableEq α] : ∀ {l m : List α}, l.Nodup → (∀ x ∈ l, x ∈ m) → l.length ≤ m.length
  | [], _, _, _ => Nat.zero_le _
  | a :: l, m, h, hs => by
    have ha := hs a (by simp)
    have hn := List.nodup_cons.1 h
    have ih := nd_le (l := l) (m := m.erase a) hn.2 (fun x hx => (List.mem_erase_of_ne (fun e => hn.1 (by rw [← e]; exact hx))).2 (hs x (by simp [hx])))
    rw [List.length_erase_of_mem ha] at ih
    have := List.length_pos_of_mem ha
    simp only [List.length_cons]; omega
theorem keys_nd {S : Prs} (h : srtP S) : (S.map Prod.fst).Nodup := by
  induction S with
  | nil => simp
  | cons p S ih =>
    obtain ⟨h1, h2⟩ := srtP_cons.1 h
    rw [List.map_cons, List.nodup_cons]
    refine ⟨fun hm => ?_, ih h2⟩
    obtain ⟨q, hq, e⟩ := List.mem_map.1 hm
    exact blt_ne (h1 q hq) e.symm
/-- all keys that may come to be -/
def allK (l : Prs) (D : List Ops) : List ByteArray := l.map Prod.fst ++ D.flatMap fun d => wrs d
def inK (K : List ByteArray) (S : Prs) : Prop := ∀ p ∈ S, p.1 ∈ K
theorem inK_len {K : List ByteArray} {S : Prs} (hs : srtP S) (h : inK K S) : S.length ≤ K.length := by
  have := nd_le (keys_nd hs) (m := K) (fun x hx => by
    obtain ⟨p, hp, rfl⟩ := List.mem_map.1 hx
    exact h p hp)
  simpa using this
theorem inK_run {K : List ByteArray} {S : Prs} (hS : StoreOk S) (h : inK K S) {d : Ops} (hd : DeedOk d) (hk : ∀ k ∈ wrs d, k ∈ K) : inK K (runS S d) := by
  obtain ⟨a, b, c⟩ := run_val hS hd.ops
  intro p hp
  by_cases hw : p.1 ∈ wrs d
  · exact hk _ hw
  · have e1 := valP_mem a.srt hp
    rw [b, step_keep hd.ops _ hw] at e1
    have hz := (a.val p hp).1
    have := valP_ne (l := S) (k := p.1) (by rw [e1]; exact hz)
    exact h (p.1, valP S p.1) this
theorem wrs_len (d : Ops) : (wrs d).length ≤ 2 * d.length := by
  induction d with
  | nil => simp [wrs]
  | cons o d ih =>
    have : (wrO o).length ≤ 2 := by
      unfold wrO
      by_cases h1 : o.kind = 1
      · simp [h1]
      · by_cases h2 : o.kind = 2
        · simp [h2]
        · by_cases h3 : o.kind = 3
          · simp [h3]
          · by_cases h5 : o.kind = 5 <;> simp [h1, h2, h3, h5]
    simp only [wrs, List.flatMap_cons, List.length_append, List.length_cons] at ih ⊢
    omega
theorem allK_len (l : Prs) (D : List Ops) : 5 * (allK l D).length ≤ 5 * l.length + 2 * totO D := by
  have : 5 * (D.flatMap fun d => wrs d).length ≤ 2 * totO D := by
    induction D with
    | nil => simp
    | cons d D ih =>
      have := wrs_len d
      simp only [List.flatMap_cons, List.length_append, totO, List.map_cons, List.sum_cons] at ih ⊢
      omega
  simp only [allK, List.length_append, List.length_map]
  omega
theorem pickD_memx {D : List Ops} {z : Int} (h : DeedOk (pickD D z)) : pickD D z ∈ D := by
  unfold pickD at h ⊢
  by_cases h0 : D.length = 0
  · rw [if_pos h0] at h; have := h.lo; simp at this
  · rw [if_neg h0]
    have hl := wi_lo (k := z) (n := D.length) (by omega)
    have hh := wi_hi (k := z) (n := D.length) (by omega)
    have hi : (wi z D.length).toNat < D.length := by omega
    rw [show D.getD (wi z D.length).toNat [] = D[(wi z D.length).toNat] by simp [hi]]
    exact List.getElem_mem hi
theorem pickD_smx {D : List Ops} (h : ∀ d ∈ D, opsSm d) (z : Int) : opsSm (pickD D z) := by
  unfold pickD
  by_cases h0 : D.length = 0
  · rw [if_pos h0]; intro o ho; simp at ho
  · rw [if_neg h0]
    have hl := wi_lo (k := z) (n := D.length) (by omega)
    have hh := wi_hi (k := z) (n := D.length) (by omega)
    have hi : (wi z D.length).toNat < D.length := by omega
    rw [show D.getD (wi z D.length).toNat [] = D[(wi z D.length).toNat] by simp [hi]]
    exact h _ (List.getElem_mem hi)
theorem pickM_smx {M : Mps} (h : ∀ m ∈ M, StrW m.1) (z : Int) : StrW (pickM M z).1 := by
  unfold pickM
  by_cases h0 : M.length = 0
  · rw [if_pos h0]; intro o ho; simp at ho
  · rw [if_neg h0]
    have hl := wi_lo (k := z) (n := M.length) (by omega)
    have hh := wi_hi (k := z) (n := M.length) (by omega)
    have hi : (wi z M.length).toNat < M.length := by omega
    rw [show M.getD (wi z M.length).toNat ([], []) = M[(wi z M.length).toNat] by simp [hi]]
    exact h _ (List.getElem_mem hi)
theorem inK_pick {l : Prs} {D : List Ops} {z : Int} (h : DeedOk (pickD D z)) : ∀ k ∈ wrs (pickD D z), k ∈ allK l D := fun k hk => by
  unfold allK
  exact List.mem_append.2 (.inr (List.mem_flatMap.2 ⟨_, pickD_memx h, hk⟩))
/-- the owners of some keys, one by one -/
def ownIn (C : List ByteArray) (O : List Int) (K : List ByteArray) (i : Nat) : Bool := K.any fun k => whose C O k == (i : Int)
def ownTo (C : List ByteArray) (O : List Int) (K : List ByteArray) : Nat → List Int
  | 0 => []
  | i + 1 => ownTo C O K i ++ if ownIn C O K i then [(i : Int)] else []
theorem ownTo_mem (C : List ByteArray) (O : List Int) (K : List ByteArray) : ∀ (i : Nat) (x : Int), x ∈ ownTo C O K i ↔ ∃ j : Nat, j < i ∧ x = (j : Int) ∧ ownIn C O K j = true
  | 0, x => by simp [ownTo]
  | i + 1, x => by
    rw [ownTo, List.mem_append, ownTo_mem C O K i x]
    constructor
    · rintro (⟨j, h1, h2, h3⟩ | h)
      · exact ⟨j, by omega, h2, h3⟩
      · by_cases q : ownIn C O K i = true
        · rw [if_pos q] at h; simp at h; exact ⟨i, by omega, h, q⟩
        · rw [if_neg q] at h; simp at h
    · rintro ⟨j, h1, h2, h3⟩
      rcases Nat.lt_succ_iff_lt_or_eq.1 h1 with e | e
      · exact .inl ⟨j, e, h2, h3⟩
      · subst e; right; rw [if_pos h3]; simp [h2]
theorem ownTo_srt (C : List ByteArray) (O : List Int) (K : List ByteArray) : ∀ i : Nat, (ownTo C O K i).Pairwise fun x y => x < y
  | 0 => by simp [ownTo]
  | i + 1 => by
    rw [ownTo, List.pairwise_append]
    refine ⟨ownTo_srt C O K i, ?_, fun x hx y hy => ?_⟩
    · split <;> simp
    · obtain ⟨j, h1, h2, _⟩ := (ownTo_mem C O K i x).1 hx
      by_cases q : ownIn C O K i = true
      · rw [if_pos q] at hy; simp at hy; omega
      · rw [if_neg q] at hy; simp at hy
theorem srt_ext : ∀ {l m : List Int}, l.Pairwise (fun x y => x < y) → m.Pairwise (fun x y => x < y) → (∀ x, x ∈ l ↔ x ∈ m) → l = m
  | [], [], _, _, _ => rfl
  | [], b :: m, _, _, h => by have := (h b).2 (by simp); simp at this
  | a :: l, [], _, _, h => by have := (h a).1 (by simp); simp at this
  | a :: l, b :: m, hl, hm, h => by
    obtain ⟨h1, h2⟩ := List.pairwise_cons.1 hl
    obtain ⟨g1, g2⟩ := List.pairwise_cons.1 hm
    have e : a = b := by
      have p := (h a).1 (by simp)
      have q := (h b).2 (by simp)
      rcases List.mem_cons.1 p with p | p
      · exact p
      · rcases List.mem_cons.1 q with q | q
        · exact q.symm
        · have := h1 _ q; have := g1 _ p; omega
    subst e
    congr 1
    refine srt_ext h2 g2 fun x => ?_
    constructor
    · intro hx
      rcases List.mem_cons.1 ((h x).1 (by simp [hx])) with e | e
      · subst e; have := h1 _ hx; omega
      · exact e
    · intro hx
      rcases List.mem_cons.1 ((h x).2 (by simp [hx])) with e | e
      · subst e; have := g1 _ hx; omega
      · exact e
theorem who_own {C : List ByteArray} {O : List Int} (ok : MapOk C O) (d : Ops) : whoL C O d = ownTo C O (sortU (rds d) ++ sortU (wrs d)) 4 := by
  refine srt_ext (sortI_srt _) (ownTo_srt C O _ 4) fun x => ?_
  rw [ownTo_mem, whoL, sortI_mem, List.mem_map]
  constructor
  · rintro ⟨k, hk, rfl⟩
    obtain ⟨g1, g2⟩ := whose_rng ok k
    refine ⟨(whose C O k).toNat, by omega, by omega, ?_⟩
    unfold ownIn
    rw [List.any_eq_true]
    exact ⟨k, hk, by simp; omega⟩
  · rintro ⟨j, hj, rfl, hw⟩
    unfold ownIn at hw
    rw [List.any_eq_true] at hw
    obtain ⟨k, hk, e⟩ := hw
    exact ⟨k, hk, by simpa using e⟩
end Go.Proofs.YtimchedebcoohaaGreatDoor
