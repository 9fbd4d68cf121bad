/- Contracts and lemmas for the proof of MergeOrder; each theorem states its own conditions. -/
import Derived.Test.YtijcckhkofkenaaQMergeOrderbv
import Derived.Test.YtijcckhkofkenaaQMergeOrderas
import Derived.Test.YtijcckhkofkenaaQMergeOrderbw
import Derived.Test.YtijcckhkofkenaaQMergeOrderaw
import Derived.Test.YtijcckhkofkenaaQMergeOrderbd
import Derived.Test.YtijcckhkofkenaaQMergeOrderbx
import Derived.Test.YtijcckhkofkenaaQMergeOrderby
import Derived.Test.YtijcckhkofkenaaQMergeOrderbk
set_option linter.unusedVariables false
set_option linter.unusedSimpArgs false
/- Contracts and lemmas for the proofs of this seat; each theorem states its own conditions. -/
namespace Go.Proofs.Ytijcckhkofkenaa
open Go.RowKit
/-! deed.meet, deed.Clash -/
theorem meet1_any (x : ByteArray) (b : Nat) (v : Value) (L : List ByteArray) (w : World) (hb : w.cell? ⟨b, 0, none⟩ = some v) (hv : Seg w v 1 L.length (cS L)) :
    Calls Try.prog 122 #[.string x, .pointer (some ⟨b, 0, none⟩)] w fun e w' => e = .returned (.bool (conS L x)) ∧ Ext w w' := by
  have C := hid (conS_any v L x w hv)
  clear hv
  go_enter Try.func122, Try.ntmps122
  go_wp2_with fail
  refine (C.out).mono ?_
  rintro e w' ⟨rfl, rfl⟩
  go_wp2
  go_ret
  exact ⟨rfl, Ext.refl _⟩
theorem conS_mem (L : List ByteArray) (x : ByteArray) : conS L x = memB L x := rfl
theorem meets_any (a b : List ByteArray) : a.any (fun k => conS b k) = meets a b := by
  rfl
set_option maxRecDepth 10000 in
set_option maxHeartbeats 1000000 in
theorem meet_any (va vb : Value) (a b : List ByteArray) (w : World) (ha : Seg w va 1 a.length (cS a)) (hb : Seg w vb 1 b.length (cS b)) :
    Calls Try.prog 90 #[va, vb] w fun e w' => e = .returned (.bool (meets a b)) ∧ Ext w w' := by
  obtain ⟨ab, cb, rfl⟩ := seg_form hb
  have E0 := (Ext.refl w).alloc (.cells #[.slice ab b.length cb] 24)
  have c0 := cell_of_one (heap_alloc_new w (.cells #[.slice ab b.length cb] 24))
  have C := containsF_Str 122 #[.pointer (some ⟨w.heap.size, 0, none⟩)] (enters_of Try.func122 (by kernel_rfl) rfl) (fun k => conS b k) va a (w.alloc (.cells #[.slice ab b.length cb] 24)) (ha.ext E0) (fun x _ w' E => meet1_any x w.heap.size _ b w' (E.cell c0) ((hb.ext E0).ext E))
  rw [meets_any] at C
  have C := hid C
  have hmf : ∀ (fn : Fn) (first cap : Array Value) (w : World), (Instr.makeFunc fn first cap).run Try.prog w = .ok (.func fn first cap) w := fun _ _ _ _ => rfl
  clear ha hb
  go_enter Try.func90, Try.ntmps90
  go_wp2_with fail
  refine (C.out).mono ?_
  rintro e w' ⟨rfl, Ea⟩
  go_wp2
  go_ret
  exact ⟨rfl, E0.trans Ea⟩
theorem clash_sort (a b : Ops) : (meets (sortU (wrs a)) (sortU (wrs b)) || meets (sortU (wrs a)) (sortU (rds b)) || meets (sortU (rds a)) (sortU (wrs b))) = clashB a b := by
  unfold clashB
  rw [meets_congr (sortU_mem (wrs a)) (sortU_mem (wrs b)), meets_congr (sortU_mem (wrs a)) (sortU_mem (rds b)), meets_congr (sortU_mem (rds a)) (sortU_mem (wrs b))]
set_option maxRecDepth 10000 in
set_option maxHeartbeats 1000000 in
theorem clash_ok (va vb : Value) (a b : Ops) (w : World) (ha : Seg w va 4 a.length (cO a)) (hb : Seg w vb 4 b.length (cO b)) (oa : DeedOk a) (ob : DeedOk b) (fa : ∀ o ∈ a, o.from_.size ≤ 9223372036854775807) (fb : ∀ o ∈ b, o.from_.size ≤ 9223372036854775807) :
    Calls Try.prog 50 #[.agg #[va], .agg #[vb]] w fun e w' => e = .returned (.tuple #[.bool (clashB a b), .int .i64 0]) ∧ Ext w w' := by
  obtain ⟨x1, c1, rfl⟩ := seg_form ha
  obtain ⟨x2, c2, rfl⟩ := seg_form hb
  have b1 := heap_1 w (.cells #[.slice x1 a.length c1] 52) (.cells #[.slice x2 b.length c2] 52)
  have b2 := heap_2 w (.cells #[.slice x1 a.length c1] 52) (.cells #[.slice x2 b.length c2] 52)
  have E := ((Ext.refl w).alloc (.cells #[.slice x1 a.length c1] 52)).alloc (.cells #[.slice x2 b.length c2] 52)
  have y1 := cell_of_one b1
  have y2 := cell_of_one b2
  have K1 := hid (keys_ok (.slice x1 a.length c1) a _ (ha.ext E) oa fa)
  have hb := hb.ext E
  clear b1 b2 ha
  go_enter Try.func50, Try.ntmps50
  go_wp2_with fail
  refine (K1.out).mono ?_
  clear K1
  rintro e w1 ⟨r, u, rfl, hr, hu, E1⟩
  have z2 := E1.cell y2
  replace hb := hb.ext E1
  replace E := E.trans E1
  have sr := own_seg hr
  have su := own_seg hu
  have K2 := hid (keys_ok (.slice x2 b.length c2) b _ hb ob fb)
  clear y1 y2 E1 hr hu hb
  go_wp2_with fail
  refine (K2.out).mono ?_
  clear K2
  rintro e w2 ⟨s, t, rfl, hs, ht, E1⟩
  replace sr := sr.ext E1
  replace su := su.ext E1
  replace E := E.trans E1
  have ss := own_seg hs
  have st := own_seg ht
  have M1 := hid (meet_any _ _ _ _ _ su st)
  have CS := hid (clash_sort a b)
  clear E1 hs ht z2
  cases m1 : meets (sortU (wrs a)) (sortU (wrs b)) with
  | true =>
    rw [m1] at M1 CS
    clear m1
    go_wp2_with fail
    refine (M1.out).mono ?_
    rintro e w3 ⟨rfl, E1⟩
    have hres := hid (show clashB a b = true by rw [← CS.out]; rfl)
    go_wp2
    go_ret2
    exact ⟨rT2 (vB hres.out.symm) rfl, E.trans E1⟩
  | false =>
    rw [m1] at M1 CS
    clear m1
    go_wp2_with fail
    refine (M1.out).mono ?_
    rintro e w3 ⟨rfl, E1⟩
    replace sr := sr.ext E1
    replace su := su.ext E1
    replace ss := ss.ext E1
    replace st := st.ext E1
    replace E := E.trans E1
    have M2 := hid (meet_any _ _ _ _ _ su ss)
    clear E1 M1
    cases m2 : meets (sortU (wrs a)) (sortU (rds b)) with
    | true =>
      rw [m2] at M2 CS
      clear m2
      go_wp2_with fail
      refine (M2.out).mono ?_
      rintro e w4 ⟨rfl, E1⟩
      have hres := hid (show clashB a b = true by rw [← CS.out]; rfl)
      go_wp2
      go_ret2
      exact ⟨rT2 (vB hres.out.symm) rfl, E.trans E1⟩
    | false =>
      rw [m2] at M2 CS
      clear m2
      go_wp2_with fail
      refine (M2.out).mono ?_
      rintro e w4 ⟨rfl, E1⟩
      replace sr := sr.ext E1
      replace st := st.ext E1
      replace E := E.trans E1
      have M3 := hid (meet_any _ _ _ _ _ sr st)
      clear E1 M2
      have hres := hid (show clashB a b = meets (sortU (rds a)) (sortU (wrs b)) by rw [← CS.out]; rfl)
      clear CS
      go_wp2_with fail
      refine (M3.out).mono ?_
      rintro e w5 ⟨rfl, E1⟩
      go_wp2
      go_ret2
      exact ⟨rT2 (vB hres.out.symm) rfl, E.trans E1⟩
end Go.Proofs.Ytijcckhkofkenaa

/- Contracts and lemmas for the proofs of this seat; each theorem states its own conditions. -/
namespace Go.Proofs.Ytijcckhkofkenaa
open Go.RowKit
/-! deeds in a row, opened; parts of them -/
theorem SegDs.form {w : World} {v : Value} {D : List Ops} (h : SegDs w v D) : ∃ a c, v = .slice a D.length c ∧ D.length ≤ c ∧ c ≤ maxLen ∧
    (0 < D.length → ∃ b off, a = some ⟨b, off, none⟩ ∧ ∀ (j : Nat) (d : Ops), D[j]? = some d → ∃ au cu, w.cell? ⟨b, off + j, none⟩ = some (.slice au d.length cu) ∧ Seg w (.slice au d.length cu) 4 d.length (cO d)) := by
  obtain ⟨vs, h1, ⟨_, a, c, rfl, h2, h3, h4⟩, h5⟩ := h
  refine ⟨a, c, by rw [h1], by omega, h3, fun h0 => ?_⟩
  obtain ⟨b, off, rfl, h6⟩ := h4 (by omega)
  refine ⟨b, off, rfl, fun j d hd => ?_⟩
  have hj := (List.getElem?_eq_some_iff.1 hd).1
  have hs := h5 j (vs[j]'(by omega)) d (List.getElem?_eq_getElem _) hd
  obtain ⟨au, cu, e⟩ := seg_form hs
  have hc := h6 j (vs[j]'(by omega)) (List.getElem?_eq_getElem _)
  rw [e] at hs hc
  exact ⟨au, cu, hc, hs⟩
theorem SegDs.mk' {w : World} {b off c : Nat} {D : List Ops} (hc : D.length ≤ c) (hm : c ≤ maxLen) (h : ∀ (j : Nat) (d : Ops), D[j]? = some d → ∃ au cu, w.cell? ⟨b, off + j, none⟩ = some (.slice au d.length cu) ∧ Seg w (.slice au d.length cu) 4 d.length (cO d)) : SegDs w (.slice (some ⟨b, off, none⟩) D.length c) D := by
  have each : ∀ j, j < D.length → ∃ u : Value, w.cell? ⟨b, off + j, none⟩ = some u ∧ Seg w u 4 (D.getD j []).length (cO (D.getD j [])) := fun j hj => by
    obtain ⟨au, cu, h1, h2⟩ := h j D[j] (List.getElem?_eq_getElem hj)
    refine ⟨_, h1, ?_⟩
    simp [hj]; exact h2
  have : ∃ f : Nat → Value, ∀ j, j < D.length → w.cell? ⟨b, off + j, none⟩ = some (f j) ∧ Seg w (f j) 4 (D.getD j []).length (cO (D.getD j [])) := by
    refine ⟨fun j => if hj : j < D.length then Classical.choose (each j hj) else .bool false, fun j hj => ?_⟩
    simp only [hj, dif_pos]
    exact Classical.choose_spec (each j hj)
  obtain ⟨f, hf⟩ := this
  refine ⟨(List.range D.length).map f, by simp, ⟨by simp, some ⟨b, off, none⟩, c, by simp, by simpa using hc, hm, fun _ => ⟨b, off, rfl, fun j u hu => ?_⟩⟩, fun i u d hu hd => ?_⟩
  · obtain ⟨hj, e⟩ := List.getElem?_eq_some_iff.1 hu
    simp at hj e
    subst e
    exact (hf j hj).1
  · obtain ⟨hj, e⟩ := List.getElem?_eq_some_iff.1 hu
    obtain ⟨hj', e'⟩ := List.getElem?_eq_some_iff.1 hd
    simp at hj e
    subst e; subst e'
    have := (hf i hj).2
    simpa [hj'] using this
theorem SegDs.take {w : World} {b off c k : Nat} {D : List Ops} (h : SegDs w (.slice (some ⟨b, off, none⟩) D.length c) D) (hk : k ≤ D.length) : SegDs w (.slice (some ⟨b, off, none⟩) k c) (D.take k) := by
  obtain ⟨a', c', e, h1, h2, h3⟩ := h.form
  injection e with e1 e2 e3
  subst e1; subst e3
  have hl : (D.take k).length = k := by rw [List.length_take]; omega
  have := SegDs.mk' (w := w) (b := b) (off := off) (c := c) (D := D.take k) (by omega) h2 (fun j d hd => by
    have hj := (List.getElem?_eq_some_iff.1 hd).1
    rw [List.getElem?_take, if_pos (by omega)] at hd
    obtain ⟨b', off', e, h4⟩ := h3 (by omega)
    injection e with e; injection e with e1 e2
    subst e1; subst e2
    exact h4 j d hd)
  rwa [hl] at this
theorem SegDs.drop {w : World} {b off c k : Nat} {D : List Ops} (h : SegDs w (.slice (some ⟨b, off, none⟩) D.length c) D) (hk : k ≤ D.length) : SegDs w (.slice (some ⟨b, off + k, none⟩) (D.length - k) (c - k)) (D.drop k) := by
  obtain ⟨a', c', e, h1, h2, h3⟩ := h.form
  injection e with e1 e2 e3
  subst e1; subst e3
  have hl : (D.drop k).length = D.length - k := by rw [List.length_drop]
  have := SegDs.mk' (w := w) (b := b) (off := off + k) (c := c - k) (D := D.drop k) (by omega) (by omega) (fun j d hd => by
    have hj := (List.getElem?_eq_some_iff.1 hd).1
    rw [List.getElem?_drop] at hd
    obtain ⟨b', off', e, h4⟩ := h3 (by omega)
    injection e with e; injection e with e1 e2
    subst e1; subst e2
    rw [Nat.add_assoc]
    exact h4 (k + j) d hd)
  rwa [hl] at this
theorem SegDs.nil (w : World) (a : Option Addr) (c : Nat) (hc : c ≤ maxLen) : SegDs w (.slice a 0 c) [] := ⟨[], rfl, ⟨rfl, a, c, rfl, Nat.zero_le _, hc, fun h => absurd h (by simp)⟩, fun i u d h => by simp at h⟩
theorem one_slice (a a' : Option Addr) (n c n' c' : Nat) : ∀ u ∈ [Value.slice a n c, .slice a' n' c'], u.oneCell' = true := by
  intro u hu; simp at hu; rcases hu with rfl | rfl <;> rfl
theorem seg_2 {w : World} {b : Nat} {u v : Value} {t : TypeId} (h : w.heap[b]? = some (.cells #[u, v] t (0, 0))) : Seg w (.slice (some ⟨b, 0, none⟩) 2 2) 1 2 [u, v] :=
  seg_blk (xs := [u, v]) h rfl (Nat.le_refl _) (by simp [maxLen])
theorem concat2_Bool (b : Nat) (u v : Value) (x y : List Bool) (w : World) (h : w.heap[b]? = some (.cells #[u, v] 71 (0, 0))) (hu : Seg w u 1 x.length (cB x)) (hv : Seg w v 1 y.length (cB y)) (hn : x.length + y.length ≤ 1000000000) :
    Calls Try.prog 72 #[.slice (some ⟨b, 0, none⟩) 2 2] w fun e w' => ∃ v', e = .returned v' ∧ w'.ownsRow w.heap.size 4 1 v' (x ++ y).length (cB (x ++ y)) ∧ Ext w w' := by
  have := concat_Bool _ [u, v] [(x.length, cB x), (y.length, cB y)] w (seg_2 h) (Nat.le_refl _) (Nat.le_refl _) (fun i a p ha hp => by
    match i, ha, hp with
    | 0, ha, hp => simp at ha hp; subst ha; subst hp; exact hu
    | 1, ha, hp => simp at ha hp; subst ha; subst hp; exact hv) (by intro p hp; simp at hp; rcases hp with rfl | rfl <;> exact cB_one _) (by simp [totN]; omega)
  have e1 : totN [(x.length, cB x), (y.length, cB y)] = (x ++ y).length := by simp [totN]
  have e2 : totC [(x.length, cB x), (y.length, cB y)] = cB (x ++ y) := by simp [totC, cB_app]
  rw [e1, e2] at this
  exact this
end Go.Proofs.Ytijcckhkofkenaa

/- Contracts and lemmas for the proofs of this seat; each theorem states its own conditions. -/
namespace Go.Proofs.Ytijcckhkofkenaa
open Go.RowKit Go.Maps
/-! rokeep.lockBegun -/
theorem lnew_ok (w : World) : Calls Try.prog 48 #[] w fun e w' => ∃ bt bk bd, e = .returned (.pointer (some ⟨bt, 0, none⟩)) ∧ LockSt w' w.heap.size bt bk bd [] (fun _ => false) (fun _ => none) (fun _ => none) ∧ Ext w w' := by
  refine (lnew_any w).mono ?_
  rintro e w' ⟨rfl, h, E⟩
  exact ⟨_, _, _, rfl, h, E⟩
def setA : Ops := [⟨1, ⟨#[97]⟩, ⟨#[]⟩, 0⟩]
theorem setA_ok : deedE setA = 0 := by decide +kernel
theorem ready_one (d : Ops) : readyL [d] (fun _ => false) 1 = [0] := by
  have h := ready_succ [d] (fun _ => false) 0
  have m : mayB [d] (fun _ => false) 0 = true := by simp [mayB]
  rw [m] at h
  have z : readyL [d] (fun _ => false) 0 = [] := by simp [readyL]
  rw [z] at h
  simpa using h
theorem cN_cI (l : List Nat) : cN l = cI (l.map fun (n : Nat) => (n : Int)) := by simp [cN, cI]
set_option maxRecDepth 100000 in
set_option maxHeartbeats 1000000 in
theorem lockBegun_any (w : World) : Calls Try.prog 46 #[] w fun e w' => e = .returned (.bool true) ∧ Ext w w' := by
  go_enter Try.func46, Try.ntmps46
  go_wp2_with fail
  refine (lnew_ok _).mono ?_
  rintro e w1 ⟨bt, bk, bd, rfl, L, E1⟩
  have hs : w.heap.size ≤ w.heap.size := Nat.le_refl _
  have b1 := heap_alloc_new w1 (.cells #[.int .i64 1, .string ⟨#[97]⟩, .string ⟨#[]⟩, .int .i64 0] 79)
  have E2 := (Ext.refl w1).alloc (.cells #[.int .i64 1, .string ⟨#[97]⟩, .string ⟨#[]⟩, .int .i64 0] 79)
  have AD := hid (add_ok (L.ext E2) (.slice (some ⟨w1.heap.size, 0, none⟩) 1 1) setA (seg_blk (xs := cO setA) b1 rfl (Nat.le_refl _) (by simp [maxLen])) (deed_ok setA_ok) (by intro o ho; simp [setA] at ho; subst ho; decide) (by simp))
  replace E1 := E1.trans E2
  clear L b1 E2
  go_wp2_with fail
  refine (AD.out).mono ?_
  rintro e w2 ⟨rfl, ⟨F', G', L2⟩, T2⟩
  replace E1 := T2.low E1 hs
  clear AD T2
  have RD := ready_any L2
  have hr : readyL ([] ++ [setA]) (fun _ => false) ([] ++ [setA]).length = [0] := ready_one setA
  rw [hr] at RD
  have RD := hid RD
  clear L2 hr
  go_wp2_with fail
  refine (RD.out).mono ?_
  rintro e w3 ⟨v', rfl, ho, E3⟩
  replace E1 := E1.trans E3
  have s3 := (own_seg ho).ext ((Ext.refl w3).alloc (.cells #[.int .i64 0] 3))
  have b3 := heap_alloc_new w3 (.cells #[.int .i64 0] 3)
  rw [cN_cI] at s3
  have Q := equal_Int v' (.slice (some ⟨w3.heap.size, 0, none⟩) 1 1) [0] [0] (w3.alloc (.cells #[.int .i64 0] 3)) s3 (seg_blk (xs := cI [0]) b3 rfl (Nat.le_refl _) (by simp [maxLen]))
  have Q := hid Q
  clear RD ho s3 b3 E3
  go_wp2_with fail
  refine (Q.out).mono ?_
  rintro e w4 ⟨rfl, n, rfl⟩
  go_wp2
  go_ret
  exact ⟨rfl, (E1.alloc _).drewN n⟩
end Go.Proofs.Ytijcckhkofkenaa
