/- Contracts and lemmas for the proof of PartsTurn; each theorem states its own conditions. -/
import Derived.Shelf.Spec.SlicesInsert
import Derived.Shelf.Spec.SlicesInsertGrow
import Derived.Shelf.Slices.Turned
import Derived.Shelf.Slices.Empties2
import Derived.Ground.Names2Prog
import Derived.Test.YtijcckhkofkenaaGreatProg
import Derived.Test.YtijcckhkofkenaaGreatQPartsTurnaa
import Derived.Test.YtijcckhkofkenaaGreatQPartsTurnab
import Derived.Test.YtijcckhkofkenaaGreatQPartsTurnbs
import Derived.Test.YtijcckhkofkenaaGreatQPartsTurnah
import Derived.Test.YtijcckhkofkenaaGreatQPartsTurnae
set_option linter.unusedVariables false
set_option linter.unusedSimpArgs false
/- Contracts and lemmas for the proofs of this seat; each theorem states its own conditions. -/
namespace Go.Proofs.YtijcckhkofkenaaGreat
open Go.Shelf
def lays109_ren : Go.Shelf.Ren := ⟨fun | 109 => 138 | n => n, fun | 31 => 23 | 9 => 9 | 3 => 3 | 0 => 0 | 4 => 4 | n => n, fun | n => n⟩
theorem lays109 : Go.Proofs.Lays.n109 Tryz.prog lays109_ren := {
  mixed := by kernel_rfl
  f109 := Tryz.func138.trans (congrArg some (by kernel_rfl))
  t0 := Tryz.underlying0
  a0 := Tryz.isAgg0
  z0 := Tryz.sizeOf0
  v0 := Tryz.zeroValue0
  t3 := Tryz.underlying3
  a3 := Tryz.isAgg3
  z3 := Tryz.sizeOf3
  v3 := Tryz.zeroValue3
  t4 := Tryz.underlying4
  a4 := Tryz.isAgg4
  z4 := Tryz.sizeOf4
  v4 := Tryz.zeroValue4
  t9 := Tryz.underlying9
  a9 := Tryz.isAgg9
  z9 := Tryz.sizeOf9
  v9 := Tryz.zeroValue9
  t31 := Tryz.underlying23
  a31 := Tryz.isAgg23
  z31 := Tryz.sizeOf23
  v31 := Tryz.zeroValue23 }
def lays110_ren : Go.Shelf.Ren := ⟨fun | 110 => 113 | 109 => 138 | n => n, fun | 31 => 23 | 9 => 9 | 4 => 4 | 3 => 3 | 0 => 0 | n => n, fun | n => n⟩
theorem lays110 : Go.Proofs.Lays.n110 Tryz.prog lays110_ren := {
  mixed := by kernel_rfl
  f109 := Tryz.func138.trans (congrArg some (by kernel_rfl))
  f110 := Tryz.func113.trans (congrArg some (by kernel_rfl))
  t0 := Tryz.underlying0
  a0 := Tryz.isAgg0
  z0 := Tryz.sizeOf0
  v0 := Tryz.zeroValue0
  t3 := Tryz.underlying3
  a3 := Tryz.isAgg3
  z3 := Tryz.sizeOf3
  v3 := Tryz.zeroValue3
  t4 := Tryz.underlying4
  a4 := Tryz.isAgg4
  z4 := Tryz.sizeOf4
  v4 := Tryz.zeroValue4
  t9 := Tryz.underlying9
  a9 := Tryz.isAgg9
  z9 := Tryz.sizeOf9
  v9 := Tryz.zeroValue9
  t31 := Tryz.underlying23
  a31 := Tryz.isAgg23
  z31 := Tryz.sizeOf23
  v31 := Tryz.zeroValue23 }
end Go.Proofs.YtijcckhkofkenaaGreat

/- Contracts and lemmas for the proofs of this seat; each theorem states its own conditions. -/
namespace Go.Proofs.YtijcckhkofkenaaGreat
open Go.RowKit Go.Shelf
/-- is it on the list? -/
def conS (zs : List ByteArray) (x : ByteArray) : Bool := zs.any fun y => decide (y = x)
theorem conS_eq (zs : List ByteArray) (x : ByteArray) : Lib.containsS zs x = conS zs x := by
  rw [Bool.eq_iff_iff, Lib.containsS_iff, conS, List.any_eq_true]
  exact ⟨fun h => ⟨x, h, by simp⟩, fun ⟨y, h, e⟩ => by simp at e; exact e ▸ h⟩
theorem conS_yes {zs : List ByteArray} {x : ByteArray} (h : x ∈ zs) : conS zs x = true := by
  rw [← conS_eq, Lib.containsS_iff]; exact h
theorem conS_no {zs : List ByteArray} {x : ByteArray} (h : x ∉ zs) : conS zs x = false := by
  cases hc : conS zs x with
  | false => rfl
  | true => rw [← conS_eq, Lib.containsS_iff] at hc; exact absurd hc h
theorem conS_any (v : Value) (zs : List ByteArray) (x : ByteArray) (w : World) (hv : Seg w v 1 zs.length (cS zs)) :
    Calls Tryz.prog 113 #[v, .string x] w fun e w' => e = .returned (.bool (conS zs x)) ∧ w' = w := by
  obtain ⟨h0, a, cap, rfl, h1, h2, h3⟩ := hv
  have hn : zs.length ≤ cap := h1
  unfold maxLen at h2
  rcases Nat.eq_zero_or_pos zs.length with h | h
  · obtain rfl := List.eq_nil_of_length_eq_zero h
    rw [conS_no (by simp)]
    exact Any.slices_Contains_string_empty lays110 a cap x w
  · obtain ⟨b, off, rfl, hc⟩ := h3 h
    have := Any.slices_Contains_string lays110 b off zs.length cap zs x w (Nat.le_refl _) (by omega) (fun j hj => by
      have := hc j _ (cS_at0 zs j hj)
      rw [this]; simp [hj])
    rw [List.take_of_length_le (Nat.le_refl _), conS_eq] at this
    exact this
end Go.Proofs.YtijcckhkofkenaaGreat

/- Contracts and lemmas for the proofs of this seat; each theorem states its own conditions. -/
namespace Go.Proofs.YtijcckhkofkenaaGreat
open Go.RowKit
/-! deed.meet, deed.Clash -/
theorem meet1_any (x : ByteArray) (b : Nat) (v : Value) (L : List ByteArray) (w : World) (hb : w.cell? ⟨b, 0, none⟩ = some v) (hv : Seg w v 1 L.length (cS L)) :
    Calls Tryz.prog 121 #[.string x, .pointer (some ⟨b, 0, none⟩)] w fun e w' => e = .returned (.bool (conS L x)) ∧ Ext w w' := by
  have C := hid (conS_any v L x w hv)
  clear hv
  go_enter Tryz.func121, Tryz.ntmps121
  go_wp2_with fail
  refine (C.out).mono ?_
  rintro e w' ⟨rfl, rfl⟩
  go_wp2
  go_ret
  exact ⟨rfl, Ext.refl _⟩
theorem conS_mem (L : List ByteArray) (x : ByteArray) : conS L x = memB L x := rfl
theorem meets_any (a b : List ByteArray) : a.any (fun k => conS b k) = meets a b := by
  rfl
set_option maxRecDepth 10000 in
set_option maxHeartbeats 1000000 in
theorem meet_any (va vb : Value) (a b : List ByteArray) (w : World) (ha : Seg w va 1 a.length (cS a)) (hb : Seg w vb 1 b.length (cS b)) :
    Calls Tryz.prog 103 #[va, vb] w fun e w' => e = .returned (.bool (meets a b)) ∧ Ext w w' := by
  obtain ⟨ab, cb, rfl⟩ := seg_form hb
  have E0 := (Ext.refl w).alloc (.cells #[.slice ab b.length cb] 23)
  have c0 := cell_of_one (heap_alloc_new w (.cells #[.slice ab b.length cb] 23))
  have C := containsF_Str 121 #[.pointer (some ⟨w.heap.size, 0, none⟩)] (enters_of Tryz.func121 (by kernel_rfl) rfl) (fun k => conS b k) va a (w.alloc (.cells #[.slice ab b.length cb] 23)) (ha.ext E0) (fun x _ w' E => meet1_any x w.heap.size _ b w' (E.cell c0) ((hb.ext E0).ext E))
  rw [meets_any] at C
  have C := hid C
  have hmf : ∀ (fn : Fn) (first cap : Array Value) (w : World), (Instr.makeFunc fn first cap).run Tryz.prog w = .ok (.func fn first cap) w := fun _ _ _ _ => rfl
  clear ha hb
  go_enter Tryz.func103, Tryz.ntmps103
  go_wp2_with fail
  refine (C.out).mono ?_
  rintro e w' ⟨rfl, Ea⟩
  go_wp2
  go_ret
  exact ⟨rfl, E0.trans Ea⟩
theorem clash_sort (a b : Ops) : (meets (sortU (wrs a)) (sortU (wrs b)) || meets (sortU (wrs a)) (sortU (rds b)) || meets (sortU (rds a)) (sortU (wrs b))) = clashB a b := by
  unfold clashB
  rw [meets_congr (sortU_mem (wrs a)) (sortU_mem (wrs b)), meets_congr (sortU_mem (wrs a)) (sortU_mem (rds b)), meets_congr (sortU_mem (rds a)) (sortU_mem (wrs b))]
set_option maxRecDepth 10000 in
set_option maxHeartbeats 1000000 in
theorem clash_ok (va vb : Value) (a b : Ops) (w : World) (ha : Seg w va 4 a.length (cO a)) (hb : Seg w vb 4 b.length (cO b)) (oa : DeedOk a) (ob : DeedOk b) (fa : ∀ o ∈ a, o.from_.size ≤ 9223372036854775807) (fb : ∀ o ∈ b, o.from_.size ≤ 9223372036854775807) :
    Calls Tryz.prog 77 #[.agg #[va], .agg #[vb]] w fun e w' => e = .returned (.tuple #[.bool (clashB a b), .int .i64 0]) ∧ Ext w w' := by
  obtain ⟨x1, c1, rfl⟩ := seg_form ha
  obtain ⟨x2, c2, rfl⟩ := seg_form hb
  have b1 := heap_1 w (.cells #[.slice x1 a.length c1] 29) (.cells #[.slice x2 b.length c2] 29)
  have b2 := heap_2 w (.cells #[.slice x1 a.length c1] 29) (.cells #[.slice x2 b.length c2] 29)
  have E := ((Ext.refl w).alloc (.cells #[.slice x1 a.length c1] 29)).alloc (.cells #[.slice x2 b.length c2] 29)
  have y1 := cell_of_one b1
  have y2 := cell_of_one b2
  have K1 := hid (keys_ok (.slice x1 a.length c1) a _ (ha.ext E) oa fa)
  have hb := hb.ext E
  clear b1 b2 ha
  go_enter Tryz.func77, Tryz.ntmps77
  go_wp2_with fail
  refine (K1.out).mono ?_
  clear K1
  rintro e w1 ⟨r, u, rfl, hr, hu, E1⟩
  have z2 := E1.cell y2
  replace hb := hb.ext E1
  replace E := E.trans E1
  have sr := own_seg hr
  have su := own_seg hu
  have K2 := hid (keys_ok (.slice x2 b.length c2) b _ hb ob fb)
  clear y1 y2 E1 hr hu hb
  go_wp2_with fail
  refine (K2.out).mono ?_
  clear K2
  rintro e w2 ⟨s, t, rfl, hs, ht, E1⟩
  replace sr := sr.ext E1
  replace su := su.ext E1
  replace E := E.trans E1
  have ss := own_seg hs
  have st := own_seg ht
  have M1 := hid (meet_any _ _ _ _ _ su st)
  have CS := hid (clash_sort a b)
  clear E1 hs ht z2
  cases m1 : meets (sortU (wrs a)) (sortU (wrs b)) with
  | true =>
    rw [m1] at M1 CS
    clear m1
    go_wp2_with fail
    refine (M1.out).mono ?_
    rintro e w3 ⟨rfl, E1⟩
    have hres := hid (show clashB a b = true by rw [← CS.out]; rfl)
    go_wp2
    go_ret2
    exact ⟨rT2 (vB hres.out.symm) rfl, E.trans E1⟩
  | false =>
    rw [m1] at M1 CS
    clear m1
    go_wp2_with fail
    refine (M1.out).mono ?_
    rintro e w3 ⟨rfl, E1⟩
    replace sr := sr.ext E1
    replace su := su.ext E1
    replace ss := ss.ext E1
    replace st := st.ext E1
    replace E := E.trans E1
    have M2 := hid (meet_any _ _ _ _ _ su ss)
    clear E1 M1
    cases m2 : meets (sortU (wrs a)) (sortU (rds b)) with
    | true =>
      rw [m2] at M2 CS
      clear m2
      go_wp2_with fail
      refine (M2.out).mono ?_
      rintro e w4 ⟨rfl, E1⟩
      have hres := hid (show clashB a b = true by rw [← CS.out]; rfl)
      go_wp2
      go_ret2
      exact ⟨rT2 (vB hres.out.symm) rfl, E.trans E1⟩
    | false =>
      rw [m2] at M2 CS
      clear m2
      go_wp2_with fail
      refine (M2.out).mono ?_
      rintro e w4 ⟨rfl, E1⟩
      replace sr := sr.ext E1
      replace st := st.ext E1
      replace E := E.trans E1
      have M3 := hid (meet_any _ _ _ _ _ sr st)
      clear E1 M2
      have hres := hid (show clashB a b = meets (sortU (rds a)) (sortU (wrs b)) by rw [← CS.out]; rfl)
      clear CS
      go_wp2_with fail
      refine (M3.out).mono ?_
      rintro e w5 ⟨rfl, E1⟩
      go_wp2
      go_ret2
      exact ⟨rT2 (vB hres.out.symm) rfl, E.trans E1⟩
end Go.Proofs.YtijcckhkofkenaaGreat
