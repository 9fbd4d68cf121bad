/- Contracts and lemmas for the proof of DeedSays; each theorem states its own conditions. -/
import Derived.Test.YtijcckhkofkenaaDoorQDeedSaysbr
import Derived.Test.YtijcckhkofkenaaDoorQDeedSaysad
import Derived.Test.YtijcckhkofkenaaDoorQDeedSaysbu
import Derived.Test.YtijcckhkofkenaaDoorQDeedSaysbs
import Derived.Test.YtijcckhkofkenaaDoorQDeedSaysbw
set_option linter.unusedVariables false
set_option linter.unusedSimpArgs false
/- Contracts and lemmas for the proofs of this seat; each theorem states its own conditions. -/
namespace Go.Proofs.YtijcckhkofkenaaDoor
open Go.RowKit
/-! deed.meet, deed.Clash -/
theorem meet1_any (x : ByteArray) (b : Nat) (v : Value) (L : List ByteArray) (w : World) (hb : w.cell? ⟨b, 0, none⟩ = some v) (hv : Seg w v 1 L.length (cS L)) :
    Calls Tryd.prog 166 #[.string x, .pointer (some ⟨b, 0, none⟩)] w fun e w' => e = .returned (.bool (conS L x)) ∧ Ext w w' := by
  have C := hid (conS_any v L x w hv)
  clear hv
  go_enter Tryd.func166, Tryd.ntmps166
  go_wp2_with fail
  refine (C.out).mono ?_
  rintro e w' ⟨rfl, rfl⟩
  go_wp2
  go_ret
  exact ⟨rfl, Ext.refl _⟩
theorem conS_mem (L : List ByteArray) (x : ByteArray) : conS L x = memB L x := rfl
theorem meets_any (a b : List ByteArray) : a.any (fun k => conS b k) = meets a b := by
  rfl
set_option maxRecDepth 10000 in
set_option maxHeartbeats 1000000 in
theorem meet_any (va vb : Value) (a b : List ByteArray) (w : World) (ha : Seg w va 1 a.length (cS a)) (hb : Seg w vb 1 b.length (cS b)) :
    Calls Tryd.prog 119 #[va, vb] w fun e w' => e = .returned (.bool (meets a b)) ∧ Ext w w' := by
  obtain ⟨ab, cb, rfl⟩ := seg_form hb
  have E0 := (Ext.refl w).alloc (.cells #[.slice ab b.length cb] 26)
  have c0 := cell_of_one (heap_alloc_new w (.cells #[.slice ab b.length cb] 26))
  have C := containsF_Str 166 #[.pointer (some ⟨w.heap.size, 0, none⟩)] (enters_of Tryd.func166 (by kernel_rfl) rfl) (fun k => conS b k) va a (w.alloc (.cells #[.slice ab b.length cb] 26)) (ha.ext E0) (fun x _ w' E => meet1_any x w.heap.size _ b w' (E.cell c0) ((hb.ext E0).ext E))
  rw [meets_any] at C
  have C := hid C
  have hmf : ∀ (fn : Fn) (first cap : Array Value) (w : World), (Instr.makeFunc fn first cap).run Tryd.prog w = .ok (.func fn first cap) w := fun _ _ _ _ => rfl
  clear ha hb
  go_enter Tryd.func119, Tryd.ntmps119
  go_wp2_with fail
  refine (C.out).mono ?_
  rintro e w' ⟨rfl, Ea⟩
  go_wp2
  go_ret
  exact ⟨rfl, E0.trans Ea⟩
theorem clash_sort (a b : Ops) : (meets (sortU (wrs a)) (sortU (wrs b)) || meets (sortU (wrs a)) (sortU (rds b)) || meets (sortU (rds a)) (sortU (wrs b))) = clashB a b := by
  unfold clashB
  rw [meets_congr (sortU_mem (wrs a)) (sortU_mem (wrs b)), meets_congr (sortU_mem (wrs a)) (sortU_mem (rds b)), meets_congr (sortU_mem (rds a)) (sortU_mem (wrs b))]
set_option maxRecDepth 10000 in
set_option maxHeartbeats 1000000 in
theorem clash_ok (va vb : Value) (a b : Ops) (w : World) (ha : Seg w va 4 a.length (cO a)) (hb : Seg w vb 4 b.length (cO b)) (oa : DeedOk a) (ob : DeedOk b) (fa : ∀ o ∈ a, o.from_.size ≤ 9223372036854775807) (fb : ∀ o ∈ b, o.from_.size ≤ 9223372036854775807) :
    Calls Tryd.prog 46 #[.agg #[va], .agg #[vb]] w fun e w' => e = .returned (.tuple #[.bool (clashB a b), .int .i64 0]) ∧ Ext w w' := by
  obtain ⟨x1, c1, rfl⟩ := seg_form ha
  obtain ⟨x2, c2, rfl⟩ := seg_form hb
  have b1 := heap_1 w (.cells #[.slice x1 a.length c1] 46) (.cells #[.slice x2 b.length c2] 46)
  have b2 := heap_2 w (.cells #[.slice x1 a.length c1] 46) (.cells #[.slice x2 b.length c2] 46)
  have E := ((Ext.refl w).alloc (.cells #[.slice x1 a.length c1] 46)).alloc (.cells #[.slice x2 b.length c2] 46)
  have y1 := cell_of_one b1
  have y2 := cell_of_one b2
  have K1 := hid (keys_ok (.slice x1 a.length c1) a _ (ha.ext E) oa fa)
  have hb := hb.ext E
  clear b1 b2 ha
  go_enter Tryd.func46, Tryd.ntmps46
  go_wp2_with fail
  refine (K1.out).mono ?_
  clear K1
  rintro e w1 ⟨r, u, rfl, hr, hu, E1⟩
  have z2 := E1.cell y2
  replace hb := hb.ext E1
  replace E := E.trans E1
  have sr := own_seg hr
  have su := own_seg hu
  have K2 := hid (keys_ok (.slice x2 b.length c2) b _ hb ob fb)
  clear y1 y2 E1 hr hu hb
  go_wp2_with fail
  refine (K2.out).mono ?_
  clear K2
  rintro e w2 ⟨s, t, rfl, hs, ht, E1⟩
  replace sr := sr.ext E1
  replace su := su.ext E1
  replace E := E.trans E1
  have ss := own_seg hs
  have st := own_seg ht
  have M1 := hid (meet_any _ _ _ _ _ su st)
  have CS := hid (clash_sort a b)
  clear E1 hs ht z2
  cases m1 : meets (sortU (wrs a)) (sortU (wrs b)) with
  | true =>
    rw [m1] at M1 CS
    clear m1
    go_wp2_with fail
    refine (M1.out).mono ?_
    rintro e w3 ⟨rfl, E1⟩
    have hres := hid (show clashB a b = true by rw [← CS.out]; rfl)
    go_wp2
    go_ret2
    exact ⟨rT2 (vB hres.out.symm) rfl, E.trans E1⟩
  | false =>
    rw [m1] at M1 CS
    clear m1
    go_wp2_with fail
    refine (M1.out).mono ?_
    rintro e w3 ⟨rfl, E1⟩
    replace sr := sr.ext E1
    replace su := su.ext E1
    replace ss := ss.ext E1
    replace st := st.ext E1
    replace E := E.trans E1
    have M2 := hid (meet_any _ _ _ _ _ su ss)
    clear E1 M1
    cases m2 : meets (sortU (wrs a)) (sortU (rds b)) with
    | true =>
      rw [m2] at M2 CS
      clear m2
      go_wp2_with fail
      refine (M2.out).mono ?_
      rintro e w4 ⟨rfl, E1⟩
      have hres := hid (show clashB a b = true by rw [← CS.out]; rfl)
      go_wp2
      go_ret2
      exact ⟨rT2 (vB hres.out.symm) rfl, E.trans E1⟩
    | false =>
      rw [m2] at M2 CS
      clear m2
      go_wp2_with fail
      refine (M2.out).mono ?_
      rintro e w4 ⟨rfl, E1⟩
      replace sr := sr.ext E1
      replace st := st.ext E1
      replace E := E.trans E1
      have M3 := hid (meet_any _ _ _ _ _ sr st)
      clear E1 M2
      have hres := hid (show clashB a b = meets (sortU (rds a)) (sortU (wrs b)) by rw [← CS.out]; rfl)
      clear CS
      go_wp2_with fail
      refine (M3.out).mono ?_
      rintro e w5 ⟨rfl, E1⟩
      go_wp2
      go_ret2
      exact ⟨rT2 (vB hres.out.symm) rfl, E.trans E1⟩
end Go.Proofs.YtijcckhkofkenaaDoor

/- Contracts and lemmas for the proofs of this seat; each theorem states its own conditions. -/
namespace Go.Proofs.YtijcckhkofkenaaDoor
open Go.RowKit Go.Maps
/-! deed.Keys, deed.Clash at whatever is handed in -/
set_option maxRecDepth 10000 in
theorem keys_bad (vd : Value) (d : Ops) (w : World) (hvd : Seg w vd 4 d.length (cO d)) (hd : opsSm d) (hne : deedE d ≠ 0) :
    Calls Tryd.prog 45 #[.agg #[vd]] w fun e w' => e = .returned (.tuple #[.slice none 0 0, .slice none 0 0, .int .i64 (deedE d)]) ∧ Ext w w' := by
  obtain ⟨x, c, rfl⟩ := seg_form hvd
  have E0 := (Ext.refl w).alloc (.cells #[.slice x d.length c] 46)
  have b0 := heap_alloc_new w (.cells #[.slice x d.length c] 46)
  have c0 := cell_of_one b0
  have C := hid (dcheck_any (.slice x d.length c) d (w.alloc (.cells #[.slice x d.length c] 46)) (hvd.ext E0) hd)
  have q : (deedE d != 0) = true := by simp [hne]
  clear hne hvd
  go_enter Tryd.func45, Tryd.ntmps45
  go_wp2_with fail
  refine (C.out).mono ?_
  rintro e w1 ⟨rfl, E1⟩
  go_wp2
  go_ret3
  exact ⟨rfl, E0.trans E1⟩
theorem keys_all (vd : Value) (d : Ops) (w : World) (hvd : Seg w vd 4 d.length (cO d)) (hd : opsSm d) :
    Calls Tryd.prog 45 #[.agg #[vd]] w fun e w' => ∃ v1 v2 R U, e = .returned (.tuple #[v1, v2, .int .i64 (deedE d)]) ∧ w'.ownsRow w.heap.size 9 1 v1 R.length (cS R) ∧ w'.ownsRow w.heap.size 9 1 v2 U.length (cS U) ∧
      (deedE d = 0 → R = sortU (rds d) ∧ U = sortU (wrs d)) ∧ (deedE d ≠ 0 → R = [] ∧ U = []) ∧ Ext w w' := by
  by_cases h : deedE d = 0
  · refine (keys_ok vd d w hvd (deed_ok h) (fun o ho => (hd o ho).2)).mono ?_
    rintro e w' ⟨v1, v2, rfl, h1, h2, E⟩
    exact ⟨v1, v2, _, _, by rw [h], h1, h2, fun _ => ⟨rfl, rfl⟩, fun q => absurd h q, E⟩
  · refine (keys_bad vd d w hvd hd h).mono ?_
    rintro e w' ⟨rfl, E⟩
    exact ⟨_, _, [], [], rfl, World.ownsRow_nil _ _ _ _, World.ownsRow_nil _ _ _ _, fun q => absurd q h, fun _ => ⟨rfl, rfl⟩, E⟩
def twoE (a b : Ops) : Int := if deedE a = 0 then deedE b else deedE a
def clashE (a b : Ops) : Bool := if twoE a b = 0 then clashB a b else false
set_option maxRecDepth 10000 in
theorem clash_bad (va vb : Value) (a b : Ops) (w : World) (ha : Seg w va 4 a.length (cO a)) (hb : Seg w vb 4 b.length (cO b)) (oa : opsSm a) (ob : opsSm b) (hne : twoE a b ≠ 0) :
    Calls Tryd.prog 46 #[.agg #[va], .agg #[vb]] w fun e w' => e = .returned (.tuple #[.bool false, .int .i64 (twoE a b)]) ∧ Ext w w' := by
  obtain ⟨x1, c1, rfl⟩ := seg_form ha
  obtain ⟨x2, c2, rfl⟩ := seg_form hb
  have b1 := heap_1 w (.cells #[.slice x1 a.length c1] 46) (.cells #[.slice x2 b.length c2] 46)
  have b2 := heap_2 w (.cells #[.slice x1 a.length c1] 46) (.cells #[.slice x2 b.length c2] 46)
  have E := ((Ext.refl w).alloc (.cells #[.slice x1 a.length c1] 46)).alloc (.cells #[.slice x2 b.length c2] 46)
  have y1 := cell_of_one b1
  have y2 := cell_of_one b2
  have K1 := hid (keys_all (.slice x1 a.length c1) a _ (ha.ext E) oa)
  have hb := hb.ext E
  clear b1 b2 ha
  by_cases h : deedE a = 0
  · have ht := hid (show twoE a b = deedE b by unfold twoE; rw [if_pos h])
    have hn : deedE b ≠ 0 := by rw [← ht.out]; exact hne
    have q1 : (deedE a != 0) = false := by simp [h]
    have q2 : (deedE b != 0) = true := by simp [hn]
    clear h hne hn
    go_enter Tryd.func46, Tryd.ntmps46
    go_wp2_with fail
    refine (K1.out).mono ?_
    clear K1
    rintro e w1 ⟨r, u, R, U, rfl, _, _, _, _, E1⟩
    have z2 := E1.cell y2
    replace hb := hb.ext E1
    replace E := E.trans E1
    have K2 := hid (keys_all (.slice x2 b.length c2) b _ hb ob)
    clear y1 y2 E1 hb
    go_wp2_with fail
    refine (K2.out).mono ?_
    clear K2
    rintro e w2 ⟨s, t, R2, U2, rfl, _, _, _, _, E1⟩
    go_wp2
    go_ret2
    exact ⟨rT2 rfl (vI ht.out.symm), E.trans E1⟩
  · have ht := hid (show twoE a b = deedE a by unfold twoE; rw [if_neg h])
    have q1 : (deedE a != 0) = true := by simp [h]
    clear h hne
    go_enter Tryd.func46, Tryd.ntmps46
    go_wp2_with fail
    refine (K1.out).mono ?_
    clear K1
    rintro e w1 ⟨r, u, R, U, rfl, _, _, _, _, E1⟩
    go_wp2
    go_ret2
    exact ⟨rT2 rfl (vI ht.out.symm), E.trans E1⟩
theorem clash_all (va vb : Value) (a b : Ops) (w : World) (ha : Seg w va 4 a.length (cO a)) (hb : Seg w vb 4 b.length (cO b)) (oa : opsSm a) (ob : opsSm b) :
    Calls Tryd.prog 46 #[.agg #[va], .agg #[vb]] w fun e w' => e = .returned (.tuple #[.bool (clashE a b), .int .i64 (twoE a b)]) ∧ Ext w w' := by
  unfold clashE
  by_cases h : twoE a b = 0
  · rw [if_pos h, h]
    have ha0 : deedE a = 0 := by
      unfold twoE at h
      by_cases q : deedE a = 0
      · exact q
      · rw [if_neg q] at h; exact absurd h q
    have hb0 : deedE b = 0 := by unfold twoE at h; rw [if_pos ha0] at h; exact h
    exact clash_ok va vb a b w ha hb (deed_ok ha0) (deed_ok hb0) (fun o ho => (oa o ho).2) (fun o ho => (ob o ho).2)
  · rw [if_neg h]
    exact clash_bad va vb a b w ha hb oa ob h
end Go.Proofs.YtijcckhkofkenaaDoor
