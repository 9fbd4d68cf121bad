/- Contracts and lemmas for the proof of CopiesTake; each theorem states its own conditions. -/
import Derived.Shelf.Spec.SlicesInsert
import Derived.Shelf.Spec.SlicesInsertGrow
import Derived.Shelf.Slices.Turned
import Derived.Shelf.Slices.Empties2
import Derived.Ground.Names2Prog
import Derived.Test.YtimchedebcoohaaGreatProg
import Derived.Test.YtimchedebcoohaaGreatQCopiesTakeaa
import Derived.Test.YtimchedebcoohaaGreatQCopiesTakeab
import Derived.Test.YtimchedebcoohaaGreatQCopiesTakebk
import Derived.Test.YtimchedebcoohaaGreatQCopiesTakeas
import Derived.Test.YtimchedebcoohaaGreatQCopiesTakeat
import Derived.Test.YtimchedebcoohaaGreatQCopiesTakeav
import Derived.Test.YtimchedebcoohaaGreatQCopiesTakeao
import Derived.Test.YtimchedebcoohaaGreatQCopiesTakebi
import Derived.Test.YtimchedebcoohaaGreatQCopiesTakebj
set_option linter.unusedVariables false
set_option linter.unusedSimpArgs false
/- Contracts and lemmas for the proofs of this seat; each theorem states its own conditions. -/
namespace Go.Proofs.YtimchedebcoohaaGreat
open Go.Shelf
end Go.Proofs.YtimchedebcoohaaGreat

/- Contracts and lemmas for the proofs of this seat; each theorem states its own conditions. -/
namespace Go.Proofs.YtimchedebcoohaaGreat
open Go.RowKit Go.Shelf
end Go.Proofs.YtimchedebcoohaaGreat

/- Contracts and lemmas for the proofs of this seat; each theorem states its own conditions. -/
namespace Go.Proofs.YtimchedebcoohaaGreat
open Go.RowKit
/-! deed.meet, deed.Clash -/
end Go.Proofs.YtimchedebcoohaaGreat

/- Contracts and lemmas for the proofs of this seat; each theorem states its own conditions. -/
namespace Go.Proofs.YtimchedebcoohaaGreat
open Go.RowKit
/-! deeds in a row, opened; parts of them -/
theorem SegDs.form {w : World} {v : Value} {D : List Ops} (h : SegDs w v D) : ∃ a c, v = .slice a D.length c ∧ D.length ≤ c ∧ c ≤ maxLen ∧
    (0 < D.length → ∃ b off, a = some ⟨b, off, none⟩ ∧ ∀ (j : Nat) (d : Ops), D[j]? = some d → ∃ au cu, w.cell? ⟨b, off + j, none⟩ = some (.slice au d.length cu) ∧ Seg w (.slice au d.length cu) 4 d.length (cO d)) := by
  obtain ⟨vs, h1, ⟨_, a, c, rfl, h2, h3, h4⟩, h5⟩ := h
  refine ⟨a, c, by rw [h1], by omega, h3, fun h0 => ?_⟩
  obtain ⟨b, off, rfl, h6⟩ := h4 (by omega)
  refine ⟨b, off, rfl, fun j d hd => ?_⟩
  have hj := (List.getElem?_eq_some_iff.1 hd).1
  have hs := h5 j (vs[j]'(by omega)) d (List.getElem?_eq_getElem _) hd
  obtain ⟨au, cu, e⟩ := seg_form hs
  have hc := h6 j (vs[j]'(by omega)) (List.getElem?_eq_getElem _)
  rw [e] at hs hc
  exact ⟨au, cu, hc, hs⟩
theorem SegDs.mk' {w : World} {b off c : Nat} {D : List Ops} (hc : D.length ≤ c) (hm : c ≤ maxLen) (h : ∀ (j : Nat) (d : Ops), D[j]? = some d → ∃ au cu, w.cell? ⟨b, off + j, none⟩ = some (.slice au d.length cu) ∧ Seg w (.slice au d.length cu) 4 d.length (cO d)) : SegDs w (.slice (some ⟨b, off, none⟩) D.length c) D := by
  have each : ∀ j, j < D.length → ∃ u : Value, w.cell? ⟨b, off + j, none⟩ = some u ∧ Seg w u 4 (D.getD j []).length (cO (D.getD j [])) := fun j hj => by
    obtain ⟨au, cu, h1, h2⟩ := h j D[j] (List.getElem?_eq_getElem hj)
    refine ⟨_, h1, ?_⟩
    simp [hj]; exact h2
  have : ∃ f : Nat → Value, ∀ j, j < D.length → w.cell? ⟨b, off + j, none⟩ = some (f j) ∧ Seg w (f j) 4 (D.getD j []).length (cO (D.getD j [])) := by
    refine ⟨fun j => if hj : j < D.length then Classical.choose (each j hj) else .bool false, fun j hj => ?_⟩
    simp only [hj, dif_pos]
    exact Classical.choose_spec (each j hj)
  obtain ⟨f, hf⟩ := this
  refine ⟨(List.range D.length).map f, by simp, ⟨by simp, some ⟨b, off, none⟩, c, by simp, by simpa using hc, hm, fun _ => ⟨b, off, rfl, fun j u hu => ?_⟩⟩, fun i u d hu hd => ?_⟩
  · obtain ⟨hj, e⟩ := List.getElem?_eq_some_iff.1 hu
    simp at hj e
    subst e
    exact (hf j hj).1
  · obtain ⟨hj, e⟩ := List.getElem?_eq_some_iff.1 hu
    obtain ⟨hj', e'⟩ := List.getElem?_eq_some_iff.1 hd
    simp at hj e
    subst e; subst e'
    have := (hf i hj).2
    simpa [hj'] using this
theorem SegDs.take {w : World} {b off c k : Nat} {D : List Ops} (h : SegDs w (.slice (some ⟨b, off, none⟩) D.length c) D) (hk : k ≤ D.length) : SegDs w (.slice (some ⟨b, off, none⟩) k c) (D.take k) := by
  obtain ⟨a', c', e, h1, h2, h3⟩ := h.form
  injection e with e1 e2 e3
  subst e1; subst e3
  have hl : (D.take k).length = k := by rw [List.length_take]; omega
  have := SegDs.mk' (w := w) (b := b) (off := off) (c := c) (D := D.take k) (by omega) h2 (fun j d hd => by
    have hj := (List.getElem?_eq_some_iff.1 hd).1
    rw [List.getElem?_take, if_pos (by omega)] at hd
    obtain ⟨b', off', e, h4⟩ := h3 (by omega)
    injection e with e; injection e with e1 e2
    subst e1; subst e2
    exact h4 j d hd)
  rwa [hl] at this
theorem SegDs.drop {w : World} {b off c k : Nat} {D : List Ops} (h : SegDs w (.slice (some ⟨b, off, none⟩) D.length c) D) (hk : k ≤ D.length) : SegDs w (.slice (some ⟨b, off + k, none⟩) (D.length - k) (c - k)) (D.drop k) := by
  obtain ⟨a', c', e, h1, h2, h3⟩ := h.form
  injection e with e1 e2 e3
  subst e1; subst e3
  have hl : (D.drop k).length = D.length - k := by rw [List.length_drop]
  have := SegDs.mk' (w := w) (b := b) (off := off + k) (c := c - k) (D := D.drop k) (by omega) (by omega) (fun j d hd => by
    have hj := (List.getElem?_eq_some_iff.1 hd).1
    rw [List.getElem?_drop] at hd
    obtain ⟨b', off', e, h4⟩ := h3 (by omega)
    injection e with e; injection e with e1 e2
    subst e1; subst e2
    rw [Nat.add_assoc]
    exact h4 (k + j) d hd)
  rwa [hl] at this
theorem SegDs.nil (w : World) (a : Option Addr) (c : Nat) (hc : c ≤ maxLen) : SegDs w (.slice a 0 c) [] := ⟨[], rfl, ⟨rfl, a, c, rfl, Nat.zero_le _, hc, fun h => absurd h (by simp)⟩, fun i u d h => by simp at h⟩
end Go.Proofs.YtimchedebcoohaaGreat

/- Contracts and lemmas for the proofs of this seat; each theorem states its own conditions. -/
namespace Go.Proofs.YtimchedebcoohaaGreat
open Go.RowKit
/-! store.Get, store.Put at stores and keys that may be; a deed that may not be done -/
end Go.Proofs.YtimchedebcoohaaGreat

/- Contracts and lemmas for the proofs of this seat; each theorem states its own conditions. -/
namespace Go.Proofs.YtimchedebcoohaaGreat
open Go.RowKit
/-! parts.Part, All -/
set_option maxRecDepth 100000 in
set_option maxHeartbeats 1000000 in
theorem ppart_ok {w : World} {bt : Nat} {C : List ByteArray} {O : List Int} {P : Nat → Prs} {vc vo : Value} {pv : Nat → Value} (h : PartsSt w bt C O P vc vo pv) (i : Nat) (hi : i < 4) (hl : (P i).length < 1000000) :
    Calls Tryz.prog 94 #[.pointer (some ⟨bt, 0, none⟩), .int .i64 i] w fun e w' => ∃ v', e = .returned (.tuple #[v', .int .i64 0]) ∧ w'.ownsRow w.heap.size 33 2 v' (P i).length (cP (P i)) ∧ Ext w w' := by
  have ci := (h.cellI hi).1
  have hs := own_seg (h.rows i hi)
  obtain ⟨a, c, e⟩ := own_form (h.rows i hi)
  rw [e] at ci hs
  have CL := hid (clone_Pair (.slice a (P i).length c) (P i).length (cP (P i)) w hs (cP_one _) (by omega))
  have qa : ¬ ((i : Int) < 0) := by omega
  have qb : ¬ ((i : Int) ≥ 4) := by omega
  have qc : ((i : Int) < 4) := by omega
  clear h hs e
  go_enter Tryz.func94, Tryz.ntmps94
  go_wp2_with fail
  refine (CL.out).mono ?_
  rintro e w1 ⟨a1, c1, rfl, o1, E1⟩
  go_wp2
  go_ret2
  exact ⟨_, rfl, o1, E1⟩
theorem PartsSt.cell4 {w : World} {bt : Nat} {C : List ByteArray} {O : List Int} {P : Nat → Prs} {vc vo : Value} {pv : Nat → Value} (h : PartsSt w bt C O P vc vo pv) : w.cell? ⟨bt, 2, none⟩ = some (pv 0) ∧ w.cell? ⟨bt, 3, none⟩ = some (pv 1) ∧ w.cell? ⟨bt, 4, none⟩ = some (pv 2) ∧ w.cell? ⟨bt, 5, none⟩ = some (pv 3) := by
  have hb := h.box
  simp [World.cell?, hb]
theorem foldW_len (A : Prs) : ∀ l : Prs, (foldW A l).length ≤ A.length + l.length := by
  intro l
  induction l generalizing A with
  | nil => exact Nat.le_refl _
  | cons x l ih =>
    have h1 := ih (withP A x.1 x.2)
    have h2 := with_len A x.1 x.2
    have e : foldW A (x :: l) = foldW (withP A x.1 x.2) l := rfl
    rw [e, List.length_cons]; omega
theorem idx4 {xs : Array Value} {i : Nat} (hi : i < 4) {v : Value} (h : xs[i]? = some v) (w : World) : (Instr.index 187 (.agg xs) (.int .i64 (i : Int))).run Tryz.prog w = .ok v w := by
  have hu := run_underlying Tryz.underlying187 (w := w)
  obtain ⟨inf, hi1, hi2⟩ : ∃ inf, Tryz.prog.info? 22 = some inf ∧ inf.size = 1 := by
    have : (Tryz.prog.info? 22).map (fun i => i.size) = some 1 := by kernel_rfl
    cases e : Tryz.prog.info? 22 with
    | none => rw [e] at this; cases this
    | some inf => rw [e] at this; exact ⟨inf, rfl, by simpa using this⟩
  simp [Instr.index, asIntOf, hu, part, sizeOf, typeInfo, hi, go_sem, hi1, hi2, h]
set_option maxRecDepth 100000 in
set_option maxHeartbeats 2000000 in
theorem pall_ok {w : World} {bt : Nat} {C : List ByteArray} {O : List Int} {S : Prs} {vc vo : Value} {pv : Nat → Value} (h : PartsSt w bt C O (parP C O S) vc vo pv) (hm : MapOk C O) (hS : StoreOk S) (hl : S.length ≤ 450000) :
    Calls Tryz.prog 93 #[.pointer (some ⟨bt, 0, none⟩)] w fun e w' => ∃ v', e = .returned v' ∧ w'.ownsRow w.heap.size 33 2 v' S.length (cP S) ∧ Ext w w' := by
  obtain ⟨x2, x3, x4, x5⟩ := h.cell4
  have hend := hid (all_store hm hS)
  have hpr := hid (fun i => all_pr (C := C) (O := O) hS (i := i))
  have hln := hid (fun i => all_len C O S i)
  have hrow := hid h.rows
  have hpl := hid (fun i => par_len C O S i)
  have hpo := hid (fun i => par_ok hS C O i)
  clear h
  obtain ⟨xs, hxs⟩ : ∃ xs : Array Value, #[pv 0, pv 1, pv 2, pv 3] = xs := ⟨_, rfl⟩
  have hsz : xs.size = 4 := by rw [← hxs]; rfl
  have hat : ∀ i, i < 4 → xs[i]? = some (pv i) := fun i hi => by
    rw [← hxs]
    have : i = 0 ∨ i = 1 ∨ i = 2 ∨ i = 3 := by omega
    rcases this with rfl | rfl | rfl | rfl <;> rfl
  have HAT := hid hat
  clear hat
  go_enter Tryz.func93, Tryz.ntmps93
  go_wp2_with fail
  go_loopw [3, 5, 7, 12, 17] (fun ov _ _ iv _ wr => ∃ i : Nat, i ≤ 4 ∧ iv = .int .i64 i ∧ wr.ownsRow w.heap.size 33 2 ov (foldW [] (allP (parP C O S) i)).length (cP (foldW [] (allP (parP C O S) i))) ∧ Ext w wr) (fun _ _ _ iv _ _ => 4 - (intOf iv).toNat)
  case atStart => exact ⟨0, by omega, rfl, World.ownsRow_nil _ _ _ _, Ext.refl _⟩
  case round =>
    obtain ⟨wo, rfl⟩ : ∃ wo : World, wo = wr := ⟨_, rfl⟩
    obtain ⟨i, hi, rfl, ho, E⟩ := hrel
    by_cases hi4 : i < 4
    · have hi4' : ((i : Int) < 4) := by omega
      have xi := fun w => idx4 hi4 (HAT.out i hi4) w
      have hx := foldW_ok (l := allP (parP C O S) i) storeOk_nil (hpr.out i)
      have hxl : (foldW [] (allP (parP C O S) i)).length ≤ 450000 := by
        have h1 := hln.out i
        have := hx.2.1
        simp at this; omega
      have hx0 := hx.1
      have hstep : foldW (foldW [] (allP (parP C O S) i)) (parP C O S i) = foldW [] (allP (parP C O S) (i + 1)) := by rw [allP, foldW_app]
      have HST := hid hstep
      clear hx hstep
      generalize foldW [] (allP (parP C O S) i) = A at ho hx0 hxl HST
      have hsi := own_seg (hrow.out i hi4)
      have hli := hpl.out i
      have hoi := hpo.out i
      generalize parP C O S i = L at hsi hli hoi HST
      obtain ⟨ai, ci, e⟩ := seg_form hsi
      rw [e] at hsi xi
      have HSI := hid hsi
      have HO := hid ho
      have HXO := hid hx0
      clear hsi e ho hx0
      go_wp2_with fail
      go_loopw [3, 7, 17] (fun ov _ kv wr => ∃ k : Nat, k ≤ L.length ∧ kv = .int .i64 k ∧ wr.ownsRow w.heap.size 33 2 ov (foldW A (L.take k)).length (cP (foldW A (L.take k))) ∧ Ext w wr) (fun _ _ kv _ => L.length - (intOf kv).toNat)
      case atStart => exact ⟨0, Nat.zero_le _, rfl, HO.out, E⟩
      case round =>
        obtain ⟨wz, rfl⟩ : ∃ wz : World, wz = wr := ⟨_, rfl⟩
        obtain ⟨k, hk, rfl, ho, Ez⟩ := hrel
        by_cases hkl : k < L.length
        · obtain ⟨b, off, rfl, _, m1, m2, hc⟩ := seg_cells HSI.out (by omega)
          unfold maxLen at m2
          have c := seg_pair hc hkl
          have c0 := Ez.cell c.1
          have c1 := Ez.cell c.2
          have hpk : ∀ x ∈ L.take k, keyB x.1 = true ∧ -1000000000 ≤ x.2 ∧ x.2 ≤ 1000000000 := fun x hx => ⟨hoi.key x (List.mem_of_mem_take hx), (hoi.val x (List.mem_of_mem_take hx)).2⟩
          have hY := (foldW_ok (l := L.take k) HXO.out hpk).1
          have hYl := foldW_len A (L.take k)
          rw [List.length_take] at hYl
          have hst : withP (foldW A (L.take k)) L[k].1 L[k].2 = foldW A (L.take (k + 1)) := by rw [List.take_succ_eq_append_getElem hkl, foldW_app, foldW_one]
          generalize foldW A (L.take k) = Y at ho hY hYl hst
          obtain ⟨ay, cy, rfl⟩ := own_form ho
          generalize L[k] = q at c0 c1 hst
          obtain ⟨kx, nx⟩ := q
          dsimp only at c0 c1 hst
          have EA := (Ext.refl wz).alloc (.cells #[.string kx, .int .i64 nx] 33)
          have xb := blk2 (heap_alloc_new wz (.cells #[.string kx, .int .i64 nx] 33))
          have WI := with_any (.slice ay Y.length cy) Y kx nx (wz.alloc (.cells #[.string kx, .int .i64 nx] 33)) ((own_seg ho).ext EA) hY.srt (by omega)
          rw [hst] at WI
          have WI := hid WI
          have hz := (Ez.trans EA).size'
          have EZ := hid (Ez.trans EA)
          clear hc c hst hpk ho EA
          go_wp2_with fail
          refine (WI.out).mono ?_
          rintro e w2 ⟨v2, rfl, o2, E2⟩
          have O2 := hid (own_base o2 hz)
          clear o2 WI
          go_wp2
          go_roundw
          case rel => exact ⟨k + 1, by omega, by go_num, O2.out, EZ.out.trans E2⟩
          case measure => simp [intOf] <;> omega
        · obtain rfl : k = L.length := by omega
          rw [List.take_length, HST.out] at ho
          have HO2 := hid ho
          clear ho
          go_wp2
          go_roundw
          case rel => exact ⟨i + 1, by omega, by go_num, HO2.out, Ez⟩
          case measure => simp [intOf] <;> omega
    · obtain rfl : i = 4 := by omega
      rw [hend.out] at ho
      have HO2 := hid ho
      clear ho
      go_wp2
      go_ret
      exact ⟨_, rfl, HO2.out, E⟩
end Go.Proofs.YtimchedebcoohaaGreat
