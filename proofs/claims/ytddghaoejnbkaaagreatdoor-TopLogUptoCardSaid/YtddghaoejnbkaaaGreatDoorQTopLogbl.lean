/- Contracts and lemmas for the proof of TopLog; each theorem states its own conditions. -/
import Derived.Shelf.Spec.SlicesInsert
import Derived.Shelf.Spec.SlicesInsertGrow
import Derived.Shelf.Slices.Turned
import Derived.Shelf.Slices.Empties2
import Derived.Ground.Names2Prog
import Derived.Test.YtddghaoejnbkaaaGreatDoorProg
import Derived.Test.YtddghaoejnbkaaaGreatDoorQTopLogaa
import Derived.Test.YtddghaoejnbkaaaGreatDoorQTopLogad
import Derived.Test.YtddghaoejnbkaaaGreatDoorQTopLogbk
import Derived.Test.YtddghaoejnbkaaaGreatDoorQTopLogaw
import Derived.Test.YtddghaoejnbkaaaGreatDoorQTopLogax
import Derived.Test.YtddghaoejnbkaaaGreatDoorQTopLogay
import Derived.Test.YtddghaoejnbkaaaGreatDoorQTopLogap
import Derived.Test.YtddghaoejnbkaaaGreatDoorQTopLogbi
import Derived.Test.YtddghaoejnbkaaaGreatDoorQTopLogbj
set_option linter.unusedVariables false
set_option linter.unusedSimpArgs false
/- Contracts and lemmas for the proofs of this seat; each theorem states its own conditions. -/
namespace Go.Proofs.YtddghaoejnbkaaaGreatDoor
open Go.Shelf
end Go.Proofs.YtddghaoejnbkaaaGreatDoor

/- Contracts and lemmas for the proofs of this seat; each theorem states its own conditions. -/
namespace Go.Proofs.YtddghaoejnbkaaaGreatDoor
open Go.RowKit Go.Shelf
end Go.Proofs.YtddghaoejnbkaaaGreatDoor

/- Contracts and lemmas for the proofs of this seat; each theorem states its own conditions. -/
namespace Go.Proofs.YtddghaoejnbkaaaGreatDoor
open Go.RowKit
/-! deed.meet, deed.Clash -/
end Go.Proofs.YtddghaoejnbkaaaGreatDoor

/- Contracts and lemmas for the proofs of this seat; each theorem states its own conditions. -/
namespace Go.Proofs.YtddghaoejnbkaaaGreatDoor
open Go.RowKit
/-! deeds in a row, opened; parts of them -/
theorem SegDs.form {w : World} {v : Value} {D : List Ops} (h : SegDs w v D) : ∃ a c, v = .slice a D.length c ∧ D.length ≤ c ∧ c ≤ maxLen ∧
    (0 < D.length → ∃ b off, a = some ⟨b, off, none⟩ ∧ ∀ (j : Nat) (d : Ops), D[j]? = some d → ∃ au cu, w.cell? ⟨b, off + j, none⟩ = some (.slice au d.length cu) ∧ Seg w (.slice au d.length cu) 4 d.length (cO d)) := by
  obtain ⟨vs, h1, ⟨_, a, c, rfl, h2, h3, h4⟩, h5⟩ := h
  refine ⟨a, c, by rw [h1], by omega, h3, fun h0 => ?_⟩
  obtain ⟨b, off, rfl, h6⟩ := h4 (by omega)
  refine ⟨b, off, rfl, fun j d hd => ?_⟩
  have hj := (List.getElem?_eq_some_iff.1 hd).1
  have hs := h5 j (vs[j]'(by omega)) d (List.getElem?_eq_getElem _) hd
  obtain ⟨au, cu, e⟩ := seg_form hs
  have hc := h6 j (vs[j]'(by omega)) (List.getElem?_eq_getElem _)
  rw [e] at hs hc
  exact ⟨au, cu, hc, hs⟩
theorem SegDs.mk' {w : World} {b off c : Nat} {D : List Ops} (hc : D.length ≤ c) (hm : c ≤ maxLen) (h : ∀ (j : Nat) (d : Ops), D[j]? = some d → ∃ au cu, w.cell? ⟨b, off + j, none⟩ = some (.slice au d.length cu) ∧ Seg w (.slice au d.length cu) 4 d.length (cO d)) : SegDs w (.slice (some ⟨b, off, none⟩) D.length c) D := by
  have each : ∀ j, j < D.length → ∃ u : Value, w.cell? ⟨b, off + j, none⟩ = some u ∧ Seg w u 4 (D.getD j []).length (cO (D.getD j [])) := fun j hj => by
    obtain ⟨au, cu, h1, h2⟩ := h j D[j] (List.getElem?_eq_getElem hj)
    refine ⟨_, h1, ?_⟩
    simp [hj]; exact h2
  have : ∃ f : Nat → Value, ∀ j, j < D.length → w.cell? ⟨b, off + j, none⟩ = some (f j) ∧ Seg w (f j) 4 (D.getD j []).length (cO (D.getD j [])) := by
    refine ⟨fun j => if hj : j < D.length then Classical.choose (each j hj) else .bool false, fun j hj => ?_⟩
    simp only [hj, dif_pos]
    exact Classical.choose_spec (each j hj)
  obtain ⟨f, hf⟩ := this
  refine ⟨(List.range D.length).map f, by simp, ⟨by simp, some ⟨b, off, none⟩, c, by simp, by simpa using hc, hm, fun _ => ⟨b, off, rfl, fun j u hu => ?_⟩⟩, fun i u d hu hd => ?_⟩
  · obtain ⟨hj, e⟩ := List.getElem?_eq_some_iff.1 hu
    simp at hj e
    subst e
    exact (hf j hj).1
  · obtain ⟨hj, e⟩ := List.getElem?_eq_some_iff.1 hu
    obtain ⟨hj', e'⟩ := List.getElem?_eq_some_iff.1 hd
    simp at hj e
    subst e; subst e'
    have := (hf i hj).2
    simpa [hj'] using this
theorem SegDs.take {w : World} {b off c k : Nat} {D : List Ops} (h : SegDs w (.slice (some ⟨b, off, none⟩) D.length c) D) (hk : k ≤ D.length) : SegDs w (.slice (some ⟨b, off, none⟩) k c) (D.take k) := by
  obtain ⟨a', c', e, h1, h2, h3⟩ := h.form
  injection e with e1 e2 e3
  subst e1; subst e3
  have hl : (D.take k).length = k := by rw [List.length_take]; omega
  have := SegDs.mk' (w := w) (b := b) (off := off) (c := c) (D := D.take k) (by omega) h2 (fun j d hd => by
    have hj := (List.getElem?_eq_some_iff.1 hd).1
    rw [List.getElem?_take, if_pos (by omega)] at hd
    obtain ⟨b', off', e, h4⟩ := h3 (by omega)
    injection e with e; injection e with e1 e2
    subst e1; subst e2
    exact h4 j d hd)
  rwa [hl] at this
theorem SegDs.drop {w : World} {b off c k : Nat} {D : List Ops} (h : SegDs w (.slice (some ⟨b, off, none⟩) D.length c) D) (hk : k ≤ D.length) : SegDs w (.slice (some ⟨b, off + k, none⟩) (D.length - k) (c - k)) (D.drop k) := by
  obtain ⟨a', c', e, h1, h2, h3⟩ := h.form
  injection e with e1 e2 e3
  subst e1; subst e3
  have hl : (D.drop k).length = D.length - k := by rw [List.length_drop]
  have := SegDs.mk' (w := w) (b := b) (off := off + k) (c := c - k) (D := D.drop k) (by omega) (by omega) (fun j d hd => by
    have hj := (List.getElem?_eq_some_iff.1 hd).1
    rw [List.getElem?_drop] at hd
    obtain ⟨b', off', e, h4⟩ := h3 (by omega)
    injection e with e; injection e with e1 e2
    subst e1; subst e2
    rw [Nat.add_assoc]
    exact h4 (k + j) d hd)
  rwa [hl] at this
theorem SegDs.nil (w : World) (a : Option Addr) (c : Nat) (hc : c ≤ maxLen) : SegDs w (.slice a 0 c) [] := ⟨[], rfl, ⟨rfl, a, c, rfl, Nat.zero_le _, hc, fun h => absurd h (by simp)⟩, fun i u d h => by simp at h⟩
end Go.Proofs.YtddghaoejnbkaaaGreatDoor

/- Contracts and lemmas for the proofs of this seat; each theorem states its own conditions. -/
namespace Go.Proofs.YtddghaoejnbkaaaGreatDoor
open Go.RowKit
/-! store.Get, store.Put at stores and keys that may be; a deed that may not be done -/
theorem put_ok' (v : Value) (l : Prs) (key : ByteArray) (n : Int) (w : World) (hv : Seg w v 2 l.length (cP l)) (hlen : l.length ≤ 1000000) (ok : StoreOk l) (hkb : keyB key = true) (hn : -1000000000 ≤ n ∧ n ≤ 1000000000) :
    Calls Tryz.prog 92 #[v, .string key, .int .i64 n] w fun e w' => ∃ v', e = .returned (.tuple #[v', .int .i64 0]) ∧ w'.ownsRow w.heap.size 62 2 v' (withP l key n).length (cP (withP l key n)) ∧ Ext w w' :=
  put_ok v l key n w hv (store_small ok) (by have := keyB_size hkb; omega) hlen ok hkb (valB_iff.2 hn)
end Go.Proofs.YtddghaoejnbkaaaGreatDoor

/- Contracts and lemmas for the proofs of this seat; each theorem states its own conditions. -/
namespace Go.Proofs.YtddghaoejnbkaaaGreatDoor
open Go.RowKit
/-! parts.Part, All -/
theorem PartsSt.cell4 {w : World} {bt : Nat} {C : List ByteArray} {O : List Int} {P : Nat → Prs} {vc vo : Value} {pv : Nat → Value} (h : PartsSt w bt C O P vc vo pv) : w.cell? ⟨bt, 2, none⟩ = some (pv 0) ∧ w.cell? ⟨bt, 3, none⟩ = some (pv 1) ∧ w.cell? ⟨bt, 4, none⟩ = some (pv 2) ∧ w.cell? ⟨bt, 5, none⟩ = some (pv 3) := by
  have hb := h.box
  simp [World.cell?, hb]
theorem foldW_len (A : Prs) : ∀ l : Prs, (foldW A l).length ≤ A.length + l.length := by
  intro l
  induction l generalizing A with
  | nil => exact Nat.le_refl _
  | cons x l ih =>
    have h1 := ih (withP A x.1 x.2)
    have h2 := with_len A x.1 x.2
    have e : foldW A (x :: l) = foldW (withP A x.1 x.2) l := rfl
    rw [e, List.length_cons]; omega
theorem idx4 {xs : Array Value} {i : Nat} (hi : i < 4) {v : Value} (h : xs[i]? = some v) (w : World) : (Instr.index 180 (.agg xs) (.int .i64 (i : Int))).run Tryz.prog w = .ok v w := by
  have hu := run_underlying Tryz.underlying180 (w := w)
  obtain ⟨inf, hi1, hi2⟩ : ∃ inf, Tryz.prog.info? 36 = some inf ∧ inf.size = 1 := by
    have : (Tryz.prog.info? 36).map (fun i => i.size) = some 1 := by kernel_rfl
    cases e : Tryz.prog.info? 36 with
    | none => rw [e] at this; cases this
    | some inf => rw [e] at this; exact ⟨inf, rfl, by simpa using this⟩
  simp [Instr.index, asIntOf, hu, part, sizeOf, typeInfo, hi, go_sem, hi1, hi2, h]
set_option maxRecDepth 100000 in
set_option maxHeartbeats 2000000 in
theorem pall_ok {w : World} {bt : Nat} {C : List ByteArray} {O : List Int} {S : Prs} {vc vo : Value} {pv : Nat → Value} (h : PartsSt w bt C O (parP C O S) vc vo pv) (hm : MapOk C O) (hS : StoreOk S) (hl : S.length ≤ 450000) :
    Calls Tryz.prog 78 #[.pointer (some ⟨bt, 0, none⟩)] w fun e w' => ∃ v', e = .returned v' ∧ w'.ownsRow w.heap.size 62 2 v' S.length (cP S) ∧ Ext w w' := by
  obtain ⟨x2, x3, x4, x5⟩ := h.cell4
  have hend := hid (all_store hm hS)
  have hpr := hid (fun i => all_pr (C := C) (O := O) hS (i := i))
  have hln := hid (fun i => all_len C O S i)
  have hrow := hid h.rows
  have hpl := hid (fun i => par_len C O S i)
  have hpo := hid (fun i => par_ok hS C O i)
  clear h
  obtain ⟨xs, hxs⟩ : ∃ xs : Array Value, #[pv 0, pv 1, pv 2, pv 3] = xs := ⟨_, rfl⟩
  have hsz : xs.size = 4 := by rw [← hxs]; rfl
  have hat : ∀ i, i < 4 → xs[i]? = some (pv i) := fun i hi => by
    rw [← hxs]
    have : i = 0 ∨ i = 1 ∨ i = 2 ∨ i = 3 := by omega
    rcases this with rfl | rfl | rfl | rfl <;> rfl
  have HAT := hid hat
  clear hat
  go_enter Tryz.func78, Tryz.ntmps78
  go_wp2_with fail
  go_loopw [3, 5, 7, 12, 17] (fun ov _ _ iv _ wr => ∃ i : Nat, i ≤ 4 ∧ iv = .int .i64 i ∧ wr.ownsRow w.heap.size 62 2 ov (foldW [] (allP (parP C O S) i)).length (cP (foldW [] (allP (parP C O S) i))) ∧ Ext w wr) (fun _ _ _ iv _ _ => 4 - (intOf iv).toNat)
  case atStart => exact ⟨0, by omega, rfl, World.ownsRow_nil _ _ _ _, Ext.refl _⟩
  case round =>
    obtain ⟨wo, rfl⟩ : ∃ wo : World, wo = wr := ⟨_, rfl⟩
    obtain ⟨i, hi, rfl, ho, E⟩ := hrel
    by_cases hi4 : i < 4
    · have hi4' : ((i : Int) < 4) := by omega
      have xi := fun w => idx4 hi4 (HAT.out i hi4) w
      have hx := foldW_ok (l := allP (parP C O S) i) storeOk_nil (hpr.out i)
      have hxl : (foldW [] (allP (parP C O S) i)).length ≤ 450000 := by
        have h1 := hln.out i
        have := hx.2.1
        simp at this; omega
      have hx0 := hx.1
      have hstep : foldW (foldW [] (allP (parP C O S) i)) (parP C O S i) = foldW [] (allP (parP C O S) (i + 1)) := by rw [allP, foldW_app]
      have HST := hid hstep
      clear hx hstep
      generalize foldW [] (allP (parP C O S) i) = A at ho hx0 hxl HST
      have hsi := own_seg (hrow.out i hi4)
      have hli := hpl.out i
      have hoi := hpo.out i
      generalize parP C O S i = L at hsi hli hoi HST
      obtain ⟨ai, ci, e⟩ := seg_form hsi
      rw [e] at hsi xi
      have HSI := hid hsi
      have HO := hid ho
      have HXO := hid hx0
      clear hsi e ho hx0
      go_wp2_with fail
      go_loopw [3, 7, 17] (fun ov _ kv wr => ∃ k : Nat, k ≤ L.length ∧ kv = .int .i64 k ∧ wr.ownsRow w.heap.size 62 2 ov (foldW A (L.take k)).length (cP (foldW A (L.take k))) ∧ Ext w wr) (fun _ _ kv _ => L.length - (intOf kv).toNat)
      case atStart => exact ⟨0, Nat.zero_le _, rfl, HO.out, E⟩
      case round =>
        obtain ⟨wz, rfl⟩ : ∃ wz : World, wz = wr := ⟨_, rfl⟩
        obtain ⟨k, hk, rfl, ho, Ez⟩ := hrel
        by_cases hkl : k < L.length
        · obtain ⟨b, off, rfl, _, m1, m2, hc⟩ := seg_cells HSI.out (by omega)
          unfold maxLen at m2
          have c := seg_pair hc hkl
          have c0 := Ez.cell c.1
          have c1 := Ez.cell c.2
          have hpk : ∀ x ∈ L.take k, keyB x.1 = true ∧ -1000000000 ≤ x.2 ∧ x.2 ≤ 1000000000 := fun x hx => ⟨hoi.key x (List.mem_of_mem_take hx), (hoi.val x (List.mem_of_mem_take hx)).2⟩
          have hY := (foldW_ok (l := L.take k) HXO.out hpk).1
          have hYl := foldW_len A (L.take k)
          rw [List.length_take] at hYl
          have hst : withP (foldW A (L.take k)) L[k].1 L[k].2 = foldW A (L.take (k + 1)) := by rw [List.take_succ_eq_append_getElem hkl, foldW_app, foldW_one]
          generalize foldW A (L.take k) = Y at ho hY hYl hst
          obtain ⟨ay, cy, rfl⟩ := own_form ho
          generalize L[k] = q at c0 c1 hst
          obtain ⟨kx, nx⟩ := q
          dsimp only at c0 c1 hst
          have EA := (Ext.refl wz).alloc (.cells #[.string kx, .int .i64 nx] 62)
          have xb := blk2 (heap_alloc_new wz (.cells #[.string kx, .int .i64 nx] 62))
          have WI := with_any (.slice ay Y.length cy) Y kx nx (wz.alloc (.cells #[.string kx, .int .i64 nx] 62)) ((own_seg ho).ext EA) hY.srt (by omega)
          rw [hst] at WI
          have WI := hid WI
          have hz := (Ez.trans EA).size'
          have EZ := hid (Ez.trans EA)
          clear hc c hst hpk ho EA
          go_wp2_with fail
          refine (WI.out).mono ?_
          rintro e w2 ⟨v2, rfl, o2, E2⟩
          have O2 := hid (own_base o2 hz)
          clear o2 WI
          go_wp2
          go_roundw
          case rel => exact ⟨k + 1, by omega, by go_num, O2.out, EZ.out.trans E2⟩
          case measure => simp [intOf] <;> omega
        · obtain rfl : k = L.length := by omega
          rw [List.take_length, HST.out] at ho
          have HO2 := hid ho
          clear ho
          go_wp2
          go_roundw
          case rel => exact ⟨i + 1, by omega, by go_num, HO2.out, Ez⟩
          case measure => simp [intOf] <;> omega
    · obtain rfl : i = 4 := by omega
      rw [hend.out] at ho
      have HO2 := hid ho
      clear ho
      go_wp2
      go_ret
      exact ⟨_, rfl, HO2.out, E⟩
end Go.Proofs.YtddghaoejnbkaaaGreatDoor

/- Contracts and lemmas for the proofs of this seat; each theorem states its own conditions. -/
namespace Go.Proofs.YtddghaoejnbkaaaGreatDoor
open Go.RowKit
/-! parts.New -/
theorem PartsSt.congr {w : World} {bt : Nat} {C : List ByteArray} {O : List Int} {P P' : Nat → Prs} {vc vo : Value} {pv : Nat → Value} (h : PartsSt w bt C O P vc vo pv) (e : ∀ j, j < 4 → P j = P' j) : PartsSt w bt C O P' vc vo pv :=
  ⟨h.box, h.cuts, h.owners, fun i hi => by rw [← e i hi]; exact h.rows i hi⟩
def untilP (P : Nat → Prs) (i : Nat) (j : Nat) : Prs := if j < i then P j else []
theorem until_step (P : Nat → Prs) (i : Nat) : (fun j => if j = i then P i else untilP P i j) = untilP P (i + 1) := by
  funext j
  unfold untilP
  by_cases e : j = i
  · subst e; rw [if_pos rfl, if_pos (by omega)]
  · rw [if_neg e]
    by_cases h : j < i
    · rw [if_pos h, if_pos (by omega)]
    · rw [if_neg h, if_neg (by omega)]
theorem until_all (P : Nat → Prs) : ∀ j, j < 4 → untilP P 4 j = P j := fun j hj => by unfold untilP; rw [if_pos hj]
theorem parts_empty {w : World} {bt B : Nat} {C : List ByteArray} {O : List Int} {P : Nat → Prs} {vc vo : Value} (hb : w.heap[bt]? = some (.cells #[vc, vo, .slice none 0 0, .slice none 0 0, .slice none 0 0, .slice none 0 0] 182 (0, 0))) (h1 : w.ownsRow B 9 1 vc C.length (cS C)) (h2 : w.ownsRow B 3 1 vo O.length (cI O)) :
    PartsSt w bt C O (untilP P 0) vc vo (fun _ => .slice none 0 0) :=
  ⟨hb, own_base h1 (Nat.zero_le _), own_base h2 (Nat.zero_le _), fun i hi => by
    have : untilP P 0 i = [] := by unfold untilP; rw [if_neg (by omega)]
    rw [this]; exact World.ownsRow_nil _ _ _ _⟩
set_option maxRecDepth 100000 in
set_option maxHeartbeats 2000000 in
theorem pnew_ok' (vm vl : Value) (C : List ByteArray) (O : List Int) (S : Prs) (w : World) (hm : IsMap w vm C O) (ok : MapOk C O) (hk : ∀ k ∈ C, k.size ≤ 9223372036854775807) (hv : Seg w vl 2 S.length (cP S)) (oS : StoreOk S) (hl : S.length ≤ 450000) :
    Calls Tryz.prog 59 #[vm, vl] w fun e w' => ∃ bt vc vo pv, e = .returned (.tuple #[.pointer (some ⟨bt, 0, none⟩), .int .i64 0]) ∧ w.heap.size ≤ bt ∧ (∀ k, vo.ownBlock = some k → w.heap.size ≤ k) ∧ PartsSt w' bt C O (parP C O S) vc vo pv ∧ Ext w w' := by
  obtain ⟨a1, k1, a2, k2, rfl, m1, m2⟩ := hm.unpack
  have xb := heap_alloc_new w (.cells #[.slice a1 C.length k1, .slice a2 O.length k2] 34)
  have E0 := (Ext.refl w).alloc (.cells #[.slice a1 C.length k1, .slice a2 O.length k2] 34)
  have x := blk2 xb
  have few := ok.few
  have MC := hid (mcheck_any (.agg #[.slice a1 C.length k1, .slice a2 O.length k2]) C O _ (hm.ext E0) hk)
  have e0 := hid (mapErr_ok ok)
  have s0 := hid (storeErr_ok oS)
  have hm0 := hm.ext E0
  have hv0 := hv.ext E0
  have hlO : O.length < 1000000000 := by have := ok.len; omega
  clear m1 m2 hm hv
  go_enter Tryz.func59, Tryz.ntmps59
  go_wp2_with fail
  refine (MC.out).mono ?_
  rw [e0.out]
  rintro e w1 ⟨rfl, E1⟩
  have SC := hid (scheck_any vl S w1 (hv0.ext E1) (store_small oS))
  go_wp2_with fail
  refine (SC.out).mono ?_
  rw [s0.out]
  rintro e w2 ⟨rfl, E2⟩
  have E02 := hid (E0.trans (E1.trans E2))
  have x' := blk2 ((E1.trans E2).heap xb)
  have hm2 := hid (hm0.ext (E1.trans E2))
  have hv2 := hid (hv0.ext (E1.trans E2))
  have xb2 := hid ((E1.trans E2).heap xb)
  clear xb x E0 hm0 hv0 MC SC E1 E2
  go_wp2_with fail
  refine (copied_any _ C O _ hm2.out (by omega) (by omega)).mono ?_
  rintro e w3 ⟨v3, rfl, hO3, E3⟩
  obtain ⟨vc, vo, rfl, o1, o2⟩ := hO3
  have HNO := hid (fun k (hk : vo.ownBlock = some k) => Nat.le_trans E02.out.size' (own_ge o2 k hk))
  have E4 := (Ext.refl w3).alloc (.cells #[vc, vo, .slice none 0 0, .slice none 0 0, .slice none 0 0, .slice none 0 0] 182)
  have P0 := hid (parts_empty (P := parP C O S) (heap_alloc_new w3 _) (own_ext o1 E4) (own_ext o2 E4))
  have hm4 := hid (hm2.out.ext E3)
  have hv4 := hid (hv2.out.ext E3)
  have xb4 := hid (E3.heap xb2.out)
  have E34 := hid E4
  have E04 := hid (E02.out.trans (E3.trans E4))
  have hbt : w.heap.size ≤ w3.heap.size := (E02.out.trans E3).size'
  obtain ⟨bt, hbe⟩ : ∃ bt, w3.heap.size = bt := ⟨_, rfl⟩
  rw [hbe] at P0 hbt
  have hb3 : w3.heap.size ≤ bt := by omega
  obtain ⟨a3, k3, rfl⟩ := own_form o1
  obtain ⟨a4, k4, rfl⟩ := own_form o2
  clear o1 o2 E3 E4 E02 hm2 hv2 xb2 x'
  obtain ⟨wN, hwN⟩ : ∃ wN, w3.alloc (.cells #[.slice a3 C.length k3, .slice a4 O.length k4, .slice none 0 0, .slice none 0 0, .slice none 0 0, .slice none 0 0] 182) = wN := ⟨_, rfl⟩
  rw [hwN] at P0 E04 E34
  go_wp2_with fail
  go_loopw [9, 24] (fun _ iv wr => ∃ (i : Nat) (pv : Nat → Value), i ≤ 4 ∧ iv = .int .i64 i ∧ PartsSt wr bt C O (untilP (parP C O S) i) (.slice a3 C.length k3) (.slice a4 O.length k4) pv ∧ Ext w3 wr ∧ Ext w wr) (fun _ iv _ => 4 - (intOf iv).toNat)
  case atStart => exact ⟨0, _, by omega, rfl, P0.out, E34.out, E04.out⟩
  case round =>
    clear P0 E04 E34
    obtain ⟨wo, rfl⟩ : ∃ wo : World, wo = wr := ⟨_, rfl⟩
    obtain ⟨i, pv, hi, rfl, hP, EN, E⟩ := hrel
    by_cases hi4 : i < 4
    · have hi4' : ((i : Int) < 4) := by omega
      have xm := blk2 (EN.heap xb4.out)
      have PK := hid (fun w' (E' : Ext wo w') => part_ok (.agg #[.slice a1 C.length k1, .slice a2 O.length k2]) vl C O S (i : Int) w' ((hm4.out.ext EN).ext E') ok hk ((hv4.out.ext EN).ext E') oS (by omega) (by omega) (by omega))
      have HP := hid hP
      clear hP
      go_wp2_with fail
      refine wp_region_ph [.k (.pointer (some ⟨bt, 0, none⟩)), .k (.int .i64 i), .k (.agg #[.slice a1 C.length k1, .slice a2 O.length k2]), .k (vl), .k (.int .i64 i), .t (.int .i64 0) (fun v w' => w'.ownsRow wo.heap.size 62 2 v (parP C O S i).length (cP (parP C O S i))), .t (.int .i64 0) (fun v w' => w'.ownsRow wo.heap.size 62 2 v (parP C O S i).length (cP (parP C O S i))), .p (fun v w' => w'.ownsRow wo.heap.size 62 2 v (parP C O S i).length (cP (parP C O S i))), .k (.int .i64 0), .k (.pointer (some ⟨bt, 0, none⟩)), .k (.pointer (some ⟨bt, 2, none⟩)), .k (.pointer (some ⟨bt, 2 + i, none⟩))] [8] (by kernel_rfl) (by kernel_rfl) (by kernel_rfl) rfl rfl ?hs ?hC ?he
      case hC =>
        intro i hi
        simp only [List.mem_cons, List.not_mem_nil, or_false] at hi
        subst hi
        all_goals (
          intro o u ho hu
          simp [RS.k, RS.p, RS.t, RS.any] at ho hu
          subst ho; subst hu
          refine ⟨rfl, fun x w2 hd w3 => ?_⟩
          simp [PhDeps, at_k, at_p, at_t, at_any, Region.binds] at hd
          try ((with_reducible refine Exists.elim hd ?_); clear hd; intro y hd; obtain ⟨hd, hG⟩ := hd)
          simp [frL, hd, List.take_succ_cons, execOp, Act.eval, Frame.eval, Instr.extract])
      case hs =>
        refine ⟨?_, ?_, ?_, ?_, ?_, ?_, ?_, ?_, ?_, ?_, ?_, ?_, trivial⟩
        all_goals (
          intro x w' hE hd
          try simp [PhDeps, at_k, at_p, at_t, at_any, Region.binds] at hd
          try ((with_reducible refine Exists.elim hd ?_); clear hd; intro y hd; obtain ⟨hd, hG⟩ := hd)
          have d1 := hE.cell xm.1
          have d2 := hE.cell xm.2.1
          first | simp only [frL, List.length_cons, List.length_nil, List.take_succ_cons, List.take_zero, Nat.reduceAdd, Nat.zero_add, List.setIfInBounds_toArray, List.set_cons_zero, List.set_cons_succ, hd] | simp only [frL, List.length_cons, List.length_nil, List.take_succ_cons, List.take_zero, Nat.reduceAdd, Nat.zero_add, List.setIfInBounds_toArray, List.set_cons_zero, List.set_cons_succ]
          go_wp2_with (first | (go_at_call 126; refine (PK.out _ hE).mono ?_; rintro e wa ⟨y, rfl, hy, hea⟩))
          all_goals first
            | ((with_reducible refine phK ?_ ?_); (focus rfl); (repeat (first | (with_reducible assumption) | (with_reducible exact Ext.refl _) | (with_reducible refine Ext.drew ?_) | (with_reducible refine Ext.drewN ?_ _) | (with_reducible refine Ext.alloc ?_ _) | (with_reducible refine Ext.trans ?_ (by with_reducible assumption)))))
            | (exact phTN rfl (own_base hy hE.size') hE hea)
            | ((with_reducible refine phT rfl hG ?_); (repeat (first | (with_reducible assumption) | (with_reducible exact Ext.refl _) | (with_reducible refine Ext.drew ?_) | (with_reducible refine Ext.drewN ?_ _) | (with_reducible refine Ext.alloc ?_ _) | (with_reducible refine Ext.trans ?_ (by with_reducible assumption)))))
            | ((with_reducible refine phU hG ?_); (repeat (first | (with_reducible assumption) | (with_reducible exact Ext.refl _) | (with_reducible refine Ext.drew ?_) | (with_reducible refine Ext.drewN ?_ _) | (with_reducible refine Ext.alloc ?_ _) | (with_reducible refine Ext.trans ?_ (by with_reducible assumption)))))
            | (with_reducible exact phBox hE)
            | (with_reducible exact phRow hE))
      case he =>
        intro x w4 E4 hd
        simp [PhEnd, at_k, at_p, at_t] at hd
        obtain ⟨e0, e1, e2, e3, e4, ⟨y5, e5, _⟩, ⟨y6, e6, _⟩, ⟨w5, _, g2, hX⟩, e8, e9, e10, e11⟩ := hd
        have oX := own_ext hX g2
        obtain ⟨aX, cX, e7⟩ := own_form oX
        rw [e7] at oX
        have HP4 := HP.out.ext E4
        obtain ⟨ci, fi⟩ := HP4.cellI hi4
        have HPN := HP4.set hi4 (own_base oX (Nat.zero_le _))
        rw [until_step] at HPN
        have ES := (EN.trans E4).setCell (p := ⟨bt, 2 + i, none⟩) hb3 (.slice aX (parP C O S i).length cX)
        have EW := (E.trans E4).setCell (p := ⟨bt, 2 + i, none⟩) hbt (.slice aX (parP C O S i).length cX)
        have HPN := hid HPN
        simp only [frL, List.length_cons, List.length_nil, List.take_succ_cons, List.take_zero, Nat.reduceAdd, Nat.zero_add, List.setIfInBounds_toArray, List.set_cons_zero, List.set_cons_succ, e0, e1, e2, e3, e4, e5, e6, e7, e8, e9, e10, e11, List.length_cons, List.length_nil, List.drop_succ_cons, List.drop_zero]
        clear e0 e1 e2 e3 e4 e5 e6 e7 e8 e9 e10 e11 oX hX g2 HP4 PK
        go_wp2
        go_roundw
        case rel => exact ⟨i + 1, _, by omega, by go_num, HPN.out, ES, EW⟩
        case measure => simp [intOf] <;> omega
    · obtain rfl : i = 4 := by omega
      have HP := hid (hP.congr (until_all _))
      clear hP
      go_wp2
      go_ret2
      exact ⟨bt, _, _, _, rT2 rfl rfl, hbt, HNO.out, HP.out, E⟩
end Go.Proofs.YtddghaoejnbkaaaGreatDoor
