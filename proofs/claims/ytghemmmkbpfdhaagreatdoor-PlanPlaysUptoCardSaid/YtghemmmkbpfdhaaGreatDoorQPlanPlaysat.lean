/- Contracts and lemmas for the proof of PlanPlays; each theorem states its own conditions. -/
import Derived.Test.YtghemmmkbpfdhaaGreatDoorQPlanPlaysap
import Derived.Test.YtghemmmkbpfdhaaGreatDoorQPlanPlaysar
import Derived.Test.YtghemmmkbpfdhaaGreatDoorQPlanPlaysas
import Derived.Test.YtghemmmkbpfdhaaGreatDoorQPlanPlaysac
import Derived.Test.YtghemmmkbpfdhaaGreatDoorQPlanPlaysad
import Derived.Test.YtghemmmkbpfdhaaGreatDoorQPlanPlaysaj
import Derived.Deep.RegionHeld3
set_option linter.unusedVariables false
set_option linter.unusedSimpArgs false
/- Contracts and lemmas for the proofs of this seat; each theorem states its own conditions. -/
namespace Go.Proofs.YtghemmmkbpfdhaaGreatDoor
open Go.RowKit Go.Maps
/-! the lock table, in memory -/
/-- the keys of a deed, in order, each once -/
def tkL (d : Ops) : List ByteArray := sortU (sortU (rds d) ++ sortU (wrs d))
theorem tkL_mem (d : Ops) (k : ByteArray) : k ∈ tkL d ↔ tchB d k = true := by
  rw [tkL, sortU_mem, List.mem_append, sortU_mem, sortU_mem, tchB_iff]
structure LockSt (w : World) (B bt bk bd : Nat) (A : List Ops) (g : Nat → Bool) (F : ByteArray → Option SV) (G : Int → Option SV) : Prop where
  hBt : B ≤ bt
  hBk : B ≤ bk
  hBd : B ≤ bd
  ne : bk ≠ bd
  box : w.heap[bt]? = some (.cells #[.map (some bk), .map (some bd), .int .i64 A.length] 123 (0, 0))
  km : ∃ n D, w.ownsMap Tryz.prog 9 svElem bk n D ∧ n ≤ 32 * (A.length + (A.length - liveN g A.length)) ∧ MapF kS okS dV D F
  dm : ∃ n D, w.ownsMap Tryz.prog 3 svElem bd n D ∧ n ≤ A.length ∧ MapF kI okI dV D G ∧ size D = liveN g A.length
  keys : ∀ k, w.ownsRow B 130 2 (svV ((F k).getD none)) (clmTo A g k A.length).length (cK (clmTo A g k A.length))
  apart : ∀ k k' s s', k ≠ k' → F k = some s → F k' = some s' → (svV s).ownBlock = none ∨ (svV s).ownBlock ≠ (svV s').ownBlock
  rows : ∀ n : Nat, n < A.length → g n = false → ∃ s, G (n : Int) = some s ∧ w.ownsRow B 9 1 (svV s) (tkL (A.getD n [])).length (cS (tkL (A.getD n [])))
  nones : ∀ z : Int, (∀ n : Nat, z = (n : Int) → n < A.length → g n = false → False) → G z = none
  later : ∀ n, A.length ≤ n → g n = false
  few : A.length ≤ 60
  dok : ∀ d ∈ A, DeedOk d
theorem LockSt.ext {w w' : World} {B bt bk bd : Nat} {A : List Ops} {g : Nat → Bool} {F : ByteArray → Option SV} {G : Int → Option SV} (h : LockSt w B bt bk bd A g F G) (E : Ext w w') : LockSt w' B bt bk bd A g F G where
  hBt := h.hBt
  hBk := h.hBk
  hBd := h.hBd
  ne := h.ne
  box := E.heap h.box
  km := by obtain ⟨n, D, a, b⟩ := h.km; exact ⟨n, D, ownsMap_ext a E, b⟩
  dm := by obtain ⟨n, D, a, b⟩ := h.dm; exact ⟨n, D, ownsMap_ext a E, b⟩
  keys := fun k => own_ext (h.keys k) E
  apart := h.apart
  rows := fun n a b => by obtain ⟨s, e, o⟩ := h.rows n a b; exact ⟨s, e, own_ext o E⟩
  nones := h.nones
  later := h.later
  few := h.few
  dok := h.dok
/-- what a table may turn: itself, its maps, its rows of claims -/
def TFr (B bt bk bd : Nat) (w w' : World) : Prop :=
  w'.os = w.os ∧ w'.tape = w.tape ∧ w'.output = w.output ∧ w.heap.size ≤ w'.heap.size ∧
  ∀ i, i < w.heap.size → w'.heap[i]? = w.heap[i]? ∨ (B ≤ i ∧ (i = bt ∨ i = bk ∨ i = bd ∨ ∃ cs, w.heap[i]? = some (.cells cs 130 (0, 0))))
theorem TFr.of_ext {B bt bk bd : Nat} {w w' : World} (E : Ext w w') : TFr B bt bk bd w w' := ⟨E.os, E.tape, E.output, E.size', fun i hi => .inl (Below.block E i hi)⟩
theorem TFr.refl {B bt bk bd : Nat} (w : World) : TFr B bt bk bd w w := TFr.of_ext (Ext.refl w)
theorem TFr.trans {B bt bk bd : Nat} {a b c : World} (h : TFr B bt bk bd a b) (k : TFr B bt bk bd b c) : TFr B bt bk bd a c := by
  obtain ⟨h1, h2, h3, h4, h5⟩ := h
  obtain ⟨k1, k2, k3, k4, k5⟩ := k
  refine ⟨k1.trans h1, k2.trans h2, k3.trans h3, Nat.le_trans h4 k4, fun i hi => ?_⟩
  rcases h5 i hi with e | e
  · rcases k5 i (by omega) with e' | ⟨e1, e'⟩
    · exact .inl (e'.trans e)
    · refine .inr ⟨e1, ?_⟩
      rcases e' with e' | e' | e' | ⟨cs, e'⟩
      · exact .inl e'
      · exact .inr (.inl e')
      · exact .inr (.inr (.inl e'))
      · exact .inr (.inr (.inr ⟨cs, by rw [← e]; exact e'⟩))
  · exact .inr e
/-- below the table nothing turns -/
theorem TFr.low {B bt bk bd : Nat} {w0 w w' : World} (h : TFr B bt bk bd w w') (E : Ext w0 w) (hB : w0.heap.size ≤ B) : Ext w0 w' := by
  obtain ⟨h1, h2, h3, h4, h5⟩ := h
  have hs := E.size'
  refine ⟨h1.trans E.os, h2.trans E.tape, h3.trans E.output, by omega, fun i hi => ?_⟩
  rcases h5 i (by omega) with e | ⟨e, _⟩
  · exact e.trans (Below.block E i hi)
  · omega
/-- rows of other elements stand -/
theorem TFr.own {B bt bk bd : Nat} {w w' : World} (h : TFr B bt bk bd w w') {A : List Ops} {g : Nat → Bool} {F : ByteArray → Option SV} {G : Int → Option SV} (hl : LockSt w B bt bk bd A g F G) {B' e sz n : Nat} {v : Value} {xs : List Value} (ho : w.ownsRow B' e sz v n xs) (h1 : e ≠ 130) (h2 : e ≠ 123) : w'.ownsRow B' e sz v n xs := by
  refine ⟨ho.1, ?_⟩
  rcases ho.2 with hn | ⟨b, cap, cur, rfl, hb, hg, rest⟩
  · exact .inl hn
  · right
    refine ⟨b, cap, cur, rfl, hb, ?_, rest⟩
    rcases h.2.2.2.2 b (Array.getElem?_eq_some_iff.1 hg).1 with e' | ⟨_, e' | e' | e' | ⟨cs, e'⟩⟩
    · rw [e']; exact hg
    · subst e'; rw [hl.box] at hg; injection hg with hg; injection hg with _ hg; exact absurd hg.symm h2
    · subst e'
      obtain ⟨n, D, ⟨es, clock, hm, _⟩, _⟩ := hl.km
      rw [hm] at hg; cases hg
    · subst e'
      obtain ⟨n, D, ⟨es, clock, hm, _⟩, _⟩ := hl.dm
      rw [hm] at hg; cases hg
    · rw [e'] at hg; injection hg with hg; injection hg with _ hg; exact absurd hg.symm h1
theorem lawStr : Keyed Tryz.prog 9 := string_keyed Tryz.underlying9
theorem lawInt : Keyed Tryz.prog 3 := int_keyed Tryz.underlying3
theorem lock_new (w : World) : LockSt ((((w.alloc (.map #[] 0)).alloc (.map #[] 0))).alloc (.cells #[.map (some w.heap.size), .map (some (w.heap.size + 1)), .int .i64 0] 123)) w.heap.size (w.heap.size + 2) w.heap.size (w.heap.size + 1) [] (fun _ => false) (fun _ => none) (fun _ => none) where
  hBt := by omega
  hBk := by omega
  hBd := by omega
  ne := by omega
  box := by
    have := heap_alloc_new ((w.alloc (.map #[] 0)).alloc (.map #[] 0)) (.cells #[.map (some w.heap.size), .map (some (w.heap.size + 1)), .int .i64 0] 123)
    simpa using this
  km := ⟨0, .map [], ((World.ownsMap_made w _ _ _).alloc _).alloc _, by simp, MapF.empty⟩
  dm := ⟨0, .map [], by
    have := (World.ownsMap_made (w.alloc (.map #[] 0)) Tryz.prog 3 svElem).alloc (.cells #[.map (some w.heap.size), .map (some (w.heap.size + 1)), .int .i64 0] 123)
    simpa using this, by simp, MapF.empty, rfl⟩
  keys := fun k => World.ownsRow_nil _ _ _ _
  apart := fun k k' s s' _ h => by cases h
  rows := fun n h => by simp at h
  nones := fun _ _ => rfl
  later := fun _ _ => rfl
  few := by simp
  dok := by simp
end Go.Proofs.YtghemmmkbpfdhaaGreatDoor

/- Contracts and lemmas for the proofs of this seat; each theorem states its own conditions. -/
namespace Go.Proofs.YtghemmmkbpfdhaaGreatDoor
open Go.RowKit
set_option maxRecDepth 10000 in
theorem bsearch_any (v : Value) (ks : List ByteArray) (t : ByteArray) (w : World) (hv : Seg w v 1 ks.length (cS ks)) (hd : dropsB (bltAt ks t) ks.length) (hn : ks.length < 1000000000) :
    Calls Tryz.prog 88 #[v, .string t] w fun e w' => ∃ i : Nat, cutAt (bltAt ks t) ks.length i ∧ e = .returned (.tuple #[.int .i64 i, .bool (hitS ks t i)]) ∧ w = w' := by
  obtain ⟨h0, a, cap, rfl, h1, h2, h3⟩ := hv
  unfold maxLen at h2
  go_enter Tryz.func88, Tryz.ntmps88
  go_wp2
  go_loop [7, 8, 9] (fun x y _ => ∃ i j : Nat, x = .int .i64 i ∧ y = .int .i64 j ∧ bsInv (bltAt ks t) ks.length i j) (fun x y _ => (intOf y).toNat - (intOf x).toNat)
  case atStart => exact ⟨0, ks.length, rfl, rfl, bsInv_start _ _⟩
  case round =>
    obtain ⟨i, j, rfl, rfl, hinv⟩ := hrel
    have hij := hinv.1
    have hjn := hinv.2.1
    by_cases hlt : i < j
    · obtain ⟨b, off, rfl, hc⟩ := h3 (by omega)
      have c1 := hc _ _ (cS_at0 ks ((i + j) / 2) (by omega))
      clear hc h3
      have he := bltAt_eq (ks := ks) (t := t) (i := (i + j) / 2) (by omega)
      cases hb : blt (ks[(i + j) / 2]'(by omega)) t with
      | true =>
        have hs := bsInv_up hd hinv hlt (by rw [he, hb])
        clear he
        go_wp2_with fail
        refine (less_any _ _ _).mono ?_
        rintro e w' ⟨rfl, rfl⟩
        go_wp2
        go_round
        case rel => exact ⟨(i + j) / 2 + 1, j, by go_num, rfl, hs⟩
        case measure => simp [intOf]; omega
      | false =>
        have hs := bsInv_down hd hinv hlt (by rw [he, hb])
        clear he
        go_wp2_with fail
        refine (less_any _ _ _).mono ?_
        rintro e w' ⟨rfl, rfl⟩
        go_wp2
        go_round
        case rel => exact ⟨i, (i + j) / 2, rfl, by go_num, hs⟩
        case measure => simp [intOf]; omega
    · obtain rfl : i = j := by omega
      by_cases hin : i < ks.length
      · obtain ⟨b, off, rfl, hc⟩ := h3 (by omega)
        have c1 := hc _ _ (cS_at0 ks i hin)
        clear hc h3
        have he := hitS_eq (ks := ks) (t := t) hin
        cases hb : ks[i].toList == t.toList with
        | true =>
          go_wp2
          go_ret2
          exact ⟨i, bsInv_end hinv, rT2 rfl (vB (he.trans hb).symm), rfl⟩
        | false =>
          go_wp2
          go_ret2
          exact ⟨i, bsInv_end hinv, rT2 rfl (vB (he.trans hb).symm), rfl⟩
      · go_wp2
        go_ret2
        exact ⟨i, bsInv_end hinv, rT2 rfl (vB (hitS_out hin).symm), rfl⟩
end Go.Proofs.YtghemmmkbpfdhaaGreatDoor

/- Contracts and lemmas for the proofs of this seat; each theorem states its own conditions. -/
namespace Go.Proofs.YtghemmmkbpfdhaaGreatDoor
open Go.RowKit
/-- v is a map with these cuts and owners -/
def IsMap (w : World) (v : Value) (cuts : List ByteArray) (owners : List Int) : Prop :=
  ∃ c o, v = .agg #[c, o] ∧ Seg w c 1 cuts.length (cS cuts) ∧ Seg w o 1 owners.length (cI owners)
theorem IsMap.ext {w w' : World} {v : Value} {cuts : List ByteArray} {owners : List Int} (h : IsMap w v cuts owners) (k : Ext w w') : IsMap w' v cuts owners := by
  obtain ⟨c, o, h1, h2, h3⟩ := h
  exact ⟨c, o, h1, h2.ext k, h3.ext k⟩
theorem IsMap.unpack {w : World} {v : Value} {cuts : List ByteArray} {owners : List Int} (h : IsMap w v cuts owners) :
    ∃ a k a' k', v = .agg #[.slice a cuts.length k, .slice a' owners.length k'] ∧ Seg w (.slice a cuts.length k) 1 cuts.length (cS cuts) ∧ Seg w (.slice a' owners.length k') 1 owners.length (cI owners) := by
  obtain ⟨c, o, rfl, h1, h2⟩ := h
  obtain ⟨a, k, rfl⟩ := seg_form h1
  obtain ⟨a', k', rfl⟩ := seg_form h2
  exact ⟨a, k, a', k', rfl, h1, h2⟩
/-- a map of the call's own -/
def OwnMap (w : World) (B : Nat) (v : Value) (cuts : List ByteArray) (owners : List Int) : Prop :=
  ∃ c o, v = .agg #[c, o] ∧ w.ownsRow B 9 1 c cuts.length (cS cuts) ∧ w.ownsRow B 3 1 o owners.length (cI owners)
theorem OwnMap.is {w : World} {B : Nat} {v : Value} {cuts : List ByteArray} {owners : List Int} (h : OwnMap w B v cuts owners) : IsMap w v cuts owners := by
  obtain ⟨c, o, h1, h2, h3⟩ := h
  exact ⟨c, o, h1, own_seg h2, own_seg h3⟩
set_option maxRecDepth 10000 in
theorem copied_any (v : Value) (cuts : List ByteArray) (owners : List Int) (w : World) (hv : IsMap w v cuts owners) (hc : cuts.length < 1000000000) (ho : owners.length < 1000000000) :
    Calls Tryz.prog 47 #[v] w fun e w' => ∃ v', e = .returned v' ∧ OwnMap w' w.heap.size v' cuts owners ∧ Ext w w' := by
  obtain ⟨c, o, rfl, h1, h2⟩ := hv
  go_enter Tryz.func47, Tryz.ntmps47
  go_wp2_with fail
  have rb0 : ((w.alloc (.cells #[c, o] 50)).alloc (.cells #[.slice none 0 0, .slice none 0 0] 50)).drew.heap[w.heap.size + 1]? = some (.cells #[.slice none 0 0, .slice none 0 0] 50 (0, 0)) := heap_2 _ _ _
  go_region_held3 (fun w' => w'.cell? ⟨w.heap.size, 0, none⟩ = some c ∧ w'.cell? ⟨w.heap.size, 1, none⟩ = some o ∧ Ext w w')
    (first
      | (refine ⟨by simp [go_sem], by simp [go_sem], ?_⟩; (repeat (first | (with_reducible assumption) | (with_reducible exact Ext.refl _) | (with_reducible refine Ext.drew ?_) | (with_reducible refine Ext.drewN ?_ _) | (with_reducible refine Ext.alloc ?_ _) | (with_reducible refine Ext.trans ?_ (by with_reducible assumption)))); done)
      | (exact keep2 (by assumption) he1)
      | (exact keep2s (keep2s (by assumption) (by simp) (by simp) (by simp)) (by simp) (by simp) (by simp)))
    (first
      | (go_at_call 80; refine (clone_Str c cuts.length (cS cuts) _ (h1.ext ?_) (cS_one _) (by omega)).mono ?_
         (apply And.right; apply And.right; assumption)
         rintro e w1 ⟨a1, k1, rfl, hc1, he1⟩
         have hE : Ext w w1 := Ext.trans (by apply And.right; apply And.right; assumption) he1
         have hz : w.heap.size + 2 ≤ w1.heap.size := by
           have := he1.size'
           first | (simp at this; omega) | omega
         have hc1 := own_base (B' := w.heap.size + 2) hc1 (by first | (simp; done) | (simp; omega) | omega)
         try (have hc2 := own_ext hc2 he1)
         have rb := he1.heap (by assumption : _ = some (.cells #[.slice none 0 0, .slice none 0 0] 50 (0, 0)))
         obtain ⟨r1, r2, r3, r4⟩ := blk2 rb)
      | (go_at_call 57; refine (clone_Int o owners.length (cI owners) _ (h2.ext ?_) (cI_one _) (by omega)).mono ?_
         (apply And.right; apply And.right; assumption)
         rintro e w1 ⟨a2, k2, rfl, hc2, he1⟩
         have hE : Ext w w1 := Ext.trans (by apply And.right; apply And.right; assumption) he1
         have hz : w.heap.size + 2 ≤ w1.heap.size := by
           have := he1.size'
           first | (simp at this; omega) | omega
         have hc2 := own_base (B' := w.heap.size + 2) hc2 (by first | (simp; done) | (simp; omega) | omega)
         try (have hc1 := own_ext hc1 he1)
         have rb := he1.heap (by assumption : _ = some (.cells #[.slice none 0 0, .slice none 0 0] 50 (0, 0)))
         obtain ⟨r1, r2, r3, r4⟩ := blk2 rb))
  all_goals
    have rB := blk2 (blk2_set2 (u := .slice a1 cuts.length k1) (v := .slice a2 owners.length k2) rb)
    have ho1 := own_set2 (p := ⟨w.heap.size + 1, 0, none⟩) (q := ⟨w.heap.size + 1, 1, none⟩) (u := .slice a1 cuts.length k1) (u' := .slice a2 owners.length k2) hc1 (by simp) (by simp)
    have ho2 := own_set2 (p := ⟨w.heap.size + 1, 0, none⟩) (q := ⟨w.heap.size + 1, 1, none⟩) (u := .slice a1 cuts.length k1) (u' := .slice a2 owners.length k2) hc2 (by simp) (by simp)
    have hx : Ext w ((w1.setCell ⟨w.heap.size + 1, 0, none⟩ (.slice a1 cuts.length k1)).setCell ⟨w.heap.size + 1, 1, none⟩ (.slice a2 owners.length k2)) := by
      exact Ext.setCell (Ext.setCell hE (by simp) _) (by simp) _
    go_wp2
    refine bodyPost_ret (v := .agg #[.slice a1 cuts.length k1, .slice a2 owners.length k2]) (by simp [results, Tryz.results47, go_sem, rB.1, rB.2.1]) rfl ⟨_, rfl, ⟨_, _, rfl, own_base ho1 (by omega), own_base ho2 (by omega)⟩, hx⟩
end Go.Proofs.YtghemmmkbpfdhaaGreatDoor

/- Contracts and lemmas for the proofs of this seat; each theorem states its own conditions. -/
namespace Go.Proofs.YtghemmmkbpfdhaaGreatDoor
open Go.RowKit
/-- whose a key is -/
def whose (cuts : List ByteArray) (owners : List Int) (key : ByteArray) : Int := owners.getD (idx (leAt cuts key) cuts.length) 0
theorem whose_of {cuts : List ByteArray} {owners : List Int} {key : ByteArray} {i : Nat} (hs : srt cuts) (h : cutAt (bltAt cuts key) cuts.length i) : whose cuts owners key = owners.getD (if hitS cuts key i then i + 1 else i) 0 := by
  unfold whose; rw [idx_spec _ _ _ (cut_le hs h)]
set_option maxRecDepth 10000 in
theorem of_any (v : Value) (cuts : List ByteArray) (owners : List Int) (key : ByteArray) (w : World) (hv : IsMap w v cuts owners) (hs : srt cuts) (hl : owners.length = cuts.length + 1) (hn : cuts.length < 1000000) :
    Calls Tryz.prog 55 #[v, .string key] w fun e w' => e = .returned (.int .i64 (whose cuts owners key)) ∧ Ext w w' := by
  obtain ⟨c, o, rfl, h1, h2⟩ := hv
  have HL := (show Hid (owners.length = cuts.length + 1) from hl)
  clear hl
  obtain ⟨h20, a2, k2, rfl, h21, h22, h23⟩ := h2
  unfold maxLen at h22
  have hl1 : cuts.length + 1 ≤ owners.length := by have := HL.out; omega
  obtain ⟨b, off, rfl, hc⟩ := h23 (by omega)
  go_enter Tryz.func55, Tryz.ntmps55
  go_wp2_with fail
  refine (bsearch_any c cuts key _ (h1.ext (by (repeat (first | (with_reducible assumption) | (with_reducible exact Ext.refl _) | (with_reducible refine Ext.drew ?_) | (with_reducible refine Ext.drewN ?_ _) | (with_reducible refine Ext.alloc ?_ _) | (with_reducible refine Ext.trans ?_ (by with_reducible assumption)))))) (dropsB_blt hs key) (by omega)).mono ?_
  rintro e w' ⟨i, hi, rfl, rfl⟩
  have hw := whose_of (owners := owners) hs hi
  have hin := hi.1
  cases hh : hitS cuts key i with
  | true =>
    have hi1 : i < cuts.length := by
      by_cases h : i < cuts.length
      · exact h
      · rw [hitS_out h] at hh; cases hh
    have hc1 := hc _ _ (cI_at0 owners (i + 1) (by omega))
    rw [hh, if_pos rfl] at hw
    have HW := (show Hid (whose cuts owners key = _) from hw)
    clear hw hc h23
    have hc2 : ((w.alloc (.cells #[c, .slice (some ⟨b, off, none⟩) owners.length k2] 50))).cell? ⟨b, off + (i + 1), none⟩ = some (.int .i64 (owners[i + 1]'(by omega))) := ((Ext.refl w).alloc _).cell hc1
    go_wp2
    go_ret
    exact ⟨rI (by rw [HW.out]; simp [show i + 1 < owners.length by omega]), by (repeat (first | (with_reducible assumption) | (with_reducible exact Ext.refl _) | (with_reducible refine Ext.drew ?_) | (with_reducible refine Ext.drewN ?_ _) | (with_reducible refine Ext.alloc ?_ _) | (with_reducible refine Ext.trans ?_ (by with_reducible assumption))))⟩
  | false =>
    have hc1 := hc _ _ (cI_at0 owners i (by omega))
    rw [hh, if_neg (by simp)] at hw
    have HW := (show Hid (whose cuts owners key = _) from hw)
    clear hw hc h23
    have hc2 : ((w.alloc (.cells #[c, .slice (some ⟨b, off, none⟩) owners.length k2] 50))).cell? ⟨b, off + i, none⟩ = some (.int .i64 (owners[i]'(by omega))) := ((Ext.refl w).alloc _).cell hc1
    go_wp2
    go_ret
    exact ⟨rI (by rw [HW.out]; simp [show i < owners.length by omega]), by (repeat (first | (with_reducible assumption) | (with_reducible exact Ext.refl _) | (with_reducible refine Ext.drew ?_) | (with_reducible refine Ext.drewN ?_ _) | (with_reducible refine Ext.alloc ?_ _) | (with_reducible refine Ext.trans ?_ (by with_reducible assumption))))⟩
/-- P22 -/
def cutOk (cuts : List ByteArray) (i : Nat) : Bool := keyB (kAt cuts i) && (i == 0 || blt (kAt cuts (i - 1)) (kAt cuts i))
def ownOk (owners : List Int) (i : Nat) : Bool := decide (0 ≤ owners.getD i 0) && decide (owners.getD i 0 < 4)
def mapErr (cuts : List ByteArray) (owners : List Int) : Int :=
  if 12 < cuts.length then 2 else if owners.length ≠ cuts.length + 1 then 3
  else if (List.range cuts.length).all (cutOk cuts) then (if (List.range owners.length).all (ownOk owners) then 0 else 1) else 3
structure MapOk (cuts : List ByteArray) (owners : List Int) : Prop where
  few : cuts.length ≤ 12
  len : owners.length = cuts.length + 1
  cut : allTo (cutOk cuts) cuts.length
  own : allTo (ownOk owners) owners.length
theorem MapOk.srt {cuts : List ByteArray} {owners : List Int} (h : MapOk cuts owners) : srt cuts := srt_adj fun i hi => by
  have := h.cut (i + 1) hi
  simp [cutOk] at this
  exact this.2
theorem mapErr_ok {cuts : List ByteArray} {owners : List Int} (h : MapOk cuts owners) : mapErr cuts owners = 0 := by
  unfold mapErr
  rw [if_neg (by have := h.few; omega), if_neg (by simp [h.len]), if_pos (all_true h.cut), if_pos (all_true h.own)]
theorem ok_of_mapErr {cuts : List ByteArray} {owners : List Int} (h : mapErr cuts owners = 0) : MapOk cuts owners := by
  unfold mapErr at h
  split at h
  · cases h
  · rename_i h1
    split at h
    · cases h
    · rename_i h2
      split at h
      · rename_i h3
        split at h
        · rename_i h4
          exact ⟨by omega, by simpa using h2, allTo_of h3, allTo_of h4⟩
        · cases h
      · cases h
end Go.Proofs.YtghemmmkbpfdhaaGreatDoor
