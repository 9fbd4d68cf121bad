/- Contracts and lemmas for the proof of TopLog; each theorem states its own conditions. -/
import Derived.Test.YtddghaoejnbkaaaGreatDoorQTopLogaf
import Derived.Deep.RegionHeld3
import Derived.Test.YtddghaoejnbkaaaGreatDoorProg
import Derived.Test.YtddghaoejnbkaaaGreatDoorQTopLogad
import Derived.WalkSpells
import Derived.WalkLawsBesides
import Derived.Laws.StructEq
import Derived.Deep.QuietTactic
import Derived.BigQuiet
import Derived.Deep.Cut
set_option linter.unusedVariables false
set_option linter.unusedSimpArgs false
/- Contracts and lemmas for the proofs of this seat; each theorem states its own conditions. -/
namespace Go.Proofs.YtddghaoejnbkaaaGreatDoor
open Go.RowKit
/-- v is a map with these cuts and owners -/
def IsMap (w : World) (v : Value) (cuts : List ByteArray) (owners : List Int) : Prop :=
  ∃ c o, v = .agg #[c, o] ∧ Seg w c 1 cuts.length (cS cuts) ∧ Seg w o 1 owners.length (cI owners)
theorem IsMap.ext {w w' : World} {v : Value} {cuts : List ByteArray} {owners : List Int} (h : IsMap w v cuts owners) (k : Ext w w') : IsMap w' v cuts owners := by
  obtain ⟨c, o, h1, h2, h3⟩ := h
  exact ⟨c, o, h1, h2.ext k, h3.ext k⟩
theorem IsMap.unpack {w : World} {v : Value} {cuts : List ByteArray} {owners : List Int} (h : IsMap w v cuts owners) :
    ∃ a k a' k', v = .agg #[.slice a cuts.length k, .slice a' owners.length k'] ∧ Seg w (.slice a cuts.length k) 1 cuts.length (cS cuts) ∧ Seg w (.slice a' owners.length k') 1 owners.length (cI owners) := by
  obtain ⟨c, o, rfl, h1, h2⟩ := h
  obtain ⟨a, k, rfl⟩ := seg_form h1
  obtain ⟨a', k', rfl⟩ := seg_form h2
  exact ⟨a, k, a', k', rfl, h1, h2⟩
/-- a map of the call's own -/
def OwnMap (w : World) (B : Nat) (v : Value) (cuts : List ByteArray) (owners : List Int) : Prop :=
  ∃ c o, v = .agg #[c, o] ∧ w.ownsRow B 9 1 c cuts.length (cS cuts) ∧ w.ownsRow B 3 1 o owners.length (cI owners)
theorem OwnMap.is {w : World} {B : Nat} {v : Value} {cuts : List ByteArray} {owners : List Int} (h : OwnMap w B v cuts owners) : IsMap w v cuts owners := by
  obtain ⟨c, o, h1, h2, h3⟩ := h
  exact ⟨c, o, h1, own_seg h2, own_seg h3⟩
set_option maxRecDepth 10000 in
theorem copied_any (v : Value) (cuts : List ByteArray) (owners : List Int) (w : World) (hv : IsMap w v cuts owners) (hc : cuts.length < 1000000000) (ho : owners.length < 1000000000) :
    Calls Tryz.prog 119 #[v] w fun e w' => ∃ v', e = .returned v' ∧ OwnMap w' w.heap.size v' cuts owners ∧ Ext w w' := by
  obtain ⟨c, o, rfl, h1, h2⟩ := hv
  go_enter Tryz.func119, Tryz.ntmps119
  go_wp2_with fail
  have rb0 : ((w.alloc (.cells #[c, o] 34)).alloc (.cells #[.slice none 0 0, .slice none 0 0] 34)).drew.heap[w.heap.size + 1]? = some (.cells #[.slice none 0 0, .slice none 0 0] 34 (0, 0)) := heap_2 _ _ _
  go_region_held3 (fun w' => w'.cell? ⟨w.heap.size, 0, none⟩ = some c ∧ w'.cell? ⟨w.heap.size, 1, none⟩ = some o ∧ Ext w w')
    (first
      | (refine ⟨by simp [go_sem], by simp [go_sem], ?_⟩; (repeat (first | (with_reducible assumption) | (with_reducible exact Ext.refl _) | (with_reducible refine Ext.drew ?_) | (with_reducible refine Ext.drewN ?_ _) | (with_reducible refine Ext.alloc ?_ _) | (with_reducible refine Ext.trans ?_ (by with_reducible assumption)))); done)
      | (exact keep2 (by assumption) he1)
      | (exact keep2s (keep2s (by assumption) (by simp) (by simp) (by simp)) (by simp) (by simp) (by simp)))
    (first
      | (go_at_call 64; refine (clone_Str c cuts.length (cS cuts) _ (h1.ext ?_) (cS_one _) (by omega)).mono ?_
         (apply And.right; apply And.right; assumption)
         rintro e w1 ⟨a1, k1, rfl, hc1, he1⟩
         have hE : Ext w w1 := Ext.trans (by apply And.right; apply And.right; assumption) he1
         have hz : w.heap.size + 2 ≤ w1.heap.size := by
           have := he1.size'
           first | (simp at this; omega) | omega
         have hc1 := own_base (B' := w.heap.size + 2) hc1 (by first | (simp; done) | (simp; omega) | omega)
         try (have hc2 := own_ext hc2 he1)
         have rb := he1.heap (by assumption : _ = some (.cells #[.slice none 0 0, .slice none 0 0] 34 (0, 0)))
         obtain ⟨r1, r2, r3, r4⟩ := blk2 rb)
      | (go_at_call 65; refine (clone_Int o owners.length (cI owners) _ (h2.ext ?_) (cI_one _) (by omega)).mono ?_
         (apply And.right; apply And.right; assumption)
         rintro e w1 ⟨a2, k2, rfl, hc2, he1⟩
         have hE : Ext w w1 := Ext.trans (by apply And.right; apply And.right; assumption) he1
         have hz : w.heap.size + 2 ≤ w1.heap.size := by
           have := he1.size'
           first | (simp at this; omega) | omega
         have hc2 := own_base (B' := w.heap.size + 2) hc2 (by first | (simp; done) | (simp; omega) | omega)
         try (have hc1 := own_ext hc1 he1)
         have rb := he1.heap (by assumption : _ = some (.cells #[.slice none 0 0, .slice none 0 0] 34 (0, 0)))
         obtain ⟨r1, r2, r3, r4⟩ := blk2 rb))
  all_goals
    have rB := blk2 (blk2_set2 (u := .slice a1 cuts.length k1) (v := .slice a2 owners.length k2) rb)
    have ho1 := own_set2 (p := ⟨w.heap.size + 1, 0, none⟩) (q := ⟨w.heap.size + 1, 1, none⟩) (u := .slice a1 cuts.length k1) (u' := .slice a2 owners.length k2) hc1 (by simp) (by simp)
    have ho2 := own_set2 (p := ⟨w.heap.size + 1, 0, none⟩) (q := ⟨w.heap.size + 1, 1, none⟩) (u := .slice a1 cuts.length k1) (u' := .slice a2 owners.length k2) hc2 (by simp) (by simp)
    have hx : Ext w ((w1.setCell ⟨w.heap.size + 1, 0, none⟩ (.slice a1 cuts.length k1)).setCell ⟨w.heap.size + 1, 1, none⟩ (.slice a2 owners.length k2)) := by
      exact Ext.setCell (Ext.setCell hE (by simp) _) (by simp) _
    go_wp2
    refine bodyPost_ret (v := .agg #[.slice a1 cuts.length k1, .slice a2 owners.length k2]) (by simp [results, Tryz.results119, go_sem, rB.1, rB.2.1]) rfl ⟨_, rfl, ⟨_, _, rfl, own_base ho1 (by omega), own_base ho2 (by omega)⟩, hx⟩
end Go.Proofs.YtddghaoejnbkaaaGreatDoor

/- Contracts and lemmas for the proofs of this seat; each theorem states its own conditions. -/
namespace Go.Proofs.YtddghaoejnbkaaaGreatDoor
open Go.RowKit
/-- whose a key is -/
def whose (cuts : List ByteArray) (owners : List Int) (key : ByteArray) : Int := owners.getD (idx (leAt cuts key) cuts.length) 0
theorem whose_of {cuts : List ByteArray} {owners : List Int} {key : ByteArray} {i : Nat} (hs : srt cuts) (h : cutAt (bltAt cuts key) cuts.length i) : whose cuts owners key = owners.getD (if hitS cuts key i then i + 1 else i) 0 := by
  unfold whose; rw [idx_spec _ _ _ (cut_le hs h)]
set_option maxRecDepth 10000 in
theorem of_any (v : Value) (cuts : List ByteArray) (owners : List Int) (key : ByteArray) (w : World) (hv : IsMap w v cuts owners) (hs : srt cuts) (hl : owners.length = cuts.length + 1) (hn : cuts.length < 1000000) :
    Calls Tryz.prog 130 #[v, .string key] w fun e w' => e = .returned (.int .i64 (whose cuts owners key)) ∧ Ext w w' := by
  obtain ⟨c, o, rfl, h1, h2⟩ := hv
  have HL := (show Hid (owners.length = cuts.length + 1) from hl)
  clear hl
  obtain ⟨h20, a2, k2, rfl, h21, h22, h23⟩ := h2
  unfold maxLen at h22
  have hl1 : cuts.length + 1 ≤ owners.length := by have := HL.out; omega
  obtain ⟨b, off, rfl, hc⟩ := h23 (by omega)
  go_enter Tryz.func130, Tryz.ntmps130
  go_wp2_with fail
  refine (bsearch_any c cuts key _ (h1.ext (by (repeat (first | (with_reducible assumption) | (with_reducible exact Ext.refl _) | (with_reducible refine Ext.drew ?_) | (with_reducible refine Ext.drewN ?_ _) | (with_reducible refine Ext.alloc ?_ _) | (with_reducible refine Ext.trans ?_ (by with_reducible assumption)))))) (dropsB_blt hs key) (by omega)).mono ?_
  rintro e w' ⟨i, hi, rfl, rfl⟩
  have hw := whose_of (owners := owners) hs hi
  have hin := hi.1
  cases hh : hitS cuts key i with
  | true =>
    have hi1 : i < cuts.length := by
      by_cases h : i < cuts.length
      · exact h
      · rw [hitS_out h] at hh; cases hh
    have hc1 := hc _ _ (cI_at0 owners (i + 1) (by omega))
    rw [hh, if_pos rfl] at hw
    have HW := (show Hid (whose cuts owners key = _) from hw)
    clear hw hc h23
    have hc2 : ((w.alloc (.cells #[c, .slice (some ⟨b, off, none⟩) owners.length k2] 34))).cell? ⟨b, off + (i + 1), none⟩ = some (.int .i64 (owners[i + 1]'(by omega))) := ((Ext.refl w).alloc _).cell hc1
    go_wp2
    go_ret
    exact ⟨rI (by rw [HW.out]; simp [show i + 1 < owners.length by omega]), by (repeat (first | (with_reducible assumption) | (with_reducible exact Ext.refl _) | (with_reducible refine Ext.drew ?_) | (with_reducible refine Ext.drewN ?_ _) | (with_reducible refine Ext.alloc ?_ _) | (with_reducible refine Ext.trans ?_ (by with_reducible assumption))))⟩
  | false =>
    have hc1 := hc _ _ (cI_at0 owners i (by omega))
    rw [hh, if_neg (by simp)] at hw
    have HW := (show Hid (whose cuts owners key = _) from hw)
    clear hw hc h23
    have hc2 : ((w.alloc (.cells #[c, .slice (some ⟨b, off, none⟩) owners.length k2] 34))).cell? ⟨b, off + i, none⟩ = some (.int .i64 (owners[i]'(by omega))) := ((Ext.refl w).alloc _).cell hc1
    go_wp2
    go_ret
    exact ⟨rI (by rw [HW.out]; simp [show i < owners.length by omega]), by (repeat (first | (with_reducible assumption) | (with_reducible exact Ext.refl _) | (with_reducible refine Ext.drew ?_) | (with_reducible refine Ext.drewN ?_ _) | (with_reducible refine Ext.alloc ?_ _) | (with_reducible refine Ext.trans ?_ (by with_reducible assumption))))⟩
/-- P22 -/
def cutOk (cuts : List ByteArray) (i : Nat) : Bool := keyB (kAt cuts i) && (i == 0 || blt (kAt cuts (i - 1)) (kAt cuts i))
def ownOk (owners : List Int) (i : Nat) : Bool := decide (0 ≤ owners.getD i 0) && decide (owners.getD i 0 < 4)
def mapErr (cuts : List ByteArray) (owners : List Int) : Int :=
  if 12 < cuts.length then 2 else if owners.length ≠ cuts.length + 1 then 3
  else if (List.range cuts.length).all (cutOk cuts) then (if (List.range owners.length).all (ownOk owners) then 0 else 1) else 3
structure MapOk (cuts : List ByteArray) (owners : List Int) : Prop where
  few : cuts.length ≤ 12
  len : owners.length = cuts.length + 1
  cut : allTo (cutOk cuts) cuts.length
  own : allTo (ownOk owners) owners.length
theorem MapOk.srt {cuts : List ByteArray} {owners : List Int} (h : MapOk cuts owners) : srt cuts := srt_adj fun i hi => by
  have := h.cut (i + 1) hi
  simp [cutOk] at this
  exact this.2
theorem mapErr_ok {cuts : List ByteArray} {owners : List Int} (h : MapOk cuts owners) : mapErr cuts owners = 0 := by
  unfold mapErr
  rw [if_neg (by have := h.few; omega), if_neg (by simp [h.len]), if_pos (all_true h.cut), if_pos (all_true h.own)]
theorem ok_of_mapErr {cuts : List ByteArray} {owners : List Int} (h : mapErr cuts owners = 0) : MapOk cuts owners := by
  unfold mapErr at h
  split at h
  · cases h
  · rename_i h1
    split at h
    · cases h
    · rename_i h2
      split at h
      · rename_i h3
        split at h
        · rename_i h4
          exact ⟨by omega, by simpa using h2, allTo_of h3, allTo_of h4⟩
        · cases h
      · cases h
end Go.Proofs.YtddghaoejnbkaaaGreatDoor

/- Contracts and lemmas for the proofs of this seat; each theorem states its own conditions. -/
namespace Go.Proofs.YtddghaoejnbkaaaGreatDoor
open Go.RowKit
theorem cutOk_key {cuts : List ByteArray} {i : Nat} (hi : i < cuts.length) (h : keyB cuts[i] = false) : cutOk cuts i = false := by simp [cutOk, kAt_eq hi, h]
theorem cutOk_lt {cuts : List ByteArray} {i : Nat} (hi : i + 1 < cuts.length) (h : blt (cuts[i]'(by omega)) cuts[i + 1] = false) : cutOk cuts (i + 1) = false := by simp [cutOk, kAt_eq hi, kAt_eq (show i < cuts.length by omega), h]
theorem cutOk_yes {cuts : List ByteArray} {i : Nat} (hi : i + 1 < cuts.length) (hk : keyB cuts[i + 1] = true) (h : blt (cuts[i]'(by omega)) cuts[i + 1] = true) : cutOk cuts (i + 1) = true := by simp [cutOk, kAt_eq hi, kAt_eq (show i < cuts.length by omega), h, hk]
theorem cutOk_zero {cuts : List ByteArray} (hi : 0 < cuts.length) (hk : keyB cuts[0] = true) : cutOk cuts 0 = true := by simp [cutOk, kAt_eq hi, hk]
theorem mapErr_2 {cuts : List ByteArray} {owners : List Int} (h : 12 < cuts.length) : mapErr cuts owners = 2 := by simp [mapErr, h]
theorem mapErr_3 {cuts : List ByteArray} {owners : List Int} (h : ¬ 12 < cuts.length) (h' : owners.length ≠ cuts.length + 1) : mapErr cuts owners = 3 := by simp [mapErr, h, h']
theorem mapErr_cut {cuts : List ByteArray} {owners : List Int} (h : ¬ 12 < cuts.length) (h' : owners.length = cuts.length + 1) {i : Nat} (hi : i < cuts.length) (hf : cutOk cuts i = false) : mapErr cuts owners = 3 := by
  simp only [mapErr, if_neg h, h', ne_eq, not_true_eq_false, if_false, all_false hi hf]; simp
theorem mapErr_own {cuts : List ByteArray} {owners : List Int} (h : ¬ 12 < cuts.length) (h' : owners.length = cuts.length + 1) (hc : allTo (cutOk cuts) cuts.length) {i : Nat} (hi : i < owners.length) (hf : ownOk owners i = false) : mapErr cuts owners = 1 := by
  unfold mapErr
  rw [if_neg h, if_neg (by simp [h']), if_pos (all_true hc), if_neg (by rw [all_false hi hf]; simp)]
theorem ownOk_no {owners : List Int} {i : Nat} (hi : i < owners.length) (h : owners[i] < 0 ∨ 4 ≤ owners[i]) : ownOk owners i = false := by
  simp [ownOk, hi]; omega
theorem ownOk_yes {owners : List Int} {i : Nat} (hi : i < owners.length) (h : 0 ≤ owners[i]) (h' : owners[i] < 4) : ownOk owners i = true := by
  simp [ownOk, hi]; omega
set_option maxRecDepth 10000 in
set_option maxHeartbeats 400000 in
theorem mcheck_any (v : Value) (cuts : List ByteArray) (owners : List Int) (w : World) (hv : IsMap w v cuts owners) (hk : ∀ k ∈ cuts, k.size ≤ 9223372036854775807) :
    Calls Tryz.prog 116 #[v] w fun e w' => e = .returned (.int .i64 (mapErr cuts owners)) ∧ Ext w w' := by
  obtain ⟨c, o, rfl, h1, h2⟩ := hv
  obtain ⟨h10, a1, k1, rfl, h11, h12, h13⟩ := h1
  obtain ⟨h20, a2, k2, rfl, h21, h22, h23⟩ := h2
  unfold maxLen at h12 h22
  by_cases g1 : 12 < cuts.length
  · go_enter Tryz.func116, Tryz.ntmps116
    go_wp2
    go_ret
    exact ⟨rI (mapErr_2 g1).symm, by (repeat (first | (with_reducible assumption) | (with_reducible exact Ext.refl _) | (with_reducible refine Ext.drew ?_) | (with_reducible refine Ext.drewN ?_ _) | (with_reducible refine Ext.alloc ?_ _) | (with_reducible refine Ext.trans ?_ (by with_reducible assumption))))⟩
  by_cases g2 : owners.length = cuts.length + 1
  case neg =>
    have q : ((owners.length : Int) != (cuts.length : Int) + 1) = true := by rw [bne_iff_ne]; omega
    go_enter Tryz.func116, Tryz.ntmps116
    go_wp2
    go_ret
    exact ⟨rI (mapErr_3 g1 g2).symm, by (repeat (first | (with_reducible assumption) | (with_reducible exact Ext.refl _) | (with_reducible refine Ext.drew ?_) | (with_reducible refine Ext.drewN ?_ _) | (with_reducible refine Ext.alloc ?_ _) | (with_reducible refine Ext.trans ?_ (by with_reducible assumption))))⟩
  have q : ((owners.length : Int) != (cuts.length : Int) + 1) = false := by simp; omega
  have G2 := (show Hid (owners.length = cuts.length + 1) from g2)
  clear g2
  go_enter Tryz.func116, Tryz.ntmps116
  go_wp2
  go_loop [2, 3, 4, 22] (fun r _ _ i => ∃ k : Nat, k ≤ cuts.length ∧ i = .int .i64 k ∧ r = .int .i64 0 ∧ allTo (cutOk cuts) k) (fun _ _ _ i => cuts.length - (intOf i).toNat)
  case atStart => exact ⟨0, Nat.zero_le _, rfl, rfl, allTo_zero _⟩
  case round =>
    obtain ⟨k, hkl, rfl, rfl, hall⟩ := hrel
    by_cases hlt : k < cuts.length
    · obtain ⟨b, off, rfl, hc⟩ := h13 (by omega)
      have c1 := cell1 (hc _ _ (cS_at0 cuts k hlt))
      have hsz := hk cuts[k] (List.getElem_mem hlt)
      cases hkey : keyB cuts[k] with
      | false =>
        go_wp2_with fail
        refine (key_any _ _ hsz).mono ?_
        rintro e w' ⟨rfl, rfl⟩
        go_wp2
        go_ret
        exact ⟨rI (mapErr_cut g1 G2.out hlt (cutOk_key hlt hkey)).symm, by (repeat (first | (with_reducible assumption) | (with_reducible exact Ext.refl _) | (with_reducible refine Ext.drew ?_) | (with_reducible refine Ext.drewN ?_ _) | (with_reducible refine Ext.alloc ?_ _) | (with_reducible refine Ext.trans ?_ (by with_reducible assumption))))⟩
      | true =>
        cases k with
        | zero =>
          have hs := allTo_succ hall (cutOk_zero hlt hkey)
          simp only [Nat.add_zero] at c1
          clear hc h13
          go_wp2_with fail
          refine (key_any _ _ hsz).mono ?_
          rintro e w' ⟨rfl, rfl⟩
          go_wp2
          go_round
          case rel => exact ⟨1, by omega, by go_num, rfl, hs⟩
          case measure => simp [intOf]; omega
        | succ k =>
          have c2 := cell1 (hc _ _ (cS_at0 cuts k (by omega)))
          clear hc h13
          cases hb : blt (cuts[k]'(by omega)) cuts[k + 1] with
          | false =>
            have hb' : Op.bytesLess (cuts[k]'(by omega)).toList cuts[k + 1].toList = false := hb
            go_wp2_with fail
            refine (key_any _ _ hsz).mono ?_
            rintro e w' ⟨rfl, rfl⟩
            go_wp2
            go_ret
            exact ⟨rI (mapErr_cut g1 G2.out hlt (cutOk_lt hlt hb)).symm, by (repeat (first | (with_reducible assumption) | (with_reducible exact Ext.refl _) | (with_reducible refine Ext.drew ?_) | (with_reducible refine Ext.drewN ?_ _) | (with_reducible refine Ext.alloc ?_ _) | (with_reducible refine Ext.trans ?_ (by with_reducible assumption))))⟩
          | true =>
            have hb' : Op.bytesLess (cuts[k]'(by omega)).toList cuts[k + 1].toList = true := hb
            have hs := allTo_succ hall (cutOk_yes hlt hkey hb)
            go_wp2_with fail
            refine (key_any _ _ hsz).mono ?_
            rintro e w' ⟨rfl, rfl⟩
            go_wp2
            go_round
            case rel => exact ⟨k + 1 + 1, by omega, by go_num, rfl, hs⟩
            case measure => simp [intOf]; omega
    · obtain rfl : k = cuts.length := by omega
      go_wp2
      go_loop [2, 6, 48] (fun r _ i => ∃ k : Nat, k ≤ owners.length ∧ i = .int .i64 k ∧ r = .int .i64 0 ∧ allTo (ownOk owners) k) (fun _ _ i => owners.length - (intOf i).toNat)
      case atStart => exact ⟨0, Nat.zero_le _, rfl, rfl, allTo_zero _⟩
      case round =>
        obtain ⟨k, hkl, rfl, rfl, hall2⟩ := hrel
        by_cases hlt2 : k < owners.length
        · obtain ⟨b, off, rfl, hc⟩ := h23 (by omega)
          have c1 := cell1 (hc _ _ (cI_at0 owners k hlt2))
          clear hc h23
          by_cases ho : owners[k] < 0 ∨ 4 ≤ owners[k]
          · have hno := ownOk_no hlt2 ho
            rcases ho with ho | ho
            all_goals
              go_wp2
              all_goals
                go_ret
                exact ⟨rI (mapErr_own g1 G2.out hall hlt2 hno).symm, by (repeat (first | (with_reducible assumption) | (with_reducible exact Ext.refl _) | (with_reducible refine Ext.drew ?_) | (with_reducible refine Ext.drewN ?_ _) | (with_reducible refine Ext.alloc ?_ _) | (with_reducible refine Ext.trans ?_ (by with_reducible assumption))))⟩
          · have hs := allTo_succ hall2 (ownOk_yes hlt2 (by omega) (by omega))
            have ho1 : 0 ≤ owners[k] := by omega
            have ho2 : owners[k] < 4 := by omega
            clear ho
            go_wp2
            go_round
            case rel => exact ⟨k + 1, by omega, by go_num, rfl, hs⟩
            case measure => simp [intOf]; omega
        · obtain rfl : k = owners.length := by omega
          go_wp2
          go_ret
          exact ⟨rI (mapErr_ok ⟨by omega, G2.out, hall, hall2⟩).symm, by (repeat (first | (with_reducible assumption) | (with_reducible exact Ext.refl _) | (with_reducible refine Ext.drew ?_) | (with_reducible refine Ext.drewN ?_ _) | (with_reducible refine Ext.alloc ?_ _) | (with_reducible refine Ext.trans ?_ (by with_reducible assumption))))⟩
end Go.Proofs.YtddghaoejnbkaaaGreatDoor

/- Contracts and lemmas for the proofs of this seat; each theorem states its own conditions. -/
namespace Go.Proofs.YtddghaoejnbkaaaGreatDoor
open Go.RowKit
/-- the number that Within makes -/
def wi (k n : Int) : Int := (k % 18446744073709551616) % n
theorem wi_lo {k n : Int} (hn : 0 < n) : 0 ≤ wi k n := Int.emod_nonneg _ (by omega)
theorem wi_hi {k n : Int} (hn : 0 < n) : wi k n < n := Int.emod_lt_of_pos _ hn
theorem within_any (k n : Int) (w : World) (hn : 0 < n) (hn' : n ≤ 1000000000) : Calls Tryz.prog 16 #[.int .i64 k, .int .i64 n] w fun e w' => e = .returned (.int .i64 (wi k n)) ∧ w = w' := by
  have hu : IntKind.u64.wrap n = n := by rw [IntKind.wrap_u64]; omega
  have hnz : ¬ n = 0 := by omega
  have hl := wi_lo (k := k) hn
  have hh := wi_hi (k := k) hn
  go_enter Tryz.func16, Tryz.ntmps16
  go_wp2
  go_ret
  refine ⟨rI ?_, rfl⟩
  have e : (IntKind.u64.wrap k).tmod n = wi k n := by
    rw [IntKind.wrap_u64, Int.tmod_eq_emod_of_nonneg (by omega)]; rfl
  show wrap64 ((IntKind.u64.wrap k).tmod n) = wi k n
  rw [e]; unfold wrap64; omega
/-- the keys that the statements use -/
def keysL : List ByteArray := [⟨#[97]⟩, ⟨#[98]⟩, ⟨#[99]⟩, ⟨#[100]⟩, ⟨#[109]⟩, ⟨#[110]⟩, ⟨#[122]⟩, ⟨#[97, 98]⟩]
set_option maxRecDepth 10000 in
theorem keys_any (w : World) : Calls Tryz.prog 122 #[] w fun e w' => ∃ a c, e = .returned (.slice a 8 c) ∧ w'.ownsRow w.heap.size 9 1 (.slice a 8 c) 8 (cS keysL) ∧ Ext w w' := by
  go_enter Tryz.func122, Tryz.ntmps122
  go_wp2
  go_ret
  exact ⟨_, _, rfl, World.ownsRow_lit _ _ _ (Nat.le_refl _) (by decide) rfl, by (repeat (first | (with_reducible assumption) | (with_reducible exact Ext.refl _) | (with_reducible refine Ext.drew ?_) | (with_reducible refine Ext.drewN ?_ _) | (with_reducible refine Ext.alloc ?_ _) | (with_reducible refine Ext.trans ?_ (by with_reducible assumption))))⟩
/-- Key -/
def keyOf (k : Int) : ByteArray := kAt keysL (wi k 8).toNat
set_option maxRecDepth 10000 in
theorem kKey_any (k : Int) (w : World) : Calls Tryz.prog 54 #[.int .i64 k] w fun e w' => e = .returned (.string (keyOf k)) ∧ Ext w w' := by
  have h0 := wi_lo (k := k) (n := 8) (by omega)
  have h1 := wi_hi (k := k) (n := 8) (by omega)
  have h2 : (wi k 8).toNat < keysL.length := by simp [keysL]; omega
  go_enter Tryz.func54, Tryz.ntmps54
  go_wp2_with fail
  refine (keys_any _).mono ?_
  rintro e w1 ⟨a, c, rfl, ho, he1⟩
  obtain ⟨b, off, rfl, _, hc1, hc2, hc⟩ := seg_cells (own_seg ho) (by omega)
  unfold maxLen at hc2
  have c1 := hc _ _ (cS_at0 keysL (wi k 8).toNat h2)
  clear hc
  go_wp2_with fail
  refine (within_any _ _ _ (by omega) (by omega)).mono ?_
  rintro e w' ⟨rfl, rfl⟩
  go_wp2
  go_ret
  exact ⟨rS (kAt_eq h2).symm, by (repeat (first | (with_reducible assumption) | (with_reducible exact Ext.refl _) | (with_reducible refine Ext.drew ?_) | (with_reducible refine Ext.drewN ?_ _) | (with_reducible refine Ext.alloc ?_ _) | (with_reducible refine Ext.trans ?_ (by with_reducible assumption))))⟩
end Go.Proofs.YtddghaoejnbkaaaGreatDoor

/- Contracts and lemmas for the proofs of this seat; each theorem states its own conditions. -/
namespace Go.Proofs.YtddghaoejnbkaaaGreatDoor
open Go.RowKit
theorem neq_Pair (s t : ByteArray) (x y : Int) (w : World) : (binOp .neq 62 (.agg #[.string s, .int .i64 x]) (.agg #[.string t, .int .i64 y])).run Tryz.prog w = .ok (.bool (!(decide ((s, x) = (t, y))))) w := by
  have e2 : Tryz.prog.stoodInHeld 62 = false := by kernel_rfl
  have e3 : Tryz.prog.underlying 62 = some (.struct (Tryz.prog.fieldsOf 62)) := by kernel_rfl
  have e4 : (Tryz.prog.fieldsOf 62).toList = [⟨"Key", 9, 0, false, "", "", 0⟩, ⟨"Value", 3, 1, false, "", "", 16⟩] := by kernel_rfl
  rw [run_neq_struct, run_equalIn_struct _ _ _ _ _ e3 e2, e4]
  simp [Op.eqFields, go_sem]
  by_cases h : s = t
  · subst h; by_cases h' : x = y <;> simp [h']
  · have : ¬ s.toList = t.toList := fun e => h (toList_inj e)
    simp [this, h]
theorem pair_ne {p q : ByteArray × Int} (h : (!decide (p.1 = q.1)) = true ∨ (!decide (p.2 = q.2)) = true) : p ≠ q := by
  rintro rfl; simp at h
theorem pair_eq {p q : ByteArray × Int} (h : (!decide (p.1 = q.1)) = false ∧ (!decide (p.2 = q.2)) = false) : p = q := by
  simp at h; exact Prod.ext h.1 h.2
set_option maxRecDepth 10000 in
theorem equal_Pair (v u : Value) (l m : List (ByteArray × Int)) (w : World) (hv : Seg w v 2 l.length (cP l)) (hu : Seg w u 2 m.length (cP m)) :
    Calls Tryz.prog 19 #[v, u] w fun e w' => e = .returned (.bool (decide (l = m))) ∧ ∃ d, w' = w.drewN d := by
  obtain ⟨h0, a, cap, rfl, h1, h2, h3⟩ := hv
  obtain ⟨h0', a', cap', rfl, h1', h2', h3'⟩ := hu
  unfold maxLen at h2 h2'
  have e1 : Tryz.prog.eqGuardType Tryz.prog.depth 62 = false := by kernel_rfl
  have hneq := neq_Pair
  by_cases hnm : (l.length : Int) = m.length
  · have hnm' : l.length = m.length := by omega
    have HN := (show Hid (l.length = m.length) from hnm')
    clear hnm'
    have q : ((l.length : Int) != m.length) = false := by simp [hnm]
    clear hnm
    go_enter Tryz.func19, Tryz.ntmps19
    go_wp2
    go_loopw [4, 5, 13] (fun r _ i wr => ∃ k : Nat, k ≤ l.length ∧ i = .int .i64 k ∧ r = .bool false ∧ l.take k = m.take k ∧ ∃ d, wr = w.drewN d) (fun _ _ i _ => l.length - (intOf i).toNat)
    case atStart => exact ⟨0, Nat.zero_le _, rfl, rfl, rfl, 0, rfl⟩
    case round =>
      obtain ⟨k, hk, rfl, rfl, heq, d, rfl⟩ := hrel
      have HE := (show Hid (l.take k = m.take k) from heq)
      clear heq
      by_cases hlt : k < l.length
      · obtain ⟨b, off, rfl, hc⟩ := h3 (by omega)
        have hlt' : k < m.length := by have := HN.out; omega
        obtain ⟨b', off', rfl, hc'⟩ := h3' (by omega)
        have c0 := hc _ _ (cP_at0 l k hlt)
        have d0 := hc' _ _ (cP_at0 m k hlt')

        have c1 := hc _ _ (cP_at1 l k hlt)
        rw [show off + (k * 2 + 1) = off + k * 2 + 1 from by omega] at c1
        have d1 := hc' _ _ (cP_at1 m k hlt')
        rw [show off' + (k * 2 + 1) = off' + k * 2 + 1 from by omega] at d1
        clear hc hc' h3 h3'
        go_wp2
        go_quiet (fail)
        go_wp2
        · go_ret
          have hne : l[k] ≠ m[k] := pair_ne (by assumption)
          exact ⟨rB (by simp; rintro rfl; exact hne rfl), _, World.drewN_drewN _ _ _⟩
        · have heq : l[k] = m[k] := pair_eq (by assumption)
          go_roundw
          case rel => exact ⟨k + 1, by omega, by go_num, rfl, take_eq_step hlt hlt' HE.out heq, _, rfl⟩
          case measure => simp [intOf]; omega
      · go_wp2
        go_ret
        obtain rfl : k = l.length := by omega
        have := HE.out
        rw [List.take_of_length_le (Nat.le_refl _), List.take_of_length_le (by rw [HN.out]; exact Nat.le_refl _)] at this
        exact ⟨rB (by simp [this]), _, rfl⟩
  · go_enter Tryz.func19, Tryz.ntmps19
    go_wp2
    go_ret
    exact ⟨rB (by simp; intro h; exact hnm (by rw [h])), 0, rfl⟩
end Go.Proofs.YtddghaoejnbkaaaGreatDoor

/- Contracts and lemmas for the proofs of this seat; each theorem states its own conditions. -/
namespace Go.Proofs.YtddghaoejnbkaaaGreatDoor
open Go.RowKit
end Go.Proofs.YtddghaoejnbkaaaGreatDoor
