/- Contracts and lemmas for the proof of ShardSays; each theorem states its own conditions. -/
import Derived.Test.YtghemmmkbpfdhaaDoorQShardSaysag
import Derived.Test.YtghemmmkbpfdhaaDoorQShardSaysah
import Derived.Deep.Cut
set_option linter.unusedVariables false
set_option linter.unusedSimpArgs false
/- Contracts and lemmas for the proofs of this seat; each theorem states its own conditions. -/
namespace Go.Proofs.YtghemmmkbpfdhaaDoor
open Go.RowKit
def sameB (c c' : List ByteArray) (o o' : List Int) : Bool := decide (c = c') && decide (o = o')
set_option maxRecDepth 10000 in
theorem sameMap_any (v u : Value) (c c' : List ByteArray) (o o' : List Int) (w : World) (hv : IsMap w v c o) (hu : IsMap w u c' o') :
    Calls Tryd.prog 33 #[v, u] w fun e w' => e = .returned (.bool (sameB c c' o o')) ∧ Ext w w' := by
  obtain ⟨c1, o1, rfl, h1, h2⟩ := hv
  obtain ⟨c2, o2, rfl, h3, h4⟩ := hu
  by_cases g1 : c = c'
  · have q : decide (c = c') = true := by simp [g1]
    have e1 : sameB c c' o o' = decide (o = o') := by simp [sameB, g1]
    have E1 := (show Hid (sameB c c' o o' = decide (o = o')) from e1)
    clear e1 g1
    go_enter Tryd.func33, Tryd.ntmps33
    go_wp2_with fail
    refine (equal_Str c1 c2 c c' _ (h1.ext (by (repeat (first | (with_reducible assumption) | (with_reducible exact Ext.refl _) | (with_reducible refine Ext.drew ?_) | (with_reducible refine Ext.drewN ?_ _) | (with_reducible refine Ext.alloc ?_ _) | (with_reducible refine Ext.trans ?_ (by with_reducible assumption)))))) (h3.ext (by (repeat (first | (with_reducible assumption) | (with_reducible exact Ext.refl _) | (with_reducible refine Ext.drew ?_) | (with_reducible refine Ext.drewN ?_ _) | (with_reducible refine Ext.alloc ?_ _) | (with_reducible refine Ext.trans ?_ (by with_reducible assumption))))))).mono ?_
    rintro e w1 ⟨rfl, d, rfl⟩
    go_wp2_with fail
    refine (equal_Int o1 o2 o o' _ (h2.ext (by (repeat (first | (with_reducible assumption) | (with_reducible exact Ext.refl _) | (with_reducible refine Ext.drew ?_) | (with_reducible refine Ext.drewN ?_ _) | (with_reducible refine Ext.alloc ?_ _) | (with_reducible refine Ext.trans ?_ (by with_reducible assumption)))))) (h4.ext (by (repeat (first | (with_reducible assumption) | (with_reducible exact Ext.refl _) | (with_reducible refine Ext.drew ?_) | (with_reducible refine Ext.drewN ?_ _) | (with_reducible refine Ext.alloc ?_ _) | (with_reducible refine Ext.trans ?_ (by with_reducible assumption))))))).mono ?_
    rintro e w2 ⟨rfl, d', rfl⟩
    go_wp2
    go_ret
    exact ⟨rB E1.out.symm, by (repeat (first | (with_reducible assumption) | (with_reducible exact Ext.refl _) | (with_reducible refine Ext.drew ?_) | (with_reducible refine Ext.drewN ?_ _) | (with_reducible refine Ext.alloc ?_ _) | (with_reducible refine Ext.trans ?_ (by with_reducible assumption))))⟩
  · have q : decide (c = c') = false := by simp [g1]
    have e1 : sameB c c' o o' = false := by simp [sameB, g1]
    have E1 := (show Hid (sameB c c' o o' = false) from e1)
    clear e1 g1
    go_enter Tryd.func33, Tryd.ntmps33
    go_wp2_with fail
    refine (equal_Str c1 c2 c c' _ (h1.ext (by (repeat (first | (with_reducible assumption) | (with_reducible exact Ext.refl _) | (with_reducible refine Ext.drew ?_) | (with_reducible refine Ext.drewN ?_ _) | (with_reducible refine Ext.alloc ?_ _) | (with_reducible refine Ext.trans ?_ (by with_reducible assumption)))))) (h3.ext (by (repeat (first | (with_reducible assumption) | (with_reducible exact Ext.refl _) | (with_reducible refine Ext.drew ?_) | (with_reducible refine Ext.drewN ?_ _) | (with_reducible refine Ext.alloc ?_ _) | (with_reducible refine Ext.trans ?_ (by with_reducible assumption))))))).mono ?_
    rintro e w1 ⟨rfl, d, rfl⟩
    go_wp2
    go_ret
    exact ⟨rB E1.out.symm, by (repeat (first | (with_reducible assumption) | (with_reducible exact Ext.refl _) | (with_reducible refine Ext.drew ?_) | (with_reducible refine Ext.drewN ?_ _) | (with_reducible refine Ext.alloc ?_ _) | (with_reducible refine Ext.trans ?_ (by with_reducible assumption))))⟩
def giveE (cuts : List ByteArray) (owners : List Int) (i n : Int) : Int := if mapErr cuts owners ≠ 0 then mapErr cuts owners else if i < 0 ∨ owners.length ≤ i ∨ n < 0 ∨ 4 ≤ n then 1 else 0
def nilMap : Value := .agg #[.slice none 0 0, .slice none 0 0]
/-- what a function answers that makes a map -/
def MapRes (w w' : World) (e : Ending) (er : Int) (cuts : List ByteArray) (owners : List Int) : Prop :=
  ∃ v', e = .returned (.tuple #[v', .int .i64 er]) ∧ (er = 0 → OwnMap w' w.heap.size v' cuts owners) ∧ (er ≠ 0 → v' = nilMap)
theorem mapRes_bad {w w' : World} {er : Int} {cuts : List ByteArray} {owners : List Int} {e : Ending} (h : er ≠ 0) (he : e = .returned (.tuple #[nilMap, .int .i64 er])) : MapRes w w' e er cuts owners :=
  ⟨nilMap, he, fun h' => absurd h' h, fun _ => rfl⟩
set_option maxRecDepth 10000 in
theorem give_bad (v : Value) (cuts : List ByteArray) (owners : List Int) (i n : Int) (w : World) (hv : IsMap w v cuts owners) (hk : ∀ k ∈ cuts, k.size ≤ 9223372036854775807) (he : giveE cuts owners i n ≠ 0) :
    Calls Tryd.prog 30 #[v, .int .i64 i, .int .i64 n] w fun e w' => MapRes w w' e (giveE cuts owners i n) cuts (owners.set i.toNat n) ∧ Ext w w' := by
  have hv0 := hv
  obtain ⟨a1, k1, a2, k2, rfl, h1, h2⟩ := hv.unpack
  have hb0 := heap_1 w (.cells #[.slice a1 cuts.length k1, .slice a2 owners.length k2] 28) (.cells #[.slice none 0 0, .slice none 0 0] 28)
  have hb1 := heap_2 w (.cells #[.slice a1 cuts.length k1, .slice a2 owners.length k2] 28) (.cells #[.slice none 0 0, .slice none 0 0] 28)
  have HE := (show Hid (giveE cuts owners i n ≠ 0) from he)
  clear he
  have fin : ∀ (er : Int) (w1 : World) (hr : w1.heap[w.heap.size + 1]? = some (.cells #[.slice none 0 0, .slice none 0 0] 28 (0, 0))) (he1 : Ext w w1), giveE cuts owners i n = er →
      MapRes w ((w1.setCell ⟨w.heap.size + 1, 0, none⟩ (.slice none 0 0)).setCell ⟨w.heap.size + 1, 1, none⟩ (.slice none 0 0)) (.returned (.tuple #[nilMap, .int .i64 er])) (giveE cuts owners i n) cuts (owners.set i.toNat n) ∧
      Ext w ((w1.setCell ⟨w.heap.size + 1, 0, none⟩ (.slice none 0 0)).setCell ⟨w.heap.size + 1, 1, none⟩ (.slice none 0 0)) := fun er w1 hr he1 h => by
    subst h
    exact ⟨mapRes_bad HE.out rfl, (he1.setCell (by simp) _).setCell (by simp) _⟩
  by_cases g1 : mapErr cuts owners = 0
  · have q : (mapErr cuts owners != 0) = false := by simp [g1]
    have hbad : i < 0 ∨ owners.length ≤ i ∨ n < 0 ∨ 4 ≤ n := by
      have := HE.out
      simp only [giveE, g1, ne_eq, not_true_eq_false, if_false] at this
      split at this
      · assumption
      · exact absurd rfl this
    have e1 : giveE cuts owners i n = 1 := by
      simp only [giveE, g1, ne_eq, not_true_eq_false, if_false, if_pos hbad]
    have E1 := (show Hid (giveE cuts owners i n = 1) from e1)
    have G1 := (show Hid (mapErr cuts owners = 0) from g1)
    have HB := (show Hid (i < 0 ∨ owners.length ≤ i ∨ n < 0 ∨ 4 ≤ n) from hbad)
    clear e1 g1 hbad
    go_enter Tryd.func30, Tryd.ntmps30
    go_wp2_with fail
    refine (mcheck_any _ cuts owners _ (hv0.ext (by (repeat (first | (with_reducible assumption) | (with_reducible exact Ext.refl _) | (with_reducible refine Ext.drew ?_) | (with_reducible refine Ext.drewN ?_ _) | (with_reducible refine Ext.alloc ?_ _) | (with_reducible refine Ext.trans ?_ (by with_reducible assumption)))))) hk).mono ?_
    rintro e w1 ⟨rfl, he1⟩
    have hr' := he1.heap hb1
    have hb := blk2 (he1.heap hb0)
    have hr := blk2 hr'
    have hE : Ext w w1 := by (repeat (first | (with_reducible assumption) | (with_reducible exact Ext.refl _) | (with_reducible refine Ext.drew ?_) | (with_reducible refine Ext.drewN ?_ _) | (with_reducible refine Ext.alloc ?_ _) | (with_reducible refine Ext.trans ?_ (by with_reducible assumption))))
    have F := fin 1 w1 hr' hE E1.out
    have rB := blk2 (blk2_set2 (u := .slice none 0 0) (v := .slice none 0 0) hr')
    have FF := hid F
    clear F fin
    go_wp2
    all_goals first
      | (exfalso; have := HB.out; omega)
      | exact bodyPost_ret (v := .tuple #[nilMap, .int .i64 1]) (by simp [results, Tryd.results30, go_sem, rB.1, rB.2.1, nilMap]) rfl FF.out
  · have q : (mapErr cuts owners != 0) = true := by simp [g1]
    have e1 : giveE cuts owners i n = mapErr cuts owners := by simp only [giveE, ne_eq, g1, not_false_eq_true, if_true]
    have E1 := hid e1
    clear e1 g1
    go_enter Tryd.func30, Tryd.ntmps30
    go_wp2_with fail
    refine (mcheck_any _ cuts owners _ (hv0.ext (by (repeat (first | (with_reducible assumption) | (with_reducible exact Ext.refl _) | (with_reducible refine Ext.drew ?_) | (with_reducible refine Ext.drewN ?_ _) | (with_reducible refine Ext.alloc ?_ _) | (with_reducible refine Ext.trans ?_ (by with_reducible assumption)))))) hk).mono ?_
    rintro e w1 ⟨rfl, he1⟩
    have hr' := he1.heap hb1
    have hb := blk2 (he1.heap hb0)
    have hr := blk2 hr'
    have hE : Ext w w1 := by (repeat (first | (with_reducible assumption) | (with_reducible exact Ext.refl _) | (with_reducible refine Ext.drew ?_) | (with_reducible refine Ext.drewN ?_ _) | (with_reducible refine Ext.alloc ?_ _) | (with_reducible refine Ext.trans ?_ (by with_reducible assumption))))
    have F := fin (mapErr cuts owners) w1 hr' hE E1.out
    have rB := blk2 (blk2_set2 (u := .slice none 0 0) (v := .slice none 0 0) hr')
    have FF := hid F
    clear F fin
    go_wp2
    exact bodyPost_ret (v := .tuple #[nilMap, .int .i64 (mapErr cuts owners)]) (by simp [results, Tryd.results30, go_sem, rB.1, rB.2.1, nilMap]) rfl FF.out
set_option maxRecDepth 10000 in
theorem give_ok (v : Value) (cuts : List ByteArray) (owners : List Int) (i : Nat) (n : Int) (w : World) (hv : IsMap w v cuts owners) (hk : ∀ k ∈ cuts, k.size ≤ 9223372036854775807) (ok : MapOk cuts owners) (hi : i < owners.length) (hn0 : 0 ≤ n) (hn1 : n < 4) :
    Calls Tryd.prog 30 #[v, .int .i64 i, .int .i64 n] w fun e w' => ∃ v', e = .returned (.tuple #[v', .int .i64 0]) ∧ OwnMap w' w.heap.size v' cuts (owners.set i n) ∧ Ext w w' := by
  have hv0 := hv
  obtain ⟨a1, k1, a2, k2, rfl, h1, h2⟩ := hv.unpack
  have hb0 := heap_1 w (.cells #[.slice a1 cuts.length k1, .slice a2 owners.length k2] 28) (.cells #[.slice none 0 0, .slice none 0 0] 28)
  have hb1 := heap_2 w (.cells #[.slice a1 cuts.length k1, .slice a2 owners.length k2] 28) (.cells #[.slice none 0 0, .slice none 0 0] 28)
  have q : (mapErr cuts owners != 0) = false := by simp [mapErr_ok ok]
  have hf := ok.few
  have hl := ok.len
  have HL := hid hl
  have ho12 : owners.length ≤ 13 := by omega
  clear hl
  go_enter Tryd.func30, Tryd.ntmps30
  go_wp2_with fail
  refine (mcheck_any _ cuts owners _ (hv0.ext (by (repeat (first | (with_reducible assumption) | (with_reducible exact Ext.refl _) | (with_reducible refine Ext.drew ?_) | (with_reducible refine Ext.drewN ?_ _) | (with_reducible refine Ext.alloc ?_ _) | (with_reducible refine Ext.trans ?_ (by with_reducible assumption)))))) hk).mono ?_
  rintro e w1 ⟨rfl, he1⟩
  have hb := blk2 (he1.heap hb0)
  go_wp2_with fail
  refine (copied_any _ cuts owners _ (hv0.ext (by (repeat (first | (with_reducible assumption) | (with_reducible exact Ext.refl _) | (with_reducible refine Ext.drew ?_) | (with_reducible refine Ext.drewN ?_ _) | (with_reducible refine Ext.alloc ?_ _) | (with_reducible refine Ext.trans ?_ (by with_reducible assumption)))))) (by omega) (by omega)).mono ?_
  rintro e w2 ⟨v', rfl, ⟨c', o', rfl, hc1, hc2⟩, he2⟩
  obtain ⟨a3, k3, rfl⟩ := own_form hc1
  obtain ⟨a4, k4, rfl⟩ := own_form hc2
  obtain ⟨g, rfl, hg1, hg2, hg3, hg4⟩ := own_pos hc2 (by omega)
  have hr1 := he2.heap (he1.heap hb1)
  have hz := he1.size'
  have hz2 : w.heap.size + 2 ≤ w1.heap.size := by simpa using hz
  have f1 := hc2.cellAt i (by omega)
  rw [cI_at0 owners i hi] at f1
  have f2 := hc2.frozenAt i
  have f1' := cell1 f1
  have f2' := frz1 f1 f2
  go_upto_region 8 with fail
  obtain ⟨cur, hcur⟩ := own_heap hc2
  have o1 := (own_set_other hc1 (p := ⟨g, i, none⟩) (own_ne hc1 hcur (by decide)) (.int .i64 n)).alloc (.cells #[.slice a3 cuts.length k3, .slice (some ⟨g, 0, none⟩) owners.length k4] 28)
  have o2 := (hc2.stored i (.int .i64 n)).1.alloc (.cells #[.slice a3 cuts.length k3, .slice (some ⟨g, 0, none⟩) owners.length k4] 28)
  have e9' := heap_alloc_new (w2.setCell ⟨g, i, none⟩ (.int .i64 n)) (.cells #[.slice a3 cuts.length k3, .slice (some ⟨g, 0, none⟩) owners.length k4] 28)
  rw [World.size_setCell] at e9'
  have r9' := ((Ext.refl _).alloc (.cells #[.slice a3 cuts.length k3, .slice (some ⟨g, 0, none⟩) owners.length k4] 28)).heap (heap_set_far (p := ⟨g, i, none⟩) (u := .int .i64 n) hr1 (by simp; omega))
  have x9 : Ext w ((w2.setCell ⟨g, i, none⟩ (.int .i64 n)).alloc (.cells #[.slice a3 cuts.length k3, .slice (some ⟨g, 0, none⟩) owners.length k4] 28)) := Ext.alloc (Ext.setCell (by (repeat (first | (with_reducible assumption) | (with_reducible exact Ext.refl _) | (with_reducible refine Ext.drew ?_) | (with_reducible refine Ext.drewN ?_ _) | (with_reducible refine Ext.alloc ?_ _) | (with_reducible refine Ext.trans ?_ (by with_reducible assumption))))) (by simp; omega) _) _
  generalize ((w2.setCell ⟨g, i, none⟩ (.int .i64 n)).alloc (.cells #[.slice a3 cuts.length k3, .slice (some ⟨g, 0, none⟩) owners.length k4] 28)) = W4 at e9' r9' o1 o2 x9 ⊢
  have b9 := blk2 e9'
  have rr := blk2 r9'
  have rB := blk2 (blk2_set2 (u := .slice a3 cuts.length k3) (v := .slice (some ⟨g, 0, none⟩) owners.length k4) r9')
  have ho2 : W4.ownsRow w1.heap.size 3 1 (.slice (some ⟨g, 0, none⟩) owners.length k4) owners.length (cI (owners.set i n)) := by
    rw [cI, List.map_set]; exact o2
  have p1 := own_set2 (p := ⟨w.heap.size + 1, 0, none⟩) (q := ⟨w.heap.size + 1, 1, none⟩) (u := .slice a3 cuts.length k3) (u' := .slice (some ⟨g, 0, none⟩) owners.length k4) o1 (by show w.heap.size + 1 < _; omega) (by show w.heap.size + 1 < _; omega)
  have p2 := own_set2 (p := ⟨w.heap.size + 1, 0, none⟩) (q := ⟨w.heap.size + 1, 1, none⟩) (u := .slice a3 cuts.length k3) (u' := .slice (some ⟨g, 0, none⟩) owners.length k4) ho2 (by show w.heap.size + 1 < _; omega) (by show w.heap.size + 1 < _; omega)
  have FF := hid (And.intro (And.intro (own_base (B' := w.heap.size) p1 (by omega)) (own_base (B' := w.heap.size) p2 (by omega))) ((x9.setCell (p := ⟨w.heap.size + 1, 0, none⟩) (by simp) (.slice a3 cuts.length k3)).setCell (p := ⟨w.heap.size + 1, 1, none⟩) (by simp) (.slice (some ⟨g, 0, none⟩) owners.length k4)))
  clear p1 p2 o1 o2 ho2 x9 e9' f1' f2' f1 f2 hc1 hc2
  go_wp2
  refine bodyPost_ret (v := .tuple #[.agg #[.slice a3 cuts.length k3, .slice (some ⟨g, 0, none⟩) owners.length k4], .int .i64 0]) (by simp [results, Tryd.results30, go_sem, rB.1, rB.2.1]) rfl ⟨_, rfl, ⟨_, _, rfl, FF.out.1.1, ?_⟩, FF.out.2⟩
  simpa using FF.out.1.2
end Go.Proofs.YtghemmmkbpfdhaaDoor
