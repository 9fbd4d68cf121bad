/- Contracts and lemmas for the proof of ShardFind; each theorem states its own conditions. -/
import Derived.Test.YtnepdfpooobmcaaDoorQShardFindaq
import Derived.Test.YtnepdfpooobmcaaDoorQShardFindar
import Derived.Test.YtnepdfpooobmcaaDoorQShardFindan
import Derived.Test.YtnepdfpooobmcaaDoorQShardFindbi
set_option linter.unusedVariables false
set_option linter.unusedSimpArgs false
/- Contracts and lemmas for the proofs of this seat; each theorem states its own conditions. -/
namespace Go.Proofs.YtnepdfpooobmcaaDoor
open Go.RowKit
/-! rokeep.letters; what ShardFind holds in memory -/
def LetTabs (w : World) : Prop := Lib.Utf8Tabs (lays230_ren.g 3) (lays230_ren.g 4) w
theorem LetTabs.ext {w w' : World} (h : LetTabs w) (E : Ext w w') : LetTabs w' := Utf8Tabs_below h E
set_option maxHeartbeats 1000000 in
set_option maxRecDepth 100000 in
theorem letc_pays (w : World) : MapGrows Tryd.prog 68 #[] letF w := by
  intro W x hx hb
  show Calls Tryd.prog 68 #[.int .i32 (x : Int)] W _
  by_cases h1 : (x : Int) < 97
  · have e : letF (x : Int) = -1 := if_pos (.inl h1)
    rw [e]
    clear e hb
    go_enter Tryd.func68, Tryd.ntmps68
    go_wp2
    go_ret
    exact ⟨rfl, Below.refl _ _⟩
  · by_cases h2 : 122 < (x : Int)
    · have e : letF (x : Int) = -1 := if_pos (.inr h2)
      rw [e]
      clear e hb
      go_enter Tryd.func68, Tryd.ntmps68
      go_wp2
      go_ret
      exact ⟨rfl, Below.refl _ _⟩
    · have e : letF (x : Int) = x := if_neg (by omega)
      rw [e]
      clear e hb
      go_enter Tryd.func68, Tryd.ntmps68
      go_wp2
      go_ret
      exact ⟨rfl, Below.refl _ _⟩
theorem letF_range (x : Nat) (hx : x ≤ 1114111) : -2147483648 ≤ letF x ∧ letF x ≤ 2147483647 := by
  unfold letF
  split <;> omega
set_option maxHeartbeats 1000000 in
set_option maxRecDepth 100000 in
theorem letters_any (s : ByteArray) (w : World) (hs : s.size < 35184372088832) (hT : LetTabs w) :
    Calls Tryd.prog 30 #[.string s] w fun e w' => ∃ t : ByteArray, e = .returned (.string t) ∧ (∀ c ∈ t.data.toList, letB c = true) ∧ Ext w w' := by
  have cM : Calls Tryd.prog 67 #[.func (.func 68) #[] #[], .string s] w _ := Any.strings_Map_grows lays230 bextra230 68 #[] (enters_of Tryd.func68 (by kernel_rfl) rfl) letF s w hs (letc_pays w) letF_range hT
  have hl := hid (mapD_let _ s.data.toList (Nat.le_refl _))
  generalize Lib.mapD letF s.data.toList = OUT at cM hl
  have CM := hid cM
  clear cM
  go_enter Tryd.func30, Tryd.ntmps30
  go_wp2_with fail
  refine (CM.out).mono ?_
  rintro e w' ⟨rfl, hb⟩
  go_wp2
  go_ret
  exact ⟨_, rfl, by simpa using hl.out, hb⟩
/-- both texts in their boxes, the map in its own -/
structure SF (w : World) (B nb : Nat) (vc vo : Value) (C : List ByteArray) (O : List Int) (ta tb : ByteArray) (wx : World) : Prop where
  e : Ext w wx
  c4 : wx.heap[w.heap.size]? = some (.cells #[.string ta] 9 (0, 0))
  c5 : wx.heap[w.heap.size + 1]? = some (.cells #[.string tb] 9 (0, 0))
  lt : w.heap.size + 1 < B
  lb : w.heap.size + 1 < nb
  bm : wx.heap[nb]? = some (.cells #[vc, vo] 25 (0, 0))
  oc : wx.ownsRow B 9 1 vc C.length (cS C)
  oo : wx.ownsRow B 3 1 vo O.length (cI O)
section
variable {w : World} {B nb : Nat} {vc vo : Value} {C : List ByteArray} {O : List Int} {ta tb : ByteArray} {wx : World}
theorem SF.ext (h : SF w B nb vc vo C O ta tb wx) {wy : World} (E : Ext wx wy) : SF w B nb vc vo C O ta tb wy :=
  ⟨h.e.trans E, E.heap h.c4, E.heap h.c5, h.lt, h.lb, E.heap h.bm, own_ext h.oc E, own_ext h.oo E⟩
theorem SF.set4 (h : SF w B nb vc vo C O ta tb wx) (t : ByteArray) : SF w B nb vc vo C O t tb (wx.setCell ⟨w.heap.size, 0, none⟩ (.string t)) :=
  have h1 := h.lt
  have h2 := h.lb
  ⟨h.e.setCell (Nat.le_refl _) _, blk1_set h.c4 _, (Below.heap_setCell _ _ _ _ (by simp)).trans h.c5, h1, h2, (Below.heap_setCell _ _ _ _ (by simp; omega)).trans h.bm, own_set_far h.oc (by simp; omega), own_set_far h.oo (by simp; omega)⟩
theorem SF.set5 (h : SF w B nb vc vo C O ta tb wx) (t : ByteArray) : SF w B nb vc vo C O ta t (wx.setCell ⟨w.heap.size + 1, 0, none⟩ (.string t)) :=
  have h1 := h.lt
  have h2 := h.lb
  ⟨h.e.setCell (by simp) _, (Below.heap_setCell _ _ _ _ (by simp)).trans h.c4, blk1_set h.c5 _, h1, h2, (Below.heap_setCell _ _ _ _ (by simp; omega)).trans h.bm, own_set_far h.oc (by simp; omega), own_set_far h.oo (by simp; omega)⟩
theorem SF.map (h : SF w B nb vc vo C O ta tb wx) : IsMap wx (.agg #[vc, vo]) C O := ⟨vc, vo, rfl, own_seg h.oc, own_seg h.oo⟩
end
end Go.Proofs.YtnepdfpooobmcaaDoor
