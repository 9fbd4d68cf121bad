/- Contracts and lemmas for the proof of TextEntry; each theorem states its own conditions. -/
import Derived.Test.YtnepdfpooobmcaaDoorQTextEntrybo
import Derived.Test.YtnepdfpooobmcaaDoorQTextEntrybq
import Derived.Test.YtnepdfpooobmcaaDoorQTextEntrybr
import Derived.Test.YtnepdfpooobmcaaDoorQTextEntrybt
import Derived.Test.YtnepdfpooobmcaaDoorQTextEntryae
set_option linter.unusedVariables false
set_option linter.unusedSimpArgs false
/- Contracts and lemmas for the proofs of this seat; each theorem states its own conditions. -/
namespace Go.Proofs.YtnepdfpooobmcaaDoor
open Go.RowKit
/-! roref.BareEntry -/
def bareV (e : EV) : EV := if e.2.1 = true then (.slice none 0 0, true, e.2.2.1, e.2.2.2) else (e.1, false, .slice none 0 0, .slice none 0 0)
def halfE (x : Ent) : Ent := if x.im = true then ⟨[], true, x.cuts, x.own⟩ else ⟨x.ops, false, [], []⟩
theorem bareV_seg {w : World} {e : EV} {x : Ent} (h : EntSeg w e x) : EntSeg w (bareV e) (halfE x) := by
  obtain ⟨v1, b, v2, v3⟩ := e
  obtain ⟨h1, hb, h2, h3⟩ := h
  dsimp only at h1 hb h2 h3
  unfold bareV halfE
  rw [← hb]
  cases b with
  | true => exact ⟨Seg.nil _ _, rfl, h2, h3⟩
  | false => exact ⟨h1, rfl, Seg.nil _ _, Seg.nil _ _⟩
set_option maxRecDepth 10000 in
set_option maxHeartbeats 2000000 in
theorem bareE_any (e : EV) (x : Ent) (w : World) (h : EntSeg w e x) :
    Calls Tryd.prog 20 #[evV e] w fun r w' => r = .returned (evV (bareV e)) ∧ Ext w w' := by
  obtain ⟨v1, b, v2, v3⟩ := e
  obtain ⟨h1, hb, h2, h3⟩ := h
  dsimp only at h1 hb h2 h3
  obtain ⟨a1, k1, rfl⟩ := seg_form h1
  obtain ⟨a2, k2, rfl⟩ := seg_form h2
  obtain ⟨a3, k3, rfl⟩ := seg_form h3
  generalize x.ops.length = n1
  generalize x.cuts.length = n2
  generalize x.own.length = n3
  clear h1 h2 h3 hb
  show Calls _ _ #[.agg #[.slice a1 n1 k1, .bool b, .slice a2 n2 k2, .slice a3 n3 k3]] _ _
  cases b with
  | true =>
    have E0 := hid (((Ext.refl w).alloc (.cells #[.slice a1 n1 k1, .bool true, .slice a2 n2 k2, .slice a3 n3 k3] 46)).alloc (.cells #[.slice none 0 0, .bool true, .slice a2 n2 k2, .slice a3 n3 k3] 46))
    have b1 := heap_1 w (.cells #[.slice a1 n1 k1, .bool true, .slice a2 n2 k2, .slice a3 n3 k3] 46) (.cells #[.slice none 0 0, .bool false, .slice none 0 0, .slice none 0 0] 46)
    have b2 := heap_2 w (.cells #[.slice a1 n1 k1, .bool true, .slice a2 n2 k2, .slice a3 n3 k3] 46) (.cells #[.slice none 0 0, .bool false, .slice none 0 0, .slice none 0 0] 46)
    have c1 := blk4 b1
    obtain ⟨f1, f2, f3, f4⟩ := frz4 b2
    have r4 := blk4 (heap_2 w (.cells #[.slice a1 n1 k1, .bool true, .slice a2 n2 k2, .slice a3 n3 k3] 46) (.cells #[.slice none 0 0, .bool true, .slice a2 n2 k2, .slice a3 n3 k3] 46))
    go_enter Tryd.func20, Tryd.ntmps20
    go_wp2
    exact bodyPost_ret (v := .agg #[.slice none 0 0, .bool true, .slice a2 n2 k2, .slice a3 n3 k3]) (by simp [results, Tryd.results20, go_sem, r4.1, r4.2.1, r4.2.2.1, r4.2.2.2]) rfl ⟨rfl, E0.out⟩
  | false =>
    have E0 := hid (((Ext.refl w).alloc (.cells #[.slice a1 n1 k1, .bool false, .slice a2 n2 k2, .slice a3 n3 k3] 46)).alloc (.cells #[.slice a1 n1 k1, .bool false, .slice none 0 0, .slice none 0 0] 46))
    have b1 := heap_1 w (.cells #[.slice a1 n1 k1, .bool false, .slice a2 n2 k2, .slice a3 n3 k3] 46) (.cells #[.slice none 0 0, .bool false, .slice none 0 0, .slice none 0 0] 46)
    have b2 := heap_2 w (.cells #[.slice a1 n1 k1, .bool false, .slice a2 n2 k2, .slice a3 n3 k3] 46) (.cells #[.slice none 0 0, .bool false, .slice none 0 0, .slice none 0 0] 46)
    have c1 := blk4 b1
    obtain ⟨f1, f2, f3, f4⟩ := frz4 b2
    have r4 := blk4 (heap_2 w (.cells #[.slice a1 n1 k1, .bool false, .slice a2 n2 k2, .slice a3 n3 k3] 46) (.cells #[.slice a1 n1 k1, .bool false, .slice none 0 0, .slice none 0 0] 46))
    go_enter Tryd.func20, Tryd.ntmps20
    go_wp2
    exact bodyPost_ret (v := .agg #[.slice a1 n1 k1, .bool false, .slice none 0 0, .slice none 0 0]) (by simp [results, Tryd.results20, go_sem, r4.1, r4.2.1, r4.2.2.1, r4.2.2.2]) rfl ⟨rfl, E0.out⟩
end Go.Proofs.YtnepdfpooobmcaaDoor

/- Contracts and lemmas for the proofs of this seat; each theorem states its own conditions. -/
namespace Go.Proofs.YtnepdfpooobmcaaDoor
open Go.RowKit
/-! fields of an entry's value -/
theorem fld_map (a b c d : Value) (W : World) : (Instr.field 46 (.agg #[a, b, c, d]) 2).run Tryd.prog W = .ok (.agg #[c, d]) W := by
  kernel_rfl
theorem fld_deed (a b c d : Value) (W : World) : (Instr.field 46 (.agg #[a, b, c, d]) 0).run Tryd.prog W = .ok (.agg #[a]) W := by
  kernel_rfl
end Go.Proofs.YtnepdfpooobmcaaDoor
