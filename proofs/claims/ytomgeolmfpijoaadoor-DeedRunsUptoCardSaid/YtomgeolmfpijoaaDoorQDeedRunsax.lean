/- Contracts and lemmas for the proof of DeedRuns; each theorem states its own conditions. -/
import Derived.Test.YtomgeolmfpijoaaDoorQDeedRunsaw
import Derived.Test.YtomgeolmfpijoaaDoorQDeedRunsas
import Derived.OneCell
set_option linter.unusedVariables false
set_option linter.unusedSimpArgs false
/- Contracts and lemmas for the proofs of this seat; each theorem states its own conditions. -/
namespace Go.Proofs.YtomgeolmfpijoaaDoor
open Go.RowKit Go.Maps
/-! roref.List -/
theorem lawS : Keyed Tryd.prog 9 := string_keyed Tryd.underlying9
theorem set_grown (w : World) (p : Addr) (u : Value) : w.grownBy (w.setCell p u) (some p.block) :=
  ⟨rfl, rfl, rfl, by simp, fun k _ hne => Below.heap_setCell _ _ _ _ (fun e => hne (by rw [e]))⟩
theorem ext_of_grown {w w' : World} (h : w.grownBy w' none) : Ext w w' := ⟨h.os, h.tape, h.output, h.size, fun k hk => h.block k hk (by simp)⟩
/-- where List's loop stands -/
def LRel (w : World) (b n : Nat) (D : DU) (f : ByteArray → Option Int) (wr : World) : Prop :=
  ∃ (left : Lit → Bool) (cnt : Nat) (l : Prs) (v : Value), wr.ranges Tryd.prog 9 (plainElem Tryd.prog 3) b (w.heap.size + 1) n D left cnt ∧ Gath f left l ∧ l.length + cnt ≤ n ∧
    wr.heap[w.heap.size]? = some (.cells #[v] 89 (0, 0)) ∧ wr.ownsRow (w.heap.size + 2) 98 2 v l.length (cP l) ∧ Ext w wr
set_option maxRecDepth 10000 in
set_option maxHeartbeats 1000000 in
theorem rlist_any (b n : Nat) (D : DU) (f : ByteArray → Option Int) (w : World) (hown : w.ownsMap Tryd.prog 9 (plainElem Tryd.prog 3) b n D) (hF : MapF kS okS dI D f) (hn : n ≤ 1000000) :
    Calls Tryd.prog 65 #[.map (some b)] w fun e w' => ∃ v' l, e = .returned v' ∧ srtP l ∧ nzP l ∧ (∀ k, valP l k = (f k).getD 0) ∧ l.length ≤ n ∧ w'.ownsRow w.heap.size 98 2 v' l.length (cP l) ∧ Ext w w' := by
  have hsz := own_size hown
  have hbl := hown.lt
  have b0 := heap_alloc_new w (.cells #[.slice none 0 0] 89)
  have E0 := (Ext.refl w).alloc (.cells #[.slice none 0 0] 89)
  have hown0 := ownsMap_ext hown E0
  go_enter Tryd.func65, Tryd.ntmps65
  go_wp2_with (first
    | (at_range; refine wpList_range_own _ rfl _ 101 rfl 9 3 lawS Tryd.underlying101 _ b n _ rfl hown0 ?_; intro w0 hrg0 hg0 hs0; simp only [World.size_alloc] at hrg0 ⊢)
    | go_in)
  go_frame
  have E1 := E0.trans (ext_of_grown hg0)
  go_loopw [4, 5] (fun _ _ wr => LRel w b n D f wr) (fun _ _ wr => wr.rangeLeft b (w.heap.size + 1))
  case atStart =>
    refine ⟨_, _, [], .slice none 0 0, by simpa using hrg0, gath_start hF, by simpa using hsz, grown_heap hg0 b0 (by simp), World.ownsRow_nil _ _ _ _, E1⟩
  case round =>
    obtain ⟨left, cnt, l, v, hrg, hG, hlc, hbx, ho, E⟩ := hrel
    go_wp2_with (first
      | (at_next; refine wpList_next_si _ rfl _ rfl 9 3 lawS Tryd.underlying9 Tryd.underlying3 b (w.heap.size + 1) n D f hF _ _ rfl hrg ?_ ?_)
      | go_in)
    · intro hl0
      obtain ⟨ao, co, rfl⟩ := own_form ho
      have c1 := cell_of_one hbx
      have hne : (Value.slice ao l.length co).ownBlock ≠ some w.heap.size := fun e => by have := own_ge ho _ e; omega
      go_wp2_with fail
      refine (sortP_any (w.heap.size + 2) co w.heap.size ao l _ ho (by omega) c1 hne).mono ?_
      rintro e w2 ⟨rfl, l', hl', hp, hs, ho2, hg2⟩
      have hb2 := grown_heap hg2 hbx hne
      have c2 := cell_of_one hb2
      have hge := own_ge ho
      have E2 : Ext w w2 := E.grown hg2 (fun k hk => by have := hge k hk; omega)
      obtain ⟨r1, r2, r3⟩ := gath_end hG hl0 hp hs hF.2.1
      go_wp2
      go_ret
      exact ⟨_, l', rfl, r1, r2, r3, by omega, by rw [hl']; exact own_base ho2 (by omega), E2⟩
    · intro x c w1 cnt1 hwx hwc hlx hfx hrg1 hlt hg1 hs1 hen
      have hge := own_ge ho
      have E1' : Ext w w1 := E.grown hg1 (fun k hk => by injection hk with hk; omega)
      have hb1 := grown_heap hg1 hbx (by simp)
      have hne : v.ownBlock ≠ some (w.heap.size + 1) := fun e => by have := hge _ e; omega
      have ho1 := grown_own hg1 ho (.inr hne)
      by_cases hc : c = 0
      · subst hc
        have hG' := gath_drop hG hwx hlx hfx
        have HG := hid hG'
        clear hG hG'
        go_wp2
        go_roundw
        case rel => exact ⟨_, cnt1, l, v, hrg1, HG.out, by omega, hb1, ho1, E1'⟩
        case measure => rw [hrg1.left_eq, hrg.left_eq]; exact hlt
      · have hG' := gath_keep hG hwx hlx hfx hc
        have hc' : (c != 0) = true := by simp [hc]
        have HG := hid hG'
        clear hG hG' hc
        obtain ⟨ao, co, rfl⟩ := own_form ho
        have c1 := cell_of_one hb1
        have f1 := free_of_one hb1
        have hb1a := ((Ext.refl w1).alloc (.cells #[.string x, .int .i64 c] 98)).heap hb1
        have bn := heap_alloc_new w1 (.cells #[.string x, .int .i64 c] 98)
        have hsv : Seg (w1.alloc (.cells #[.string x, .int .i64 c] 98)) (.slice (some ⟨w1.heap.size, 0, none⟩) 1 1) 2 1 [.string x, .int .i64 c] :=
          ⟨rfl, _, _, rfl, Nat.le_refl _, by simp [maxLen], fun _ => ⟨w1.heap.size, 0, rfl, fun j u hu => by have := seg_vb bn j u hu; rwa [addr_add] at this⟩⟩
        have hrg1a := hrg1.alloc (.cells #[.string x, .int .i64 c] 98)
        have E1a := E1'.alloc (.cells #[.string x, .int .i64 c] 98)
        have hB : w.heap.size + 2 ≤ (w1.alloc (.cells #[.string x, .int .i64 c] 98)).heap.size := by have := hrg1.lt; simp; omega
        have hne2 : (Value.slice ao l.length co).ownBlock ≠ some w.heap.size := fun e => by have := hge _ e; omega
        have hne3 : (Value.slice ao l.length co).ownBlock ≠ some b := fun e => by have := hge _ e; omega
        clear bn hs1
        go_wp2_with (first | (at_builtin; refine (wpList_app rfl _ _ 89 rfl (w.heap.size + 2) 98 (.agg #[.string ⟨#[]⟩, .int .i64 0]) 2 24 Tryd.underlying89 infoP rfl (by decide) _ l.length (cP l) rfl (ho1.alloc _) (.slice (some ⟨w1.heap.size, 0, none⟩) 1 1) 1 [.string x, .int .i64 c] rfl hsv (kv_one _ _) (by omega) (by unfold maxLen; omega) hB ?_); intro v' w4 ho' hg; obtain ⟨a4, c4', rfl⟩ := own_form ho'; have hb4 := grown_heap hg hb1a hne2; have c4 := cell_of_one hb4; have f4 := free_of_one hb4))
        go_roundw
        case rel =>
          have hrg4 := hrg1a.kept hg (fun e => hne3 e.symm) (fun e => hne e.symm)
          have hrg5 := hrg4.kept (set_grown w4 ⟨w.heap.size, 0, none⟩ (.slice a4 (l.length + 1) c4')) (by simp; omega) (by simp)
          have E4 : Ext w w4 := E1a.grown hg (fun k hk => by have := hge k hk; omega)
          refine ⟨_, cnt1, l ++ [(x, c)], _, hrg5, HG.out, by simp; omega, one_setCell hb4, ?_, E4.setCell (Nat.le_refl _) _⟩
          have := own_set_far ho' (p := ⟨w.heap.size, 0, none⟩) (u := .slice a4 (l.length + 1) c4') (by simp)
          rw [List.length_append, cP_app, cP_one1]
          exact this
        case measure =>
          have hrg4 := hrg1a.kept hg (fun e => hne3 e.symm) (fun e => hne e.symm)
          have hrg5 := hrg4.kept (set_grown w4 ⟨w.heap.size, 0, none⟩ (.slice a4 (l.length + 1) c4')) (by simp; omega) (by simp)
          rw [hrg5.left_eq, hrg.left_eq]; exact hlt
end Go.Proofs.YtomgeolmfpijoaaDoor
