/- Contracts and lemmas for the proof of DeedRuns; each theorem states its own conditions. -/
import Derived.Test.YtomgeolmfpijoaaDoorQDeedRunsaj
import Derived.Test.YtomgeolmfpijoaaDoorQDeedRunsal
import Derived.Test.YtomgeolmfpijoaaDoorQDeedRunsan
import Derived.Test.YtomgeolmfpijoaaDoorQDeedRunsax
import Derived.Test.YtomgeolmfpijoaaDoorQDeedRunsay
import Derived.WalkLawsBesides
import Derived.Carry
set_option linter.unusedVariables false
set_option linter.unusedSimpArgs false
/- Contracts and lemmas for the proofs of this seat; each theorem states its own conditions. -/
namespace Go.Proofs.YtomgeolmfpijoaaDoor
open Go.RowKit Go.Maps
/-! the document's Value, Store, Of -/
theorem rvalue_any (n : Int) (w : World) : Calls Tryd.prog 106 #[.int .i64 n] w fun e w' => e = .returned (.bool (valB n)) ∧ w' = w := by
  have WI := hid (rwithin_any n (-1000000000) 1000000000 w)
  have hv : (decide (-1000000000 ≤ n) && decide (n ≤ 1000000000)) = valB n := by rw [Bool.eq_iff_iff]; simp [valB]
  rw [hv] at WI
  have WI2 := hid WI.out
  clear WI hv
  go_enter Tryd.func106, Tryd.ntmps106
  go_wp2_with fail
  refine (WI2.out).mono ?_
  rintro e w' ⟨rfl, rfl⟩
  go_wp2
  go_ret
  exact ⟨rfl, rfl⟩
/-- what Of's map holds after k pairs -/
def ofF (l : Prs) : Nat → ByteArray → Option Int
  | 0 => fun _ => none
  | k + 1 => fun x => if x = (l.getD k (⟨#[]⟩, 0)).1 then some (l.getD k (⟨#[]⟩, 0)).2 else ofF l k x
theorem ofF_step (l : Prs) {k : Nat} (h : k < l.length) : ofF l (k + 1) = fun x => if x = l[k].1 then some l[k].2 else ofF l k x := by
  rw [ofF, show l.getD k (⟨#[]⟩, 0) = l[k] by simp [h]]
def PrsW (l : Prs) : Prop := ∀ p ∈ l, p.1.size ≤ maxLen ∧ -9223372036854775808 ≤ p.2 ∧ p.2 ≤ 9223372036854775807
def ORel (w : World) (l : Prs) (k : Nat) (wr : World) : Prop :=
  ∃ (D : DU), wr.ownsMap Tryd.prog 9 (plainElem Tryd.prog 3) w.heap.size k D ∧ MapF kS okS dI D (ofF l k) ∧ Ext w wr
theorem orel_put {w w3 : World} {l : Prs} {k : Nat} {D : DU} {key : ByteArray} {c : Int} (hF : MapF kS okS dI D (ofF l k)) (hst : ofF l (k + 1) = fun x => if x = key then some c else ofF l k x) (hk : key.size ≤ maxLen)
    (hown : w3.ownsMap Tryd.prog 9 (plainElem Tryd.prog 3) w.heap.size (k + 1) (D.put (kS key) (dI c))) (E : Ext w w3) : ORel w l (k + 1) w3 :=
  ⟨_, hown, by rw [hst]; exact hF.put kS_inj kS_is hk c, E⟩
set_option maxRecDepth 10000 in
set_option maxHeartbeats 1000000 in
theorem rof_any (v : Value) (l : Prs) (w : World) (hv : Seg w v 2 l.length (cP l)) (hw : PrsW l) (hlen : l.length ≤ 1000000) :
    Calls Tryd.prog 67 #[v] w fun e w' => ∃ b D, e = .returned (.map (some b)) ∧ b = w.heap.size ∧ w'.ownsMap Tryd.prog 9 (plainElem Tryd.prog 3) b l.length D ∧ MapF kS okS dI D (ofF l l.length) ∧ Ext w w' := by
  obtain ⟨a, c, rfl⟩ := seg_form hv
  have HV := hid hv
  clear hv
  have hmm := @run_makeMap Tryd.prog
  have b0 := World.ownsMap_made w Tryd.prog 9 (plainElem (H := Unit) Tryd.prog 3)
  have E0 := (Ext.refl w).alloc (.map #[] 0)
  go_enter Tryd.func67, Tryd.ntmps67
  go_wp2
  go_loopw [5, 9] (fun _ i wr => ∃ k : Nat, k ≤ l.length ∧ i = .int .i64 k ∧ ORel w l k wr) (fun _ i _ => l.length - (intOf i).toNat)
  case atStart => exact ⟨0, Nat.zero_le _, rfl, _, b0, MapF.empty, E0⟩
  case round =>
    clear b0 E0 hmm
    obtain ⟨k, hk, rfl, D, hown, hF, E⟩ := hrel
    by_cases hlt : k < l.length
    · obtain ⟨b, off, rfl, _, m1, m2, hc⟩ := seg_cells HV.out (by omega)
      unfold maxLen at m2
      have cc := seg_pair hc hlt
      have c0 := E.cell cc.1
      have c1 := E.cell cc.2
      obtain ⟨w1, w2, w3⟩ := hw _ (List.getElem_mem hlt)
      have hst := ofF_step l hlt
      generalize l[k] = p at c0 c1 w1 w2 w3 hst
      obtain ⟨key, z⟩ := p
      dsimp only at c0 c1 w1 w2 w3 hst
      have HST := hid hst
      clear hst hc cc
      have EA := (Ext.refl wr).alloc (.cells #[.string key, .int .i64 z] 98)
      have xb := blk2 (heap_alloc_new wr (.cells #[.string key, .int .i64 z] 98))
      have hown1 := ownsMap_ext hown EA
      have hwf : (Lit.int .i64 z).wf = true := WalkArith.wf_i64 (by omega)
      have hkey := WideMaps.keyOf_string_mk Tryd.underlying9 (P := Tryd.prog) (k := 9) (s := key) w1
      clear hown
      go_wp2_with (first
        | (at_mapUpdate; refine wpList_mapUpdate_own _ rfl _ _ _ 101 rfl 9 3 lawS Tryd.underlying101 _ w.heap.size k D rfl hown1 (by unfold maxLen; omega) _ _ (kS key) rfl rfl hkey (dI z) [] (plainElem_int Tryd.underlying3 hwf) ?_; intro w3 hown3 hg3))
      go_roundw
      case rel => exact ⟨k + 1, by omega, by go_num, orel_put hF HST.out w1 hown3 ((E.trans EA).grown hg3 (fun j hj => by injection hj with hj; omega))⟩
      case measure => simp [intOf] <;> omega
    · obtain rfl : k = l.length := by omega
      go_wp2
      go_ret
      exact ⟨_, D, rfl, rfl, hown, hF, E⟩
end Go.Proofs.YtomgeolmfpijoaaDoor
