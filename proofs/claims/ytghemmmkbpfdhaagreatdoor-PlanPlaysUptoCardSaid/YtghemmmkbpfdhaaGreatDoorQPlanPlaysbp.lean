/- Contracts and lemmas for the proof of PlanPlays; each theorem states its own conditions. -/
import Derived.Test.YtghemmmkbpfdhaaGreatDoorQPlanPlaysam
import Derived.Test.YtghemmmkbpfdhaaGreatDoorQPlanPlaysbo
import Derived.Test.YtghemmmkbpfdhaaGreatDoorQPlanPlaysaf
import Derived.Test.YtghemmmkbpfdhaaGreatDoorQPlanPlaysao
import Derived.Test.YtghemmmkbpfdhaaGreatDoorQPlanPlaysav
import Derived.WalkLawsBesides
import Derived.Carry
set_option linter.unusedVariables false
set_option linter.unusedSimpArgs false
/- Contracts and lemmas for the proofs of this seat; each theorem states its own conditions. -/
namespace Go.Proofs.YtghemmmkbpfdhaaGreatDoor
open Go.RowKit Go.Maps
/-! maps of texts to numbers: m[k] -/
/-- what is there, 0 if nothing is -/
def atF (f : ByteArray → Option Int) (k : ByteArray) : Int := (f k).getD 0
section
variable {P : Program} (w : World) {ops : Array Oper} {rest : List Oper} {o : Oper} {a : Act} {Q : Exit → Act → World → Prop}
theorem wpList_lookup_mi (hg : o.guard = none) (m x : Operand) (t : TypeId) (hop : o.op = Op.lookup t m x false)
    (k e : TypeId) (K : Keyed P k) (ht : P.underlying t = some (.map k e)) (he : P.underlying e = some (.int .i64)) (hz : (zeroValue e).run P w = .ok (.int .i64 0) w) (b n : Nat) (D : DU) (f : ByteArray → Option Int) (hF : MapF kS okS dI D f)
    (hm : a.eval m = .map (some b)) (hown : w.ownsMap P k (plainElem P e) b n D) (key : Value) (kk : ByteArray) (hkk : okS kk) (hx : a.eval x = key) (hkey : Go.keyOf P k key = some (kS kk))
    (hK : wpList P ops Q rest (a.put o.dst (.int .i64 (atF f kk))) w) : wpList P ops Q (o :: rest) a w :=
  wpList_lookup_own_int w hg m x t hop k e .i64 K ht he hz b n D hm hown key _ hx hkey fun c hat _ => by
    have := hF.look dI_inj hkk hat
    subst this; exact hK
theorem wpList_lookup_mig (hg : Region.wanted o (yielded ops a.tmps) = true) (m x : Operand) (t : TypeId) (hop : o.op = Op.lookup t m x false)
    (k e : TypeId) (K : Keyed P k) (ht : P.underlying t = some (.map k e)) (he : P.underlying e = some (.int .i64)) (hz : (zeroValue e).run P w = .ok (.int .i64 0) w) (b n : Nat) (D : DU) (f : ByteArray → Option Int) (hF : MapF kS okS dI D f)
    (hm : a.eval m = .map (some b)) (hown : w.ownsMap P k (plainElem P e) b n D) (key : Value) (kk : ByteArray) (hkk : okS kk) (hx : a.eval x = key) (hkey : Go.keyOf P k key = some (kS kk))
    (hK : wpList P ops Q rest (a.put o.dst (.int .i64 (atF f kk))) w) : wpList P ops Q (o :: rest) a w := by
  refine wpList_step fun K' hK' => ?_
  rw [if_pos hg]
  obtain ⟨c, hrun, hat, hwc⟩ := hown.lookup_int K ht he hz hkey
  have := hF.look dI_inj hkk hat
  subst this
  unfold Oper.wp
  simp [execOp, hop, hm, hx, hrun, Result.andThen]
  exact hK' _ _ hK
end
end Go.Proofs.YtghemmmkbpfdhaaGreatDoor

/- Contracts and lemmas for the proofs of this seat; each theorem states its own conditions. -/
namespace Go.Proofs.YtghemmmkbpfdhaaGreatDoor
open Go.RowKit Go.Maps
/-! the document's Value, Store, Of -/
theorem rvalue_any (n : Int) (w : World) : Calls Tryz.prog 42 #[.int .i64 n] w fun e w' => e = .returned (.bool (valB n)) ∧ w' = w := by
  have WI := hid (rwithin_any n (-1000000000) 1000000000 w)
  have hv : (decide (-1000000000 ≤ n) && decide (n ≤ 1000000000)) = valB n := by rw [Bool.eq_iff_iff]; simp [valB]
  rw [hv] at WI
  have WI2 := hid WI.out
  clear WI hv
  go_enter Tryz.func42, Tryz.ntmps42
  go_wp2_with fail
  refine (WI2.out).mono ?_
  rintro e w' ⟨rfl, rfl⟩
  go_wp2
  go_ret
  exact ⟨rfl, rfl⟩
/-- what Of's map holds after k pairs -/
def ofF (l : Prs) : Nat → ByteArray → Option Int
  | 0 => fun _ => none
  | k + 1 => fun x => if x = (l.getD k (⟨#[]⟩, 0)).1 then some (l.getD k (⟨#[]⟩, 0)).2 else ofF l k x
theorem ofF_step (l : Prs) {k : Nat} (h : k < l.length) : ofF l (k + 1) = fun x => if x = l[k].1 then some l[k].2 else ofF l k x := by
  rw [ofF, show l.getD k (⟨#[]⟩, 0) = l[k] by simp [h]]
def PrsW (l : Prs) : Prop := ∀ p ∈ l, p.1.size ≤ maxLen ∧ -9223372036854775808 ≤ p.2 ∧ p.2 ≤ 9223372036854775807
def ORel (w : World) (l : Prs) (k : Nat) (wr : World) : Prop :=
  ∃ (D : DU), wr.ownsMap Tryz.prog 9 (plainElem Tryz.prog 3) w.heap.size k D ∧ MapF kS okS dI D (ofF l k) ∧ Ext w wr
theorem orel_put {w w3 : World} {l : Prs} {k : Nat} {D : DU} {key : ByteArray} {c : Int} (hF : MapF kS okS dI D (ofF l k)) (hst : ofF l (k + 1) = fun x => if x = key then some c else ofF l k x) (hk : key.size ≤ maxLen)
    (hown : w3.ownsMap Tryz.prog 9 (plainElem Tryz.prog 3) w.heap.size (k + 1) (D.put (kS key) (dI c))) (E : Ext w w3) : ORel w l (k + 1) w3 :=
  ⟨_, hown, by rw [hst]; exact hF.put kS_inj kS_is hk c, E⟩
set_option maxRecDepth 10000 in
set_option maxHeartbeats 1000000 in
theorem rof_any (v : Value) (l : Prs) (w : World) (hv : Seg w v 2 l.length (cP l)) (hw : PrsW l) (hlen : l.length ≤ 1000000) :
    Calls Tryz.prog 11 #[v] w fun e w' => ∃ b D, e = .returned (.map (some b)) ∧ b = w.heap.size ∧ w'.ownsMap Tryz.prog 9 (plainElem Tryz.prog 3) b l.length D ∧ MapF kS okS dI D (ofF l l.length) ∧ Ext w w' := by
  obtain ⟨a, c, rfl⟩ := seg_form hv
  have HV := hid hv
  clear hv
  have hmm := @run_makeMap Tryz.prog
  have b0 := World.ownsMap_made w Tryz.prog 9 (plainElem (H := Unit) Tryz.prog 3)
  have E0 := (Ext.refl w).alloc (.map #[] 0)
  go_enter Tryz.func11, Tryz.ntmps11
  go_wp2
  go_loopw [5, 9] (fun _ i wr => ∃ k : Nat, k ≤ l.length ∧ i = .int .i64 k ∧ ORel w l k wr) (fun _ i _ => l.length - (intOf i).toNat)
  case atStart => exact ⟨0, Nat.zero_le _, rfl, _, b0, MapF.empty, E0⟩
  case round =>
    clear b0 E0 hmm
    obtain ⟨k, hk, rfl, D, hown, hF, E⟩ := hrel
    by_cases hlt : k < l.length
    · obtain ⟨b, off, rfl, _, m1, m2, hc⟩ := seg_cells HV.out (by omega)
      unfold maxLen at m2
      have cc := seg_pair hc hlt
      have c0 := E.cell cc.1
      have c1 := E.cell cc.2
      obtain ⟨w1, w2, w3⟩ := hw _ (List.getElem_mem hlt)
      have hst := ofF_step l hlt
      generalize l[k] = p at c0 c1 w1 w2 w3 hst
      obtain ⟨key, z⟩ := p
      dsimp only at c0 c1 w1 w2 w3 hst
      have HST := hid hst
      clear hst hc cc
      have EA := (Ext.refl wr).alloc (.cells #[.string key, .int .i64 z] 45)
      have xb := blk2 (heap_alloc_new wr (.cells #[.string key, .int .i64 z] 45))
      have hown1 := ownsMap_ext hown EA
      have hwf : (Lit.int .i64 z).wf = true := WalkArith.wf_i64 (by omega)
      have hkey := WideMaps.keyOf_string_mk Tryz.underlying9 (P := Tryz.prog) (k := 9) (s := key) w1
      clear hown
      go_wp2_with (first
        | (at_mapUpdate; refine wpList_mapUpdate_own _ rfl _ _ _ 39 rfl 9 3 lawS Tryz.underlying39 _ w.heap.size k D rfl hown1 (by unfold maxLen; omega) _ _ (kS key) rfl rfl hkey (dI z) [] (plainElem_int Tryz.underlying3 hwf) ?_; intro w3 hown3 hg3))
      go_roundw
      case rel => exact ⟨k + 1, by omega, by go_num, orel_put hF HST.out w1 hown3 ((E.trans EA).grown hg3 (fun j hj => by injection hj with hj; omega))⟩
      case measure => simp [intOf] <;> omega
    · obtain rfl : k = l.length := by omega
      go_wp2
      go_ret
      exact ⟨_, D, rfl, rfl, hown, hF, E⟩
end Go.Proofs.YtghemmmkbpfdhaaGreatDoor

/- Contracts and lemmas for the proofs of this seat; each theorem states its own conditions. -/
namespace Go.Proofs.YtghemmmkbpfdhaaGreatDoor
open Go.RowKit
/-! the document's Store -/
def prevP (l : Prs) (k : Nat) : ByteArray := if k = 0 then ⟨#[]⟩ else (l.getD (k - 1) (⟨#[]⟩, 0)).1
theorem prevP_succ {l : Prs} {k : Nat} (h : k < l.length) : prevP l (k + 1) = l[k].1 := by simp [prevP, h]
theorem prevP_blt {l : Prs} {k : Nat} (hk : k < l.length) (h : keyB l[k].1 = true) : (blt (prevP l k) l[k].1 = true) ↔ (0 < k → blt (l[k - 1]'(by omega)).1 l[k].1 = true) := by
  cases k with
  | zero => simp [prevP, blt_empty h]
  | succ k =>
    rw [prevP_succ (show k < l.length by omega)]
    simp
theorem leq_of_blt {a b : ByteArray} (h : blt a b = true) : Op.bytesLess b.toList a.toList = false ∧ (b.toList == a.toList) = false ∧ ¬ b.toList = a.toList := by
  have h4 : (b.toList == a.toList) = false := by
    cases hh : (b.toList == a.toList) with
    | false => rfl
    | true =>
      have h' : b = a := toList_inj (by simpa using hh)
      rw [h', blt_irrefl] at h; cases h
  exact ⟨blt_asymm h, h4, by simpa using h4⟩
theorem leq_of_not {a b : ByteArray} (h : blt a b = false) : Op.bytesLess b.toList a.toList = true ∨ (Op.bytesLess b.toList a.toList = false ∧ (b.toList == a.toList) = true ∧ b.toList = a.toList) := by
  cases h2 : Op.bytesLess b.toList a.toList with
  | true => exact .inl rfl
  | false =>
    refine .inr ⟨rfl, ?_⟩
    have : b.toList = a.toList := by
      rcases bl_tri b.toList a.toList with h' | h' | h'
      · rw [h2] at h'; cases h'
      · exact h'
      · have h'' : blt a b = true := h'
        rw [h] at h''; cases h''
    exact ⟨by simpa using this, this⟩
set_option maxRecDepth 10000 in
set_option maxHeartbeats 2000000 in
theorem rstore_any (v : Value) (l : Prs) (w : World) (hv : Seg w v 2 l.length (cP l)) (hk : ∀ p ∈ l, p.1.size ≤ 9223372036854775807) :
    Calls Tryz.prog 8 #[v] w fun e w' => e = .returned (.int .i64 (storeErr l)) ∧ Ext w w' := by
  obtain ⟨a, c, rfl⟩ := seg_form hv
  have HV := hid hv
  have hll : l.length ≤ 9223372036854775807 := by obtain ⟨_, _, _, e, h1, h2, _⟩ := hv; injection e with _ _ e3; subst e3; unfold maxLen at h2; omega
  clear hv
  go_enter Tryz.func8, Tryz.ntmps8
  go_wp2
  go_loopw [3, 5, 8, 12, 17, 27] (fun lv _ iv _ _ _ wr => ∃ k : Nat, k ≤ l.length ∧ iv = .int .i64 k ∧ lv = .string (prevP l k) ∧ zeroTo (pairErr l) k ∧ Ext w wr) (fun _ _ iv _ _ _ _ => l.length - (intOf iv).toNat)
  case atStart => exact ⟨0, Nat.zero_le _, rfl, rfl, fun j h => absurd h (by omega), Ext.refl _⟩
  case round =>
    obtain ⟨wo, rfl⟩ : ∃ wo : World, wo = wr := ⟨_, rfl⟩
    obtain ⟨k, hkl, rfl, rfl, hall, E⟩ := hrel
    by_cases hlt : k < l.length
    · obtain ⟨b, off, rfl, _, m1, m2, hc⟩ := seg_cells HV.out (by omega)
      unfold maxLen at m2
      have cc := seg_pair hc hlt
      have c0 := E.cell cc.1
      have c1 := E.cell cc.2
      have hsz := hk _ (List.getElem_mem hlt)
      have FE := hid (fun (h : pairErr l k ≠ 0) => firstE_at hall h hlt)
      have ZS := hid (fun (h : pairErr l k = 0) => zeroTo_succ hall h)
      have PK := hid (pairErr_key hlt)
      have PV := hid (pairErr_val hlt)
      have PO := hid (fun (hkb : keyB l[k].1 = true) (b' : valB l[k].2 = true) (c' : l[k].2 ≠ 0) (h : blt (prevP l k) l[k].1 = false) => (by
        have hne : ¬ (0 < k → blt (l[k - 1]'(by omega)).1 l[k].1 = true) := fun hh => by rw [(prevP_blt hlt hkb).2 hh] at h; cases h
        have h0 : 0 < k := by
          rcases Nat.eq_zero_or_pos k with e | e
          · exact absurd (fun h' => by omega) hne
          · exact e
        have hb : blt (l[k - 1]'(by omega)).1 l[k].1 = false := by
          cases hq : blt (l[k - 1]'(by omega)).1 l[k].1 with
          | false => rfl
          | true => exact absurd (fun _ => hq) hne
        exact pairErr_ord hlt hkb b' c' h0 hb : pairErr l k = 3))
      have PN := hid (fun (hkb : keyB l[k].1 = true) (b' : valB l[k].2 = true) (c' : l[k].2 ≠ 0) (h : blt (prevP l k) l[k].1 = true) => pairErr_no hlt hkb b' c' ((prevP_blt hlt hkb).1 h))
      have PS' := hid (prevP_succ hlt)
      generalize prevP l k = lst at PO PN ⊢
      generalize l[k] = p at c0 c1 hsz PK PV PO PN PS'
      obtain ⟨key, z⟩ := p
      dsimp only at c0 c1 hsz PK PV PO PN PS'
      have RK := hid (fun w' => rkey_any key w' hsz)
      have RV := hid (fun w' => rvalue_any z w')
      have EA := (Ext.refl wo).alloc (.cells #[.string key, .int .i64 z] 45)
      have xb0 := heap_alloc_new wo (.cells #[.string key, .int .i64 z] 45)
      have xb := blk2 xb0
      clear hc cc hall
      cases hkey : keyB key with
      | false =>
        have hr := hid (show storeErr l = 3 by unfold storeErr; rw [FE.out (by rw [PK.out hkey]; omega), PK.out hkey])
        go_wp2_with fail
        refine (RK.out _).mono ?_
        rw [hkey]
        rintro e w1 ⟨rfl, E1⟩
        go_wp2
        go_ret
        exact ⟨rI hr.out.symm, E.trans (EA.trans E1)⟩
      | true =>
        cases hz : (z == 0) with
        | true =>
          have hz' : z = 0 := by simpa using hz
          have hr := hid (show storeErr l = 1 by unfold storeErr; rw [FE.out (by rw [PV.out hkey (.inr hz')]; omega), PV.out hkey (.inr hz')])
          clear hz'
          go_wp2_with fail
          refine (RK.out _).mono ?_
          rw [hkey]
          rintro e w1 ⟨rfl, E1⟩
          have y := blk2 (E1.heap xb0)
          go_wp2
          go_ret
          exact ⟨rI hr.out.symm, E.trans (EA.trans E1)⟩
        | false =>
          have hz' : z ≠ 0 := by simpa using hz
          have HZ := hid hz'
          clear hz'
          cases hvb : valB z with
          | false =>
            have hr := hid (show storeErr l = 1 by unfold storeErr; rw [FE.out (by rw [PV.out hkey (.inl hvb)]; omega), PV.out hkey (.inl hvb)])
            go_wp2_with fail
            refine (RK.out _).mono ?_
            rw [hkey]
            rintro e w1 ⟨rfl, E1⟩
            have y := blk2 (E1.heap xb0)
            go_wp2_with fail
            refine (RV.out _).mono ?_
            rw [hvb]
            rintro e w2 ⟨rfl, rfl⟩
            go_wp2
            go_ret
            exact ⟨rI hr.out.symm, E.trans (EA.trans E1)⟩
          | true =>
            cases hb : blt lst key with
            | false =>
              have hp := hid (PO.out hkey hvb HZ.out hb)
              have hr := hid (show storeErr l = 3 by unfold storeErr; rw [FE.out (by rw [hp.out]; omega), hp.out])
              rcases leq_of_not hb with q1 | ⟨q1, q2, q3⟩
              · clear hb
                go_wp2_with fail
                refine (RK.out _).mono ?_
                rw [hkey]
                rintro e w1 ⟨rfl, E1⟩
                have y := blk2 (E1.heap xb0)
                go_wp2_with fail
                refine (RV.out _).mono ?_
                rw [hvb]
                rintro e w2 ⟨rfl, rfl⟩
                go_wp2
                go_ret
                exact ⟨rI hr.out.symm, E.trans (EA.trans E1)⟩
              · clear hb
                go_wp2_with fail
                refine (RK.out _).mono ?_
                rw [hkey]
                rintro e w1 ⟨rfl, E1⟩
                have y := blk2 (E1.heap xb0)
                go_wp2_with fail
                refine (RV.out _).mono ?_
                rw [hvb]
                rintro e w2 ⟨rfl, rfl⟩
                go_wp2
                go_ret
                exact ⟨rI hr.out.symm, E.trans (EA.trans E1)⟩
            | true =>
              have hp := hid (PN.out hkey hvb HZ.out hb)
              obtain ⟨q1, q2, q3⟩ := leq_of_blt hb
              clear hb
              go_wp2_with fail
              refine (RK.out _).mono ?_
              rw [hkey]
              rintro e w1 ⟨rfl, E1⟩
              have y := blk2 (E1.heap xb0)
              go_wp2_with fail
              refine (RV.out _).mono ?_
              rw [hvb]
              rintro e w2 ⟨rfl, rfl⟩
              go_wp2
              go_roundw
              case rel => exact ⟨k + 1, by omega, by go_num, by rw [PS'.out], ZS.out hp.out, E.trans (EA.trans E1)⟩
              case measure => simp [intOf] <;> omega
    · obtain rfl : k = l.length := by omega
      go_wp2
      go_ret
      exact ⟨rI (firstE_zero hall).symm, E⟩
end Go.Proofs.YtghemmmkbpfdhaaGreatDoor
