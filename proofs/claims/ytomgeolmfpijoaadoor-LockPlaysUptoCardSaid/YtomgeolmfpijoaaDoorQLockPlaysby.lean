/- Contracts and lemmas for the proof of LockPlays; each theorem states its own conditions. -/
import Derived.Test.YtomgeolmfpijoaaDoorQLockPlaysbp
import Derived.Test.YtomgeolmfpijoaaDoorQLockPlaysbq
import Derived.Test.YtomgeolmfpijoaaDoorQLockPlaysbw
import Derived.Test.YtomgeolmfpijoaaDoorQLockPlaysbs
import Derived.Test.YtomgeolmfpijoaaDoorQLockPlaysav
import Derived.Test.YtomgeolmfpijoaaDoorQLockPlaysbc
import Derived.Test.YtomgeolmfpijoaaDoorQLockPlaysbx
import Derived.Deep.CutBlock
set_option linter.unusedVariables false
set_option linter.unusedSimpArgs false
/- Contracts and lemmas for the proofs of this seat; each theorem states its own conditions. -/
namespace Go.Proofs.YtomgeolmfpijoaaDoor
open Go.RowKit Go.Maps
/-! LockPlays: whatever is asked -/
def PLI (w : World) (B bt bk bd mb : Nat) (wr : World) : Prop := ∃ (A : List Ops) (g : Nat → Bool) (F : ByteArray → Option SV) (G : Int → Option SV) (aD : Option Addr) (cD : Nat) (aG : Option Addr) (cG : Nat) (us : List Value),
  LockSt wr B bt bk bd A g F G ∧ PlT w wr mb A g aD cD aG cG us
theorem PLI.ext {w wr w' : World} {B bt bk bd mb : Nat} (h : PLI w B bt bk bd mb wr) (E : Ext wr w') : PLI w B bt bk bd mb w' := by
  obtain ⟨A, g, F, G, aD, cD, aG, cG, us, h1, h2⟩ := h
  exact ⟨A, g, F, G, aD, cD, aG, cG, us, h1.ext E, h2.ext E⟩
theorem PLI.E {w wr : World} {B bt bk bd mb : Nat} (h : PLI w B bt bk bd mb wr) : Ext w wr := by
  obtain ⟨A, g, F, G, aD, cD, aG, cG, us, h1, h2⟩ := h
  exact h2.E
theorem pickD_mem (D : List Ops) (z : Int) : pickD D z = [] ∨ pickD D z ∈ D := by
  unfold pickD
  split
  · exact .inl rfl
  · rename_i h
    have hh := wi_hi (k := z) (n := D.length) (by omega)
    have hl := wi_lo (k := z) (n := D.length) (by omega)
    have : (wi z D.length).toNat < D.length := by omega
    rw [show D.getD (wi z D.length).toNat [] = D[(wi z D.length).toNat] by simp [this]]
    exact .inr (List.getElem_mem this)
theorem pickD_sm {D : List Ops} (h : ∀ d ∈ D, opsSm d) (z : Int) : opsSm (pickD D z) := by
  rcases pickD_mem D z with e | e
  · rw [e]; intro o ho; cases ho
  · exact h _ e
theorem getD_intW {l : List Int} (h : IntW l) (i : Nat) : -9223372036854775808 ≤ l.getD i 0 ∧ l.getD i 0 ≤ 9223372036854775807 := by
  by_cases hi : i < l.length
  · rw [show l.getD i 0 = l[i] by simp [hi]]; exact h _ (List.getElem_mem hi)
  · rw [show l.getD i 0 = 0 by simp [List.getD, List.getElem?_eq_none (Nat.le_of_not_lt hi)]]; omega
theorem isB_iff {A : List Ops} {g : Nat → Bool} {z : Int} : isB A g z = true ↔ ∃ s : Nat, z = (s : Int) ∧ s < A.length ∧ g s = false := by
  unfold isB
  constructor
  · intro h
    split at h
    · exact ⟨z.toNat, by omega, by omega, by simpa using h⟩
    · cases h
  · rintro ⟨s, rfl, h1, h2⟩
    rw [if_pos (by omega)]; simpa using h2
theorem isB_none {A : List Ops} {g : Nat → Bool} {z : Int} (h : isB A g z = false) : ∀ n : Nat, z = (n : Int) → n < A.length → g n = true := by
  intro n e1 e2
  cases hg : g n with
  | true => rfl
  | false => have := isB_iff.2 ⟨n, e1, e2, hg⟩; rw [h] at this; cases this
theorem equal_N (v u : Value) (L : List Nat) (w : World) (h : Seg w v 1 L.length (cN L)) (h' : Seg w u 1 L.length (cN L)) :
    Calls Tryd.prog 16 #[v, u] w fun e w' => e = .returned (.bool true) ∧ ∃ n, w' = w.drewN n := by
  have hl : L.length = (L.map fun (n : Nat) => (n : Int)).length := by simp
  rw [cN_cI, hl] at h h'
  have q := equal_Int v u (L.map fun (n : Nat) => (n : Int)) (L.map fun (n : Nat) => (n : Int)) w h h'
  rw [decide_eq_true rfl] at q
  exact q
set_option maxRecDepth 100000 in
set_option maxHeartbeats 8000000 in
theorem lplays_walk (v vd : Value) (ls : List (List Int)) (D : List Ops) (w : World) (hv : SegLL w v ls) (hb : ∀ l ∈ ls, IntW l) (hvd : SegDs w vd D) (hd : ∀ d ∈ D, opsSm d) :
    Calls Tryd.prog 6 #[v, vd] w fun e w' => e = .returned (.bool true) ∧ Ext w w' := by
  obtain ⟨vs, hvl, ⟨h0, a0, c0, rfl, m1, m2, hcell⟩, hrow⟩ := hv
  rw [hvl] at m1 h0 hcell ⊢
  unfold maxLen at m2
  obtain ⟨aD0, cD0, rfl, _⟩ := hvd.form
  have HC := hid hcell
  have HR := hid hrow
  have HVL := hid hvl
  have HDD := hid hvd
  clear hcell hrow hvl hvd h0
  go_enter Tryd.func6, Tryd.ntmps6
  go_wp2_with fail
  refine (lnew_ok _).mono ?_
  rintro e w1 ⟨bt1, bk1, bd1, rfl, L1, E1⟩
  have FN := hid (free_none L1 0 (by omega) (fun n _ h => absurd h (by simp)))
  clear L1
  go_wp2_with fail
  refine (FN.out).mono ?_
  clear FN
  rintro e w2 ⟨rfl, E2⟩
  replace E2 := E1.trans E2
  clear E1
  go_wp2_with fail
  refine (lnew_ok _).mono ?_
  rintro e w3 ⟨bt, bk, bd, rfl, L3, E3⟩
  have hB := E2.size'
  obtain ⟨B, hBB⟩ : ∃ B, w2.heap.size = B := ⟨_, rfl⟩
  rw [hBB] at L3 hB
  clear hBB
  replace E3 := E2.trans E3
  have EA := (Ext.refl w3).alloc (.cells #[.slice none 0 0, .slice none 0 0] 74)
  have P0 : PLI w B bt bk bd w3.heap.size (w3.alloc (.cells #[.slice none 0 0, .slice none 0 0] 74)) :=
    ⟨[], fun _ => false, _, _, none, 0, none, 0, [], L3.ext EA, ⟨heap_alloc_new _ _, E3.size', rfl, World.ownsRow_nil _ _ _ _, fun i u d h => by simp at h, World.ownsRow_nil _ _ _ _, E3.trans EA⟩⟩
  have HP0 := hid P0
  obtain ⟨mb, hmb⟩ : ∃ mb, w3.heap.size = mb := ⟨_, rfl⟩
  rw [hmb] at HP0
  clear L3 E2 EA P0 E3
  go_wp2_with fail
  clear hmb
  go_loopw [9, 10, 11, 12, 13, 14, 15, 16, 17, 18, 20, 34, 160] (fun _ _ _ _ _ _ _ _ _ _ _ iv _ wr => ∃ i : Nat, i ≤ ls.length ∧ iv = .int .i64 i ∧ Hid (PLI w B bt bk bd mb wr)) (fun _ _ _ _ _ _ _ _ _ _ _ iv _ _ => ls.length - (intOf iv).toNat)
  case atStart => exact ⟨0, Nat.zero_le _, rfl, HP0⟩
  case round =>
    clear HP0
    obtain ⟨wo, rfl⟩ : ∃ wo : World, wo = wr := ⟨_, rfl⟩
    obtain ⟨i, hi, rfl, HP⟩ := hrel
    have EW := HP.out.E
    by_cases hil : i < ls.length
    · obtain ⟨b, off, rfl, hc⟩ := HC.out (by omega)
      have hvi : i < vs.length := by have := HVL.out; omega
      have cu := EW.cell (hc i _ (List.getElem?_eq_getElem hvi))
      have hs := (HR.out i vs[i] ls[i] (List.getElem?_eq_getElem hvi) (List.getElem?_eq_getElem hil)).ext EW
      have hbl := hb _ (List.getElem_mem hil)
      obtain ⟨au, ku, hu⟩ := seg_form hs
      rw [hu] at cu hs
      have A1 := hid (rat_any _ ls[i] 1 wo hs (by omega))
      have A0 := hid (rat_any _ ls[i] 0 wo hs (by omega))
      rw [show ((1 : Int)).toNat = 1 from rfl] at A1
      rw [show ((0 : Int)).toNat = 0 from rfl] at A0
      have hz := getD_intW hbl 1
      clear hc hs hbl hu
      generalize ls[i].length = nl at *
      generalize ls[i].getD 1 0 = z at *
      generalize ls[i].getD 0 0 = z0 at *
      go_wp2_with fail
      refine (A1.out).mono ?_
      rintro e wa ⟨rfl, rfl⟩
      go_wp2_with fail
      refine (A0.out).mono ?_
      rintro e wa ⟨rfl, rfl⟩
      obtain ⟨wo, rfl⟩ : ∃ wo : World, wo = wa := ⟨_, rfl⟩
      go_upto_block 2 with fail
      clear A1 A0 cu
      go_cut [] from 35 to 181 (fun wx => Hid (PLI w B bt bk bd mb wx))
      case first =>
        obtain ⟨A, g, F, G, aD, cD, aG, cG, us, HL, HT⟩ := HP.out
        have h60 := HL.few
        by_cases q1 : z0 = 1
        · subst q1
          have PK := hid (pickD_any _ D z w wo HDD.out EW)
          have PS := pickD_sm hd z
          go_wp2_with fail
          refine (PK.out).mono ?_
          clear PK
          rintro e w5 ⟨ap, kp, rfl, sp, E5⟩
          generalize pickD D z = p at sp PS ⊢
          have EB := (Ext.refl w5).alloc (.cells #[.slice ap p.length kp] 46)
          have bx := heap_alloc_new w5 (.cells #[.slice ap p.length kp] 46)
          obtain ⟨W, hW⟩ : ∃ W, w5.alloc (.cells #[.slice ap p.length kp] 46) = W := ⟨_, rfl⟩
          obtain ⟨bd5, hbd5⟩ : ∃ bd5, w5.heap.size = bd5 := ⟨_, rfl⟩
          rw [hW] at EB bx
          rw [hbd5] at bx
          have cb := cell_of_one bx
          replace EB := E5.trans EB
          have E5s := E5.size'
          have HL1 := HL.ext EB
          have HT1 := HT.ext EB
          have hnb : w.heap.size ≤ bd5 := by have := (EW.trans E5).size'; omega
          have rlo : ∀ k, (Value.slice aD A.length cD).ownBlock = some k → k < bd5 := fun k h => by have := (HT.rD.lt k h).2; have := E5.size'; omega
          have hg0 := hid (HL.later A.length (Nat.le_refl _))
          clear E5 HP HL HT
          have SP := hid (fun w' (q : Ext w w') => sp.ext q)
          have RD := hid (fun w' (q : Ext w w') => rdeed_any _ p w' (sp.ext q) PS)
          by_cases hp0 : deedE p = 0
          · have pok := deed_ok hp0
            by_cases hA : A.length = 60
            · have AF := hid (add_full HL1 _ p (sp.ext HT1.E) pok (fun o ho => (PS o ho).2) hA)
              have qA : ((A.length : Int) == 60) = true := by simp; omega
              have RD1 := hid (fun w' (q : Ext W w') => RD.out w' (HT1.E.trans q))
              rw [hp0] at RD1
              have HPI := hid (fun w' (q : Ext W w') => (⟨A, g, F, G, aD, cD, aG, cG, us, HL1.ext q, HT1.ext q⟩ : PLI w B bt bk bd mb w'))
              have HBX := hid (fun w' (q : Ext W w') => (HT1.ext q).tab.deeds)
              clear hp0 SP RD HL1 HT1 EB sp bx PS hA pok h60
              go_wp2_with fail
              refine (AF.out).mono ?_
              clear AF
              rintro e w6 ⟨rfl, E6⟩
              have cb6 := E6.cell cb
              have RD2 := hid (RD1.out w6 E6)
              clear RD1
              go_wp2_with fail
              refine (RD2.out).mono ?_
              clear RD2
              rintro e w7 ⟨rfl, E7⟩
              have HQ := hid (HPI.out w7 (E6.trans E7))
              have cm := HBX.out w7 (E6.trans E7)
              clear HPI cb cb6
              go_wp2_with fail
              go_roundw
              case rel => exact ⟨i + 1, by omega, by go_num, HQ⟩
              case measure => simp [intOf] <;> omega
            · have AK := hid (add_ok HL1 _ p (sp.ext HT1.E) pok (fun o ho => (PS o ho).2) (by omega))
              have qA : ((A.length : Int) == 60) = false := by simp; omega
              have qn : ((A.length : Int) != (A.length : Int)) = false := by simp
              have HA := hid hA
              have HL1 := hid HL1
              have HT1 := hid HT1
              rw [hp0] at RD
              clear EB pok hA hp0
              go_wp2_with fail
              refine (AK.out).mono ?_
              clear AK
              rintro e w6 ⟨rfl, ⟨F6, G6, L6⟩, T6⟩
              have HT6 := HT1.out.tfr HL1.out T6 hB
              have bx6 := T6.heapG HL1.out.g bx (by decide) (by decide)
              have cb6 := cell_of_one bx6
              have RD2 := hid (RD.out w6 HT6.E)
              clear RD HT1 HL1 T6 cb bx
              go_wp2_with fail
              refine (RD2.out).mono ?_
              clear RD2
              rintro e w7 ⟨rfl, E7⟩
              have L7 := L6.ext E7
              have HT7 := HT6.ext E7
              have bx7 := E7.heap bx6
              have cb7 := cell_of_one bx7
              have cm := HT7.tab.deeds
              have cg := HT7.tab.gone
              clear L6 HT6 bx6 cb6 E7
              go_wp2_with fail
              have hap : ∀ k, (Value.slice aD A.length cD).ownBlock = some k → (Value.slice aG A.length cG).ownBlock ≠ some k := fun k h1 h2 => by
                rcases own_own_ne HT7.rD HT7.rG (by decide) with e | e
                · rw [e] at h1; cases h1
                · exact e (h1.trans h2.symm)
              have rlt : ∀ k, (Value.slice aD A.length cD).ownBlock = some k → k < w7.heap.size := fun k h => (HT7.rD.lt k h).2
              have ult : ∀ k, (Value.slice aG A.length cG).ownBlock = some k → k < w7.heap.size := fun k h => (HT7.rG.lt k h).2
              have gno : ∀ k, w7.heap.size ≤ k → (G2 (.slice aD A.length cD) A.length [.slice ap p.length kp] (.slice aG A.length cG) A.length [.bool false]) k = none := g2_none rlt ult
              have mbn : (G2 (.slice aD A.length cD) A.length [.slice ap p.length kp] (.slice aG A.length cG) A.length [.bool false]) mb = none := g2_off (own_ne HT7.rD HT7.box (by decide)) (own_ne HT7.rG HT7.box (by decide))
              have bdn : (G2 (.slice aD A.length cD) A.length [.slice ap p.length kp] (.slice aG A.length cG) A.length [.bool false]) bd5 = none := g2_off (fun e => by have := rlo _ e; omega) (own_ne HT7.rG bx7 (by decide))
              have hw7 := HT7.E.size'
              clear rlt ult rlo
              refine PR.wp_region_ph (gf_fr (G2 (.slice aD A.length cD) A.length [.slice ap p.length kp] (.slice aG A.length cG) A.length [.bool false])) [PR.RS.k (.pointer (some ⟨mb, 0, none⟩)), PR.RS.k (.pointer (some ⟨mb, 0, none⟩)), PR.RS.k (.pointer (some ⟨mb, 0, none⟩)), PR.RS.k (.pointer (some ⟨mb, 0, none⟩)), PR.RS.k (.pointer (some ⟨mb, 0, none⟩)), PR.RS.k (.slice aD A.length cD), PR.RS.k (.agg #[.slice ap p.length kp]), PR.RS.p (NewB w7.heap.size #[.slice ap p.length kp] 46 1), PR.RS.p (App1 (G2 (.slice aD A.length cD) A.length [.slice ap p.length kp] (.slice aG A.length cG) A.length [.bool false]) w7.heap.size w.heap.size 46 (.slice aD A.length cD) (A.length + 1) (us ++ [.slice ap p.length kp])), PR.RS.k (.pointer (some ⟨mb, 0, none⟩)), PR.RS.k (.pointer (some ⟨mb, 0, none⟩)), PR.RS.k (.pointer (some ⟨mb, 1, none⟩)), PR.RS.k (.slice aG A.length cG), PR.RS.p (NewB w7.heap.size #[.bool false] 4 1), PR.RS.p (App1 (G2 (.slice aD A.length cD) A.length [.slice ap p.length kp] (.slice aG A.length cG) A.length [.bool false]) w7.heap.size w.heap.size 4 (.slice aG A.length cG) (A.length + 1) (cB (goneB g A.length) ++ [.bool false]))] [[], [], [], [], [], [], [], [], [], [], [], [], [], [], []] [1] (by kernel_rfl) (by kernel_rfl) (by kernel_rfl) rfl rfl rfl (by kernel_rfl) ?hs ?hC ?he
              case hC =>
                intro i hi
                simp only [List.mem_cons, List.not_mem_nil, or_false] at hi
                subst hi
                all_goals (
                  intro o u ho hu
                  simp [PR.RS.k, PR.RS.p, PR.RS.t, PR.RS.d, PR.RS.any] at ho hu
                  subst ho; subst hu
                  refine ⟨rfl, fun x w2 hd w3 => ?_⟩
                  try simp [PR.PhDeps, PR.at_k, PR.at_p, PR.at_d, PR.at_any, Region.binds] at hd
                  simp [frL, hd, List.take_succ_cons, execOp, Act.eval, Frame.eval, Instr.extract])
              case hs =>
                refine ⟨?_, ?_, ?_, ?_, ?_, ?_, ?_, ?_, ?_, ?_, ?_, ?_, ?_, ?_, ?_, trivial⟩
                all_goals (
                  intro x w' hE hd
                  try simp [PR.PhDeps, PR.at_k, PR.at_p, PR.at_d, PR.at_any, Region.binds] at hd
                  have hr' := OwnG.st hE (g2_own_fst HT7.rD)
                  have hu' := OwnG.st hE (g2_own_snd hap HT7.rG)
                  have gx := gf_heap hE HT7.box mbn
                  have xx := blk2 gx
                  have gb := gf_heap hE bx7 bdn
                  have yb := cell_of_one gb
                  have sz := gf_size hE
                  first | simp only [frL, List.length_cons, List.length_nil, List.take_succ_cons, List.take_zero, Nat.reduceAdd, Nat.zero_add, List.setIfInBounds_toArray, List.set_cons_zero, List.set_cons_succ, hd] | simp only [frL, List.length_cons, List.length_nil, List.take_succ_cons, List.take_zero, Nat.reduceAdd, Nat.zero_add, List.setIfInBounds_toArray, List.set_cons_zero, List.set_cons_succ]
                  go_wp2_with (first | (at_builtin; refine (wpList_appG rfl _ _ 67 rfl w.heap.size 46 (.agg #[.slice none 0 0]) 1 24 Tryd.underlying67 infoDd rfl (by decide) _ A.length us rfl hr'.1 _ 1 [.slice ap p.length kp] rfl (by decide) ((hd.2.now (fun a b => NewB.st gno a b)).seg rfl (by decide)) (by intro u hu; simp at hu; subst hu; rfl) (by omega) (by unfold maxLen; omega) (by omega) (G2 (.slice aD A.length cD) A.length [.slice ap p.length kp] (.slice aG A.length cG) A.length [.bool false]) g2_fst1 (fun k h => gno k (by omega)) ?_); intro v' w'' o1 o2 o3) | (at_builtin; refine (wpList_appG rfl _ _ 72 rfl w.heap.size 4 (.bool false) 1 1 Tryd.underlying72 infoBl rfl (by decide) _ A.length (cB (goneB g A.length)) rfl hu'.1 _ 1 [.bool false] rfl (by decide) ((hd.2.1.now (fun a b => NewB.st gno a b)).seg rfl (by decide)) (by intro u hu; simp at hu; subst hu; rfl) (by omega) (by unfold maxLen; omega) (by omega) (G2 (.slice aD A.length cD) A.length [.slice ap p.length kp] (.slice aG A.length cG) A.length [.bool false]) (g2_snd1 hap) (fun k h => gno k (by omega)) ?_); intro v' w'' o1 o2 o3))
                  all_goals first
                    | ((with_reducible refine PR.phK ?_ ?_); (focus rfl); exact gf_ext (by (repeat (first | (with_reducible assumption) | (with_reducible exact Ext.refl _) | (with_reducible refine Ext.drew ?_) | (with_reducible refine Ext.drewN ?_ _) | (with_reducible refine Ext.alloc ?_ _) | (with_reducible refine Ext.trans ?_ (by with_reducible assumption))))))
                    | (exact PR.phN (gf_fr _) (app1_mk (by omega) o1 o3) hE o2)
                    | (with_reducible exact phNew hE))
              case he =>
                intro x w9 hF hd
                simp [PR.PhEnd, PR.at_k, PR.at_p, PR.at_d] at hd
                obtain ⟨e0, e1, e2, e3, e4, e5, e6, u7, u8, e9, e10, e11, e12, u13, u14⟩ := hd
                have k8 := (u8.now (fun a b => App1.st a b)).1.1
                have k14 := (u14.now (fun a b => App1.st a b)).1.1
                obtain ⟨a8, c8, e8⟩ := own_form k8
                obtain ⟨a14, c14, e14⟩ := own_form k14
                rw [e8] at k8
                rw [e14] at k14
                simp only [frL, List.length_cons, List.length_nil, List.take_succ_cons, List.take_zero, Nat.reduceAdd, Nat.zero_add, List.setIfInBounds_toArray, List.set_cons_zero, List.set_cons_succ, e0, e1, e2, e3, e4, e5, e6, e8, e9, e10, e11, e12, e14, List.length_cons, List.length_nil, List.drop_succ_cons, List.drop_zero]
                clear e0 e1 e2 e3 e4 e5 e6 e8 e9 e10 e11 e12 e14 u7 u8 u13 u14
                obtain ⟨⟨y1, g1⟩, g2, ⟨y3, g3⟩, g4, HN⟩ := HT7.app hg0.out hF k8 k14 sp
                have gx := gf_heap hF HT7.box mbn
                have L9 := L7.gf2 hF HT7.rD HT7.rG
                have L10 := L9.beside gx (by decide) (by decide) (by decide) (grown_cell w9 mb 0 (.slice a8 (A.length + 1) c8))
                have L11 := L10.beside (blk2_set0 gx _) (by decide) (by decide) (by decide) (grown_cell _ mb 1 (.slice a14 (A.length + 1) c14))
                have HQ := hid (⟨A ++ [p], g, F6, G6, _, _, _, _, _, L11, HN⟩ : PLI w B bt bk bd mb ((w9.setCell ⟨mb, 0, none⟩ (.slice a8 (A.length + 1) c8)).setCell ⟨mb, 1, none⟩ (.slice a14 (A.length + 1) c14)))
                clear L7 L9 L10 L11 HN gx hF HT7 bx7
                go_wp2_with fail
                go_meet
                case rel => exact HQ
          · have AB := hid (add_bad bt _ p W (sp.ext HT1.E) PS hp0)
            have q0 : (deedE p == 0) = false := by simp [hp0]
            have q2 : (deedE p != 0) = true := by simp [hp0]
            have RD1 := hid (fun w' (q : Ext W w') => RD.out w' (HT1.E.trans q))
            have HPI := hid (fun w' (q : Ext W w') => (⟨A, g, F, G, aD, cD, aG, cG, us, HL1.ext q, HT1.ext q⟩ : PLI w B bt bk bd mb w'))
            clear hp0 SP RD HL1 HT1 EB sp bx PS
            generalize deedE p = de at q0 q2 AB RD1 ⊢
            go_wp2_with fail
            refine (AB.out).mono ?_
            clear AB
            rintro e w6 ⟨rfl, E6⟩
            have cb6 := E6.cell cb
            have RD2 := hid (RD1.out w6 E6)
            clear RD1
            go_wp2_with fail
            refine (RD2.out).mono ?_
            clear RD2
            rintro e w7 ⟨rfl, E7⟩
            have HQ := hid (HPI.out w7 (E6.trans E7))
            clear HPI cb cb6
            go_wp2_with fail
            go_roundw
            case rel => exact ⟨i + 1, by omega, by go_num, HQ⟩
            case measure => simp [intOf] <;> omega
        · by_cases q2 : z0 = 2
          · subst q2
            have qz : ((2 : Int) == 1) = false := rfl
            by_cases hI : isB A g z = true
            · obtain ⟨s, rfl, hs, hgs⟩ := isB_iff.1 hI
              have IS := ris_any HT.tab (s : Int) h60
              rw [isB_nat hs, hgs] at IS
              by_cases hm : mayB A g s = true
              · have FR := hid (free_ok HL s hs hgs hm)
                have HT0 := hid HT
                have HL0 := hid HL
                have HM := hid hm
                have HG := hid hgs
                clear HL HT IS hI hm hgs q1 HP
                go_wp2_with fail
                refine (FR.out).mono ?_
                clear FR
                rintro e w6 ⟨rfl, ⟨F6, G6, L6⟩, T6⟩
                have HT6 := HT0.out.tfr HL0.out T6 hB
                have IS := ris_any HT6.tab (s : Int) h60
                rw [isB_nat hs, HG.out] at IS
                have IS := hid IS
                have MY := hid (fun w' (q : Ext w6 w') => rmay_any (HT6.ext q).tab HL0.out.dok s hs h60)
                rw [HM.out] at MY
                clear HT0 T6 HG HM
                go_wp2_with fail
                refine (IS.out).mono ?_
                clear IS
                rintro e w7 ⟨rfl, E7⟩
                have MY1 := hid (MY.out w7 E7)
                clear MY
                go_wp2_with fail
                refine (MY1.out).mono ?_
                clear MY1
                rintro e w8 ⟨rfl, E8⟩
                have E9 := E7.trans E8
                have HT8 := HT6.ext E9
                have L8 := L6.ext E9
                have hpos : 0 < A.length := by omega
                obtain ⟨bG, haG, _, _, _, _⟩ := own_pos HT8.rG hpos
                subst haG
                obtain ⟨⟨zc, cz⟩, fz, HN, hge⟩ := HT8.gone hs
                have cg := HT8.tab.gone
                have LN := L8.beside' HT8.rG (by decide) (by decide) (by decide) (grown_cell w8 bG s (.bool true))
                have HQ := hid (⟨A, goneW g s, F6, G6, aD, cD, _, cG, us, LN, HN⟩ : PLI w B bt bk bd mb (w8.setCell ⟨bG, s, none⟩ (.bool true)))
                clear E7 E8 E9 HT6 L6 HT8 L8 HL0 LN HN
                go_wp2_with fail
                go_meet
                case rel => exact HQ
              · have hm' : mayB A g s = false := by simpa using hm
                have FR := hid (free_wait HL s hs hgs hm')
                have IS := hid (fun w' (q : Ext wo w') => (by have q := ris_any (HT.ext q).tab (s : Int) h60; rw [isB_nat hs, hgs] at q; exact q : Calls Tryd.prog 47 #[.pointer (some ⟨mb, 0, none⟩), .int .i64 (s : Int)] w' fun e w'' => e = .returned (.bool (!false)) ∧ Ext w' w''))
                have MY := hid (fun w' (q : Ext wo w') => rmay_any (HT.ext q).tab HL.dok s hs h60)
                rw [hm'] at MY
                clear hI hm hm' hgs q1 HL HT
                go_wp2_with fail
                refine (FR.out).mono ?_
                clear FR
                rintro e w6 ⟨rfl, E6⟩
                have IS1 := hid (IS.out w6 E6)
                clear IS
                go_wp2_with fail
                refine (IS1.out).mono ?_
                clear IS1
                rintro e w7 ⟨rfl, E7⟩
                have MY1 := hid (MY.out w7 (E6.trans E7))
                clear MY
                go_wp2_with fail
                refine (MY1.out).mono ?_
                clear MY1
                rintro e w8 ⟨rfl, E8⟩
                have HQ := hid (HP.out.ext ((E6.trans E7).trans E8))
                go_wp2_with fail
                go_meet
                case rel => exact HQ
            · have hI' : isB A g z = false := by simpa using hI
              have FR := hid (free_none HL z hz (isB_none hI'))
              have IS := hid (fun w' (q : Ext wo w') => ris_any (HT.ext q).tab z h60)
              rw [hI'] at IS
              clear hI hI' q1 HL HT
              go_wp2_with fail
              refine (FR.out).mono ?_
              clear FR
              rintro e w6 ⟨rfl, E6⟩
              have IS1 := hid (IS.out w6 E6)
              clear IS
              go_wp2_with fail
              refine (IS1.out).mono ?_
              clear IS1
              rintro e w7 ⟨rfl, E7⟩
              have HQ := hid (HP.out.ext (E6.trans E7))
              go_wp2_with fail
              go_meet
              case rel => exact HQ
          · have d1 : (z0 == 1) = false := by simpa using q1
            have d2 : (z0 == 2) = false := by simpa using q2
            clear HL HT q1 q2
            go_wp2_with fail
            go_meet
            case rel => exact HP
      case rest =>
        obtain ⟨A, g, F, G, aD, cD, aG, cG, us, HL, HT⟩ := hcut.out
        have h60 := HL.few
        by_cases hI : isB A g z = true
        · obtain ⟨s, rfl, hs, hgs⟩ := isB_iff.1 hI
          have MAY := hid (may_ok HL s hs hgs)
          have IS := hid (fun w' (q : Ext wc w') => (by have q := ris_any (HT.ext q).tab (s : Int) h60; rw [isB_nat hs, hgs] at q; exact q : Calls Tryd.prog 47 #[.pointer (some ⟨mb, 0, none⟩), .int .i64 (s : Int)] w' fun e w'' => e = .returned (.bool (!false)) ∧ Ext w' w''))
          have MY := hid (fun w' (q : Ext wc w') => rmay_any (HT.ext q).tab HL.dok s hs h60)
          have HL0 := hid HL
          have HT0 := hid HT
          clear HL HT hI hgs hcut
          generalize mayB A g s = mm at MAY MY
          go_wp2_with fail
          refine (MAY.out).mono ?_
          clear MAY
          rintro e w4 ⟨rfl, E4⟩
          have IS1 := hid (IS.out w4 E4)
          clear IS
          go_wp2_with fail
          refine (IS1.out).mono ?_
          clear IS1
          rintro e w5 ⟨rfl, E5⟩
          have MY1 := hid (MY.out w5 (E4.trans E5))
          have qm : (mm != mm) = false := by simp
          clear MY
          go_wp2_with fail
          refine (MY1.out).mono ?_
          clear MY1
          rintro e wt ⟨rfl, E6⟩
          have LT := HL0.out.ext ((E4.trans E5).trans E6)
          have PT := HT0.out.ext ((E4.trans E5).trans E6)
          clear HL0 HT0 E4 E5 E6
          have cm := PT.tab.deeds
          have cg := PT.tab.gone
          have HPT := hid PT
          have HLT := hid LT
          clear cm LT PT
          go_wp2_with fail
          clear cg
          go_loopw [18, 20, 160] (fun lv _ jv wr => ∃ j : Nat, j ≤ A.length ∧ jv = .int .i64 j ∧ lv = .int .i64 (liveN g j) ∧ Ext wt wr) (fun _ _ jv _ => A.length - (intOf jv).toNat)
          case atStart => exact ⟨0, Nat.zero_le _, rfl, rfl, Ext.refl _⟩
          case round =>
            obtain ⟨wq, rfl⟩ : ∃ wq : World, wq = wr := ⟨_, rfl⟩
            obtain ⟨j, hj, rfl, rfl, Ej⟩ := hrel
            by_cases hjl : j < A.length
            · obtain ⟨⟨bG, oG, rfl, cgj⟩, _⟩ := (HPT.out.ext Ej).tab.at hjl
              have hlv := live_le g j
              have HS := hid (show liveN g (j + 1) = liveN g j + if g j = false then 1 else 0 from rfl)
              cases hgj : g j with
              | true =>
                rw [hgj] at cgj
                have HS2 := hid (show liveN g (j + 1) = liveN g j by rw [HS.out, hgj]; simp)
                clear HS hgj
                go_wp2
                go_roundw
                case rel => exact ⟨j + 1, by omega, by go_num, by rw [HS2.out], Ej⟩
                case measure => simp [intOf] <;> omega
              | false =>
                rw [hgj] at cgj
                have HS2 := hid (show liveN g (j + 1) = liveN g j + 1 by rw [HS.out, hgj]; simp)
                clear HS hgj
                go_wp2
                go_roundw
                case rel => exact ⟨j + 1, by omega, by go_num, by rw [HS2.out]; go_num, Ej⟩
                case measure => simp [intOf] <;> omega
            · obtain rfl : j = A.length := by omega
              have RA := hid (ready_any (HLT.out.ext Ej))
              go_wp2_with fail
              refine (RA.out).mono ?_
              clear RA
              rintro e w6 ⟨v6, rfl, o6, E6⟩
              obtain ⟨a6, c6, rfl⟩ := own_form o6
              have RB := hid (rready_any ((HPT.out.ext Ej).ext E6).tab HLT.out.dok h60)
              have S6 := hid (own_seg o6)
              clear o6
              go_wp2_with fail
              refine (RB.out).mono ?_
              clear RB
              rintro e w7 ⟨v7, rfl, o7, E7⟩
              obtain ⟨a7, c7, rfl⟩ := own_form o7
              have EQ := equal_N _ _ (readyL A g A.length) w7 (S6.out.ext E7) (own_seg o7)
              have EQ := hid EQ
              clear S6 o7
              go_wp2_with fail
              refine (EQ.out).mono ?_
              clear EQ
              rintro e w8 ⟨rfl, n8, rfl⟩
              have E8 := (Ej.trans (E6.trans E7)).drewN n8
              have LF := hid (left_any (HLT.out.ext E8))
              have ql : ((liveN g A.length : Int) != (liveN g A.length : Int)) = false := by simp
              have HQ := hid (⟨A, g, F, G, _, _, _, _, us, HLT.out.ext E8, HPT.out.ext E8⟩ : PLI w B bt bk bd mb (w7.drewN n8))
              clear E6 E7 E8
              go_wp2_with fail
              refine (LF.out).mono ?_
              clear LF
              rintro e w9 ⟨rfl, rfl⟩
              go_wp2
              go_roundw
              case rel => first | exact ⟨i + 1, by omega, by go_num, HQ⟩ | ((repeat apply Exists.intro); exact ⟨⟨(by omega : i + 1 ≤ ls.length), by go_num, HQ⟩, rfl⟩)
              case measure => simp [intOf] <;> omega
        · have hI' : isB A g z = false := by simpa using hI
          have MAY := hid (may_none HL z hz (isB_none hI'))
          have IS := hid (fun w' (q : Ext wc w') => ris_any (HT.ext q).tab z h60)
          rw [hI'] at IS
          have HL0 := hid HL
          have HT0 := hid HT
          clear HL HT hI hI' hcut
          go_wp2_with fail
          refine (MAY.out).mono ?_
          clear MAY
          rintro e w4 ⟨rfl, E4⟩
          have IS1 := hid (IS.out w4 E4)
          clear IS
          go_wp2_with fail
          refine (IS1.out).mono ?_
          clear IS1
          rintro e wt ⟨rfl, E5⟩
          have LT := HL0.out.ext (E4.trans E5)
          have PT := HT0.out.ext (E4.trans E5)
          clear HL0 HT0 E4 E5
          have cm := PT.tab.deeds
          have cg := PT.tab.gone
          have HPT := hid PT
          have HLT := hid LT
          clear cm LT PT
          go_wp2_with fail
          clear cg
          go_loopw [18, 20, 160] (fun lv _ jv wr => ∃ j : Nat, j ≤ A.length ∧ jv = .int .i64 j ∧ lv = .int .i64 (liveN g j) ∧ Ext wt wr) (fun _ _ jv _ => A.length - (intOf jv).toNat)
          case atStart => exact ⟨0, Nat.zero_le _, rfl, rfl, Ext.refl _⟩
          case round =>
            obtain ⟨wq, rfl⟩ : ∃ wq : World, wq = wr := ⟨_, rfl⟩
            obtain ⟨j, hj, rfl, rfl, Ej⟩ := hrel
            by_cases hjl : j < A.length
            · obtain ⟨⟨bG, oG, rfl, cgj⟩, _⟩ := (HPT.out.ext Ej).tab.at hjl
              have hlv := live_le g j
              have HS := hid (show liveN g (j + 1) = liveN g j + if g j = false then 1 else 0 from rfl)
              cases hgj : g j with
              | true =>
                rw [hgj] at cgj
                have HS2 := hid (show liveN g (j + 1) = liveN g j by rw [HS.out, hgj]; simp)
                clear HS hgj
                go_wp2
                go_roundw
                case rel => exact ⟨j + 1, by omega, by go_num, by rw [HS2.out], Ej⟩
                case measure => simp [intOf] <;> omega
              | false =>
                rw [hgj] at cgj
                have HS2 := hid (show liveN g (j + 1) = liveN g j + 1 by rw [HS.out, hgj]; simp)
                clear HS hgj
                go_wp2
                go_roundw
                case rel => exact ⟨j + 1, by omega, by go_num, by rw [HS2.out]; go_num, Ej⟩
                case measure => simp [intOf] <;> omega
            · obtain rfl : j = A.length := by omega
              have RA := hid (ready_any (HLT.out.ext Ej))
              go_wp2_with fail
              refine (RA.out).mono ?_
              clear RA
              rintro e w6 ⟨v6, rfl, o6, E6⟩
              obtain ⟨a6, c6, rfl⟩ := own_form o6
              have RB := hid (rready_any ((HPT.out.ext Ej).ext E6).tab HLT.out.dok h60)
              have S6 := hid (own_seg o6)
              clear o6
              go_wp2_with fail
              refine (RB.out).mono ?_
              clear RB
              rintro e w7 ⟨v7, rfl, o7, E7⟩
              obtain ⟨a7, c7, rfl⟩ := own_form o7
              have EQ := equal_N _ _ (readyL A g A.length) w7 (S6.out.ext E7) (own_seg o7)
              have EQ := hid EQ
              clear S6 o7
              go_wp2_with fail
              refine (EQ.out).mono ?_
              clear EQ
              rintro e w8 ⟨rfl, n8, rfl⟩
              have E8 := (Ej.trans (E6.trans E7)).drewN n8
              have LF := hid (left_any (HLT.out.ext E8))
              have ql : ((liveN g A.length : Int) != (liveN g A.length : Int)) = false := by simp
              have HQ := hid (⟨A, g, F, G, _, _, _, _, us, HLT.out.ext E8, HPT.out.ext E8⟩ : PLI w B bt bk bd mb (w7.drewN n8))
              clear E6 E7 E8
              go_wp2_with fail
              refine (LF.out).mono ?_
              clear LF
              rintro e w9 ⟨rfl, rfl⟩
              go_wp2
              go_roundw
              case rel => first | exact ⟨i + 1, by omega, by go_num, HQ⟩ | ((repeat apply Exists.intro); exact ⟨⟨(by omega : i + 1 ≤ ls.length), by go_num, HQ⟩, rfl⟩)
              case measure => simp [intOf] <;> omega
    · obtain rfl : i = ls.length := by omega
      go_wp2
      go_ret
      exact ⟨rfl, EW⟩
end Go.Proofs.YtomgeolmfpijoaaDoor
