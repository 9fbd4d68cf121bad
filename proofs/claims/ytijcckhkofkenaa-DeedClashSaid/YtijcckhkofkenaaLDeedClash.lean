/- Contracts and lemmas for the proofs of this seat; each theorem states its own conditions. -/
import Derived.Test.YtijcckhkofkenaaD7
import Derived.Test.YtijcckhkofkenaaDs
import Derived.Test.YtijcckhkofkenaaSrL
namespace Go.Proofs.Ytijcckhkofkenaa
open Go.RowKit
theorem clash_ab : deedE [⟨2, ⟨#[97]⟩, ⟨#[]⟩, 0⟩] = 0 ∧ deedE [⟨4, ⟨#[97]⟩, ⟨#[]⟩, 0⟩] = 0 ∧ clashB [⟨2, ⟨#[97]⟩, ⟨#[]⟩, 0⟩] [⟨4, ⟨#[97]⟩, ⟨#[]⟩, 0⟩] = true := by decide +kernel
/-- Bernstein, on stores -/
theorem bern_S {S : Prs} (hS : StoreOk S) {p q : Ops} (hp : DeedOk p) (hq : DeedOk q) : clashB p q = false → runS (runS S p) q = runS (runS S q) p ∧ runB S p = runB (runS S q) p ∧ runB (runS S p) q = runB S q := fun h => by
  obtain ⟨b1, b2, b3⟩ := bernstein hp.ops hq.ops h (valP S)
  obtain ⟨a1, a2, a3⟩ := run_val hS hp.ops
  obtain ⟨c1, c2, c3⟩ := run_val hS hq.ops
  obtain ⟨e1, e2, e3⟩ := run_val a1 hq.ops
  obtain ⟨f1, f2, f3⟩ := run_val c1 hp.ops
  refine ⟨store_ext e1 f1 fun x => ?_, ?_, ?_⟩
  · rw [e2, f2, a2, c2, b1]
  · rw [a3, f3, c2, b3]
  · rw [e3, c3, a2, b2]
set_option maxRecDepth 100000 in
set_option maxHeartbeats 2000000 in
theorem clash_walk (v vd : Value) (l : List Int) (ls : List (List Int)) (w : World) (hv : Seg w v 1 l.length (cI l)) (hb : ∀ z ∈ l, -9223372036854775808 ≤ z ∧ z ≤ 9223372036854775807) (hvd : SegLL w vd ls) :
    Calls Try.prog 20 #[v, vd] w fun e w' => e = .returned (.bool true) ∧ Ext w w' := by
  have b1 := heap_1 w (.cells #[.int .i64 2, .string ⟨#[97]⟩, .string ⟨#[]⟩, .int .i64 0] 79) (.cells #[.int .i64 4, .string ⟨#[97]⟩, .string ⟨#[]⟩, .int .i64 0] 79)
  have b2 := heap_2 w (.cells #[.int .i64 2, .string ⟨#[97]⟩, .string ⟨#[]⟩, .int .i64 0] 79) (.cells #[.int .i64 4, .string ⟨#[97]⟩, .string ⟨#[]⟩, .int .i64 0] 79)
  have E := ((Ext.refl w).alloc (.cells #[.int .i64 2, .string ⟨#[97]⟩, .string ⟨#[]⟩, .int .i64 0] 79)).alloc (.cells #[.int .i64 4, .string ⟨#[97]⟩, .string ⟨#[]⟩, .int .i64 0] 79)
  obtain ⟨q1, q2, q3⟩ := clash_ab
  have C0 := clash_ok (.slice (some ⟨w.heap.size, 0, none⟩) 1 1) (.slice (some ⟨w.heap.size + 1, 0, none⟩) 1 1) [⟨2, ⟨#[97]⟩, ⟨#[]⟩, 0⟩] [⟨4, ⟨#[97]⟩, ⟨#[]⟩, 0⟩] _
    (seg_blk (xs := cO [⟨2, ⟨#[97]⟩, ⟨#[]⟩, 0⟩]) b1 rfl (Nat.le_refl _) (by simp [maxLen])) (seg_blk (xs := cO [⟨4, ⟨#[97]⟩, ⟨#[]⟩, 0⟩]) b2 rfl (Nat.le_refl _) (by simp [maxLen])) (deed_ok q1) (deed_ok q2) (by intro o ho; simp at ho; subst ho; decide) (by intro o ho; simp at ho; subst ho; decide)
  rw [q3] at C0
  have C0 := hid C0
  replace hv := hv.ext E
  replace hvd := hvd.ext E
  clear b1 b2 q1 q2 q3
  go_enter Try.func20, Try.ntmps20
  go_wp2_with fail
  refine (C0.out).mono ?_
  rintro e w1 ⟨rfl, E1⟩
  replace hv := hv.ext E1
  replace hvd := hvd.ext E1
  replace E := Ext.trans E (E1)
  clear C0 E1
  go_wp2_with fail
  refine (deeds_any _ ls 8 _ hvd (by omega)).mono ?_
  rintro e w2 ⟨vD, us, D, rfl, hout, hds, hdg, hdl, E1⟩
  have hD := hds.seg hout
  obtain ⟨aD, cD, rfl⟩ := own_form hout
  have hl := hds.len
  replace hv := hv.ext E1
  replace E := Ext.trans E (E1)
  clear E1 hout hds hvd
  rw [hl] at hD
  have hus : us.length = D.length := hl
  go_wp2_with fail
  refine (pairs_any _ l _ hv hb).mono ?_
  rintro e w3 ⟨vs, S, rfl, oS, lS, hS, E1⟩
  have sS := own_seg hS
  obtain ⟨a0, c0, rfl⟩ := own_form hS
  replace E := Ext.trans E (E1)
  replace hD := hD.ext E1
  clear E1 hS hv
  have dok : ∀ d ∈ D, DeedOk d := fun d h => (hdg d h).ok
  have dsm : ∀ d ∈ D, ∀ o ∈ d, o.from_.size ≤ 9223372036854775807 := fun d h => (hdg d h).sm
  obtain ⟨_, _, eD, hc1, hc2, hcell⟩ := hD.form
  injection eD with eD1 _ eD3
  subst eD1; subst eD3
  have HC := hid hcell
  clear hcell hD hdg hl
  unfold maxLen at hc2
  go_wp2_with fail
  go_loopw [9, 10, 11, 12, 13, 14, 15, 16, 17, 18, 19, 20, 21, 22, 23, 24, 25, 62, 68, 85, 92, 99, 106] (fun i _ _ _ _ _ _ _ _ _ _ _ _ _ _ _ _ _ _ _ _ _ _ wr => ∃ k : Nat, k ≤ 9 ∧ i = .int .i64 k ∧ Ext w3 wr) (fun i _ _ _ _ _ _ _ _ _ _ _ _ _ _ _ _ _ _ _ _ _ _ _ => 10 - (intOf i).toNat)
  case atStart => exact ⟨0, Nat.zero_le _, rfl, Ext.refl _⟩
  case round =>
    obtain ⟨k, hk, rfl, Er⟩ := hrel
    by_cases hlt : k + 1 < D.length
    · obtain ⟨b, off, rfl, hcc⟩ := HC.out (by omega)
      obtain ⟨x1, y1, c1, s1⟩ := hcc k D[k] (List.getElem?_eq_getElem (by omega))
      obtain ⟨x2, y2, c2, s2⟩ := hcc (k + 1) D[k + 1] (List.getElem?_eq_getElem (by omega))
      replace c1 := Er.cell c1
      replace c2 := Er.cell c2
      replace s1 := s1.ext Er
      replace s2 := s2.ext Er
      have d1 := dok _ (List.getElem_mem (show k < D.length by omega))
      have d2 := dok _ (List.getElem_mem (show k + 1 < D.length by omega))
      have f1 := dsm _ (List.getElem_mem (show k < D.length by omega))
      have f2 := dsm _ (List.getElem_mem (show k + 1 < D.length by omega))
      clear hcc
      generalize D[k] = p at c1 s1 d1 f1
      generalize D[k + 1] = q at c2 s2 d2 f2
      go_wp2_with fail
      have hk1 : k < D.length := by omega
      have c11 := cell1 c1
      have c12 := cell2 c1
      have c21 := cell1 c2
      have c22 := cell2 c2
      go_region
      all_goals go_wp2_with fail
      all_goals first
        | (show Calls _ _ _ (((wr.alloc (.cells #[.slice x1 p.length y1] 52)).alloc (.cells #[.slice x2 q.length y2] 52)).drew) _
           have z1 := cell_of_one (heap_1 wr (.cells #[.slice x1 p.length y1] 52) (.cells #[.slice x2 q.length y2] 52))
           have z2 := cell_of_one (heap_2 wr (.cells #[.slice x1 p.length y1] 52) (.cells #[.slice x2 q.length y2] 52))
           have EW := (((Ext.refl wr).alloc (.cells #[.slice x1 p.length y1] 52)).alloc (.cells #[.slice x2 q.length y2] 52)).drew
           replace z1 : (((wr.alloc (.cells #[.slice x1 p.length y1] 52)).alloc (.cells #[.slice x2 q.length y2] 52)).drew).cell? ⟨wr.heap.size, 0, none⟩ = _ := z1
           replace z2 : (((wr.alloc (.cells #[.slice x1 p.length y1] 52)).alloc (.cells #[.slice x2 q.length y2] 52)).drew).cell? ⟨wr.heap.size + 1, 0, none⟩ = _ := z2
           generalize ((wr.alloc (.cells #[.slice x1 p.length y1] 52)).alloc (.cells #[.slice x2 q.length y2] 52)).drew = W0 at z1 z2 EW ⊢)
        | (show Calls _ _ _ (((wr.alloc (.cells #[.slice x2 q.length y2] 52)).alloc (.cells #[.slice x1 p.length y1] 52)).drew) _
           have z2 := cell_of_one (heap_1 wr (.cells #[.slice x2 q.length y2] 52) (.cells #[.slice x1 p.length y1] 52))
           have z1 := cell_of_one (heap_2 wr (.cells #[.slice x2 q.length y2] 52) (.cells #[.slice x1 p.length y1] 52))
           have EW := (((Ext.refl wr).alloc (.cells #[.slice x2 q.length y2] 52)).alloc (.cells #[.slice x1 p.length y1] 52)).drew
           replace z2 : (((wr.alloc (.cells #[.slice x2 q.length y2] 52)).alloc (.cells #[.slice x1 p.length y1] 52)).drew).cell? ⟨wr.heap.size, 0, none⟩ = _ := z2
           replace z1 : (((wr.alloc (.cells #[.slice x2 q.length y2] 52)).alloc (.cells #[.slice x1 p.length y1] 52)).drew).cell? ⟨wr.heap.size + 1, 0, none⟩ = _ := z1
           generalize ((wr.alloc (.cells #[.slice x2 q.length y2] 52)).alloc (.cells #[.slice x1 p.length y1] 52)).drew = W0 at z1 z2 EW ⊢)
      all_goals
        replace s1 := s1.ext EW
        replace s2 := s2.ext EW
        have sX := sS.ext (Er.trans EW)
        replace Er := Er.trans EW
        clear EW c1 c2 c11 c12 c21 c22
        refine (clash_ok (.slice x1 p.length y1) (.slice x2 q.length y2) p q W0 s1 s2 d1 d2 f1 f2).mono ?_
        rintro e w5 ⟨rfl, E1⟩
        replace Er := Ext.trans Er (E1); replace s1 := Seg.ext s1 (E1); replace s2 := Seg.ext s2 (E1); replace sX := Seg.ext sX (E1); replace z1 := (E1).cell z1; replace z2 := (E1).cell z2
        clear E1
        have C2 := clash_ok (.slice x2 q.length y2) (.slice x1 p.length y1) q p w5 s2 s1 d2 d1 f2 f1
        rw [clash_symm] at C2
        have C2 := hid C2
        have HB := hid (bern_S oS d1 d2)
        generalize clashB p q = cl at C2 HB ⊢
        go_wp2_with fail
        refine (C2.out).mono ?_
        rintro e w6 ⟨rfl, E1⟩
        clear C2
        replace Er := Ext.trans Er (E1); replace s1 := Seg.ext s1 (E1); replace s2 := Seg.ext s2 (E1); replace sX := Seg.ext sX (E1); replace z1 := (E1).cell z1; replace z2 := (E1).cell z2
        clear E1
        have qcl : (cl != cl) = false := by simp
        have r1 := (run_val oS d1.ops).1
        have l1 := run_len S p
        have r2 := (run_val r1 d2.ops).1
        have r3 := (run_val oS d2.ops).1
        have l3 := run_len S q
        have r4 := (run_val r3 d1.ops).1
        have h8 := d1.hi
        have h9 := d2.hi
        have K1 := hid (krun_ok (.slice a0 S.length c0) (.slice x1 p.length y1) S p w6 sX s1 oS d1 f1 (by omega))
        go_wp2_with fail
        refine (K1.out).mono ?_
        rintro e w7 ⟨v7, rfl, h7, E1⟩
        clear K1
        have t7 := own_seg h7
        replace Er := Ext.trans Er (E1); replace s1 := Seg.ext s1 (E1); replace s2 := Seg.ext s2 (E1); replace sX := Seg.ext sX (E1); replace z1 := (E1).cell z1; replace z2 := (E1).cell z2
        clear E1 h7
        have K2 := hid (krun_ok v7 (.slice x2 q.length y2) (runS S p) q w7 t7 s2 r1 d2 f2 (by omega))
        go_wp2_with fail
        refine (K2.out).mono ?_
        rintro e w8 ⟨v8, rfl, h8', E1⟩
        clear K2 t7
        have t8 := own_seg h8'
        replace Er := Ext.trans Er (E1); replace s1 := Seg.ext s1 (E1); replace s2 := Seg.ext s2 (E1); replace sX := Seg.ext sX (E1); replace z1 := (E1).cell z1; replace z2 := (E1).cell z2
        clear E1 h8'
        have K3 := hid (krun_ok (.slice a0 S.length c0) (.slice x2 q.length y2) S q w8 sX s2 oS d2 f2 (by omega))
        go_wp2_with fail
        refine (K3.out).mono ?_
        rintro e w9 ⟨v9, rfl, h9', E1⟩
        clear K3
        have t9 := own_seg h9'
        replace Er := Ext.trans Er (E1); replace s1 := Seg.ext s1 (E1); replace s2 := Seg.ext s2 (E1); replace sX := Seg.ext sX (E1); replace t8 := Seg.ext t8 (E1); replace z1 := (E1).cell z1; replace z2 := (E1).cell z2
        clear E1 h9'
        have K4 := hid (krun_ok v9 (.slice x1 p.length y1) (runS S q) p w9 t9 s1 r3 d1 f1 (by omega))
        go_wp2_with fail
        refine (K4.out).mono ?_
        rintro e wa ⟨va, rfl, ha', E1⟩
        clear K4 t9
        have ta := own_seg ha'
        replace Er := Ext.trans Er (E1); replace t8 := Seg.ext t8 (E1)
        clear E1 ha' s1 s2 sX z1 z2 r1 r2 r3 r4
        generalize runS (runS S p) q = P2 at t8 HB
        generalize runS (runS S q) p = Q2 at ta HB
        generalize runB (runS S p) q = o2 at HB ⊢
        generalize runB (runS S q) p = o4 at HB ⊢
        generalize runB S p = o1 at HB ⊢
        generalize runB S q = o3 at HB ⊢
        cases cl with
        | true =>
          go_wp2
          go_roundw
          case rel => exact ⟨k + 1, by omega, by go_num, Er⟩
          case measure => simp [intOf]; omega
        | false =>
          obtain ⟨rfl, rfl, rfl⟩ := HB.out rfl
          have q1 : (o1 != o1) = false := by simp
          have q2 : (o2 != o2) = false := by simp
          go_wp2_with fail
          refine (equal_Pair _ _ _ _ _ t8 ta).mono ?_
          rw [eqP_same]
          rintro e wb ⟨rfl, dn, rfl⟩
          go_wp2
          go_roundw
          case rel => exact ⟨k + 1, by omega, by go_num, Er.drewN _⟩
          case measure => simp [intOf]; omega
    · have hlt' : ¬ ((k : Int) + 1 < (D.length : Int)) := by omega
      go_wp2
      go_ret
      exact ⟨rfl, E.trans Er⟩
end Go.Proofs.Ytijcckhkofkenaa
