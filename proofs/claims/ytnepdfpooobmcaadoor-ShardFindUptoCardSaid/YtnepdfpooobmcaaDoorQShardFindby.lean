/- Contracts and lemmas for the proof of ShardFind; each theorem states its own conditions. -/
import Derived.Test.YtnepdfpooobmcaaDoorQShardFindbj
import Derived.Test.YtnepdfpooobmcaaDoorQShardFindbk
import Derived.Test.YtnepdfpooobmcaaDoorQShardFindbs
import Derived.Test.YtnepdfpooobmcaaDoorQShardFindbx
set_option linter.unusedVariables false
set_option linter.unusedSimpArgs false
/- Contracts and lemmas for the proofs of this seat; each theorem states its own conditions. -/
namespace Go.Proofs.YtnepdfpooobmcaaDoor
open Go.RowKit
/-! ShardFind -/
theorem sf_lit : findV [] [2] ⟨#[97]⟩ = 2 ∧ findE [] [2] ⟨#[97]⟩ = 0 := by decide +kernel
set_option maxRecDepth 100000 in
theorem sfc_any (A B k : ByteArray) (b4 b5 : Nat) (w : World) (h4 : w.cell? ⟨b4, 0, none⟩ = some (.string A)) (h5 : w.cell? ⟨b5, 0, none⟩ = some (.string B)) :
    Calls Tryd.prog 32 #[.string k, .pointer (some ⟨b4, 0, none⟩), .pointer (some ⟨b5, 0, none⟩)] w fun e w' => e = .returned (.bool (blt A k != blt B k)) ∧ Ext w w' := by
  have hx : ∀ x y : Bool, (x == y) = !(x != y) := by decide
  cases h1 : blt A k <;> cases h2 : blt B k <;> unfold blt at h1 h2
  all_goals (
    go_enter Tryd.func32, Tryd.ntmps32
    go_wp2
    go_ret
    exact ⟨by first | rfl | simp, Ext.refl _⟩)
set_option maxRecDepth 100000 in
set_option maxHeartbeats 4000000 in
theorem sfind_walk (v : Value) (l : List Int) (a b : ByteArray) (w : World) (hT : LetTabs w) (hv : Seg w v 1 l.length (cI l)) (hb : ∀ z ∈ l, -9223372036854775808 ≤ z ∧ z ≤ 9223372036854775807)
    (ha : a.size < 35184372088832) (hbs : b.size < 35184372088832) :
    Calls Tryd.prog 7 #[v, .string a, .string b] w fun e w' => e = .returned (.bool true) ∧ Ext w w' := by
  have LA := hid (fun (s : ByteArray) (hs : s.size < 35184372088832) w' (q : Ext w w') => letters_any s w' hs (hT.ext q))
  have HV := hid (fun w' (q : Ext w w') => kMap_any v l w' (hv.ext q) hb)
  have hok := mk_ok l
  have hsm := mk_small l
  generalize mkC l 6 = C at *
  generalize mkO l 6 = O at *
  have e0 := ((Ext.refl w).alloc (.cells #[.string a] 9)).alloc (.cells #[.string b] 9)
  have e1 := e0.alloc (.cells #[.int .i64 2] 3)
  have b4 := heap_1 w (.cells #[.string a] 9) (.cells #[.string b] 9)
  have b5 := heap_2 w (.cells #[.string a] 9) (.cells #[.string b] 9)
  have sL : IsMap (((w.alloc (.cells #[.string a] 9)).alloc (.cells #[.string b] 9)).alloc (.cells #[.int .i64 2] 3)) (.agg #[.slice none 0 0, .slice (some ⟨w.heap.size + 2, 0, none⟩) 1 1]) [] [2] := by
    refine ⟨_, _, rfl, Seg.nil _ _, ?_⟩
    have := heap_alloc_new ((w.alloc (.cells #[.string a] 9)).alloc (.cells #[.string b] 9)) (.cells #[.int .i64 2] 3)
    rw [show ((w.alloc (.cells #[.string a] 9)).alloc (.cells #[.string b] 9)).heap.size = w.heap.size + 2 by simp] at this
    exact seg_blk this rfl (Nat.le_refl _) (by simp [maxLen])
  have F0 := find_any _ [] [2] ⟨#[97]⟩ _ sL (by simp) (by decide)
  rw [sf_lit.1, sf_lit.2] at F0
  have F0 := hid F0
  have B4 := hid (((Ext.refl _).alloc (.cells #[.int .i64 2] 3)).heap b4)
  have B5 := hid (((Ext.refl _).alloc (.cells #[.int .i64 2] 3)).heap b5)
  have E1 := hid e1
  have HOK := hid hok
  have HSM := hid hsm
  clear b4 b5 e0 e1 sL hv hb hT hok hsm
  go_enter Tryd.func7, Tryd.ntmps7
  go_wp2_with fail
  refine (F0.out).mono ?_
  clear F0
  rintro r w1 ⟨rfl, hE1⟩
  have HW1 := hid (E1.out.trans hE1)
  have C4 := hid (hE1.heap B4.out)
  have C5 := hid (hE1.heap B5.out)
  have hsz : w.heap.size + 3 ≤ w1.heap.size := by have := hE1.size'; simp at this; omega
  clear hE1 B4 B5 E1
  go_wp2_with fail
  refine (HV.out _ HW1.out).mono ?_
  clear HV
  rintro r w2 ⟨v2, rfl, om, hE2⟩
  obtain ⟨vc, vo, rfl, o4, o5⟩ := om
  have hsz2 := hE2.size'
  have HS := hid (show SF w w1.heap.size w2.heap.size vc vo C O a b (w2.alloc (.cells #[vc, vo] 25)) from
    ⟨(HW1.out.trans hE2).alloc _, (hE2.alloc _).heap C4.out, (hE2.alloc _).heap C5.out, by omega, by omega, heap_alloc_new _ _, own_ext o4 ((Ext.refl _).alloc _), own_ext o5 ((Ext.refl _).alloc _)⟩)
  obtain ⟨a1, k1, rfl⟩ := own_form o4
  obtain ⟨a2, k2, rfl⟩ := own_form o5
  clear o4 o5 hE2 HW1 C4 C5
  go_wp2_with fail
  generalize w2.alloc (.cells #[.slice a1 C.length k1, .slice a2 O.length k2] 25) = W5 at *
  go_cut [] from 29 to 32 (fun wx => ∃ ta tb : ByteArray, (∀ c ∈ ta.data.toList, letB c = true) ∧ (∀ c ∈ tb.data.toList, letB c = true) ∧ SF w w1.heap.size w2.heap.size (.slice a1 C.length k1) (.slice a2 O.length k2) C O ta tb wx)
  case first =>
    have hE := HS.out.e
    have c4 := blk1 HS.out.c4
    have c5 := blk1 HS.out.c5
    have hd : Ext W5 W5.drew := (Ext.refl W5).drew
    go_region_with (go_at_call 30; go_must (first
      | (refine (LA.out a ha W5.drew ?_).mono ?_; exact hE.trans hd; rintro e w6 ⟨ta, rfl, hta, Ea⟩; have hE6 := hE.trans (hd.trans Ea); have c46 := blk1 (Ea.heap HS.out.c4); have c56 := blk1 (Ea.heap HS.out.c5))
      | (refine (LA.out b hbs w6 ?_).mono ?_; exact hE6; rintro e w7 ⟨tb, rfl, htb, Eb⟩; have c47 := blk1 ((hd.trans (Ea.trans Eb)).heap HS.out.c4); have c57 := blk1 ((hd.trans (Ea.trans Eb)).heap HS.out.c5))))
    all_goals (go_wp2_with fail; go_meet; exact ⟨ta, tb, hta, htb, ((HS.out.ext (hd.trans (Ea.trans Eb))).set4 ta).set5 tb⟩)
  case rest =>
    obtain ⟨ta, tb, hta, htb, HF⟩ := hcut
    clear HS LA
    obtain ⟨ka, hka, hka1, hka2, hka3⟩ : ∃ k : Nat, min (ta.size : Int) 6 = (k : Int) ∧ k ≤ 6 ∧ k ≤ ta.size ∧ (k = 0 → ta.size = 0) := ⟨min ta.size 6, by omega, by omega, by omega, by omega⟩
    obtain ⟨kb, hkb, hkb1, hkb2, hkb3⟩ : ∃ k : Nat, min (tb.size : Int) 6 = (k : Int) ∧ k ≤ 6 ∧ k ≤ tb.size ∧ (k = 0 → tb.size = 0) := ⟨min tb.size 6, by omega, by omega, by omega, by omega⟩
    have hA : ta.extract 0 ka = ⟨#[]⟩ ∨ keyB (ta.extract 0 ka) = true := by
      by_cases q : ka = 0
      · exact .inl (by apply ByteArray.ext; rw [q]; simp)
      · exact .inr (piece_key hta hka1 (by omega) hka2)
    have hB : tb.extract 0 kb = ⟨#[]⟩ ∨ keyB (tb.extract 0 kb) = true := by
      by_cases q : kb = 0
      · exact .inl (by apply ByteArray.ext; rw [q]; simp)
      · exact .inr (piece_key htb hkb1 (by omega) hkb2)
    have HA := hid hA
    have HB := hid hB
    have HFF := hid HF
    clear hta htb hA hB hka3 hkb3 HF
    go_wp2_with fail
    go_cut [] from 33 to 42 (fun wx => SF w w1.heap.size w2.heap.size (.slice a1 C.length k1) (.slice a2 O.length k2) C O (ta.extract 0 ka) (tb.extract 0 kb) wx)
    case first =>
      have c4 := blk1 HFF.out.c4
      have c5 := blk1 HFF.out.c5
      go_region
      all_goals (go_wp2_with fail; go_meet; exact ((HFF.out.ext (Ext.refl _).drew).set4 _).set5 _)
    case rest =>
      have HG := hid hcut
      clear HFF hcut hka hka1 hka2 hkb hkb1 hkb2
      generalize ta.extract 0 ka = A at *
      generalize tb.extract 0 kb = B at *
      have hA := HA.out
      have hB := HB.out
      have cA := blk1 HG.out.c4
      have cB := blk1 HG.out.c5
      rcases hA with rfl | hA
      · clear HA HB HOK HSM
        go_wp2
        all_goals (go_ret; exact ⟨rfl, HG.out.e⟩)
      · have qA : A.toList.isEmpty = false := by cases hq : A.toList.isEmpty with | false => rfl | true => simp [keyB, hq] at hA
        rcases hB with rfl | hB
        · clear HA HB HOK HSM
          go_wp2
          all_goals (go_ret; exact ⟨rfl, HG.out.e⟩)
        · have qB : B.toList.isEmpty = false := by cases hq : B.toList.isEmpty with | false => rfl | true => simp [keyB, hq] at hB
          have cM := blk2 HG.out.bm
          have FA := hid (fun w' (q : Ext _ w') => find_ok (.agg #[.slice a1 C.length k1, .slice a2 O.length k2]) C O A w' (HG.out.map.ext q) HOK.out HSM.out hA)
          have FB := hid (fun w' (q : Ext _ w') => find_ok (.agg #[.slice a1 C.length k1, .slice a2 O.length k2]) C O B w' (HG.out.map.ext q) HOK.out HSM.out hB)
          clear hA hB HA HB HOK HSM
          go_wp2_with fail
          refine (FA.out _ (Ext.refl _)).mono ?_
          clear FA
          rintro r w6 ⟨rfl, E6⟩
          have HG6 := hid (HG.out.ext E6)
          have c6 := blk1 HG6.out.c5
          have c6M := blk2 HG6.out.bm
          go_wp2_with fail
          refine (FB.out _ E6).mono ?_
          clear FB
          rintro r w7 ⟨rfl, E7⟩
          have HG7 := hid (HG6.out.ext E7)
          have c7M := blk2 HG7.out.bm
          have hmf : ∀ (fn : Fn) (first cap : Array Value) (w : World), (Instr.makeFunc fn first cap).run Tryd.prog w = .ok (.func fn first cap) w := fun _ _ _ _ => rfl
          have CF := hid (containsF_Str 32 #[.pointer (some ⟨w.heap.size, 0, none⟩), .pointer (some ⟨w.heap.size + 1, 0, none⟩)] (enters_of Tryd.func32 (by kernel_rfl) rfl) (fun k => blt A k != blt B k) (.slice a1 C.length k1) C w7 (own_seg HG7.out.oc)
            (fun k _ w' q => sfc_any A B k w.heap.size (w.heap.size + 1) w' (blk1 ((HG7.out.ext q).c4)).1 (blk1 ((HG7.out.ext q).c5)).1))
          have HWH := hid (fun h => whose_apart (C := C) (O := O) (a := A) (b := B) h)
          generalize (C.any fun k => blt A k != blt B k) = R at *
          generalize whose C O A = x at *
          generalize whose C O B = y at *
          clear HG HG6 E6 E7
          go_wp2_with fail
          refine (CF.out).mono ?_
          clear CF
          rintro r w8 ⟨rfl, E8⟩
          cases R with
          | true =>
            go_wp2
            all_goals (go_ret; exact ⟨rfl, HG7.out.e.trans E8⟩)
          | false =>
            obtain rfl := HWH.out rfl
            go_wp2
            go_ret
            exact ⟨by first | rfl | simp, HG7.out.e.trans E8⟩
end Go.Proofs.YtnepdfpooobmcaaDoor
