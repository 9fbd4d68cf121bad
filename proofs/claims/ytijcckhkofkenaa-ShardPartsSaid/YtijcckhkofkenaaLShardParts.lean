/- Contracts and lemmas for the proofs of this seat; each theorem states its own conditions. -/
import Derived.Test.YtijcckhkofkenaaPt
import Derived.Test.YtijcckhkofkenaaS10
import Derived.Test.YtijcckhkofkenaaS8
import Derived.Test.YtijcckhkofkenaaW8
import Derived.Test.YtijcckhkofkenaaD4
namespace Go.Proofs.Ytijcckhkofkenaa
open Go.RowKit
/-- the pairs of the owners below i -/
def uptoP (C : List ByteArray) (O : List Int) (l : Prs) (i : Nat) : Prs := l.filter fun x => decide (whose C O x.1 < (i : Int))
theorem upto_zero {C : List ByteArray} {O : List Int} (h : MapOk C O) (l : Prs) : uptoP C O l 0 = [] := by
  unfold uptoP
  rw [List.filter_eq_nil_iff]
  intro x _
  have := (whose_rng h x.1).1
  simp; omega
theorem upto_four {C : List ByteArray} {O : List Int} (h : MapOk C O) (l : Prs) : uptoP C O l 4 = l := by
  unfold uptoP
  rw [List.filter_eq_self]
  intro x _
  have := (whose_rng h x.1).2
  simp; omega
theorem upto_len (C : List ByteArray) (O : List Int) (l : Prs) (i : Nat) : (uptoP C O l i).length + (partP C O l i).length = (uptoP C O l (i + 1)).length := by
  unfold uptoP partP
  induction l with
  | nil => rfl
  | cons x l ih =>
    simp only [List.filter_cons]
    by_cases h1 : whose C O x.1 < (i : Int)
    · have h2 : (whose C O x.1 != (i : Int)) = true := by simp; omega
      have h3 : whose C O x.1 < ((i + 1 : Nat) : Int) := by omega
      simp only [h2, decide_eq_true h3, decide_eq_true h1]
      simp at ih ⊢; omega
    · by_cases h2 : whose C O x.1 = (i : Int)
      · have h3 : whose C O x.1 < ((i + 1 : Nat) : Int) := by omega
        have h4 : (whose C O x.1 != (i : Int)) = false := by simp [h2]
        simp only [h4, decide_eq_true h3, decide_eq_false h1]
        simp at ih ⊢; omega
      · have h3 : ¬ whose C O x.1 < ((i + 1 : Nat) : Int) := by omega
        have h4 : (whose C O x.1 != (i : Int)) = true := by simp [h2]
        simp only [h4, decide_eq_false h3, decide_eq_false h1]
        simp at ih ⊢; omega
theorem upto_join {C : List ByteArray} {O : List Int} {l : Prs} (h : StoreOk l) (i : Nat) : apartB (uptoP C O l i) (partP C O l i) = true ∧ joinP (uptoP C O l i) (partP C O l i) = uptoP C O l (i + 1) := by
  have ou : StoreOk (uptoP C O l i) := storeOk_filter h _
  have op : StoreOk (partP C O l i) := storeOk_filter h _
  have oq : StoreOk (uptoP C O l (i + 1)) := storeOk_filter h _
  have vu := fun k => val_filter h.srt (fun x => decide (whose C O x.1 < (i : Int))) k
  have vp := fun k => val_filter h.srt (fun x => !(whose C O x.1 != (i : Int))) k
  have vq := fun k => val_filter h.srt (fun x => decide (whose C O x.1 < ((i + 1 : Nat) : Int))) k
  refine ⟨apart_of op.srt op.nz fun k hk => ?_, store_ext (join_okS ou op) oq fun k => ?_⟩
  · have h1 := vp k
    have h2 := vu k
    change valP (partP C O l i) k = _ at h1
    change valP (uptoP C O l i) k = _ at h2
    rw [h1] at hk
    rw [h2]
    dsimp only at hk ⊢
    split at hk
    · rename_i e
      have e : whose C O k = (i : Int) := by simpa using e
      rw [if_neg (by simp; omega)]
    · exact absurd rfl hk
  · have h1 := vp k
    have h2 := vu k
    have h3 := vq k
    change valP (partP C O l i) k = _ at h1
    change valP (uptoP C O l i) k = _ at h2
    change valP (uptoP C O l (i + 1)) k = _ at h3
    rw [val_join ou.srt op.srt op.nz, h1, h2, h3]
    dsimp only
    by_cases e : whose C O k = (i : Int)
    · have e1 : (!(whose C O k != (i : Int))) = true := by simp [e]
      have e2 : decide (whose C O k < ((i + 1 : Nat) : Int)) = true := by simp; omega
      have e3 : decide (whose C O k < (i : Int)) = false := by simp; omega
      rw [e1, e2, e3]
      simp
      intro h; exact h.symm
    · have e1 : (!(whose C O k != (i : Int))) = false := by simp [e]
      rw [e1]
      by_cases e2 : whose C O k < (i : Int)
      · have e3 : decide (whose C O k < ((i + 1 : Nat) : Int)) = true := by simp; omega
        rw [e3, decide_eq_true e2]; simp
      · have e3 : decide (whose C O k < ((i + 1 : Nat) : Int)) = false := by simp; omega
        rw [e3, decide_eq_false e2]; simp
theorem part_whose {C : List ByteArray} {O : List Int} {l : Prs} {i : Nat} {x : ByteArray × Int} (h : x ∈ partP C O l i) : whose C O x.1 = (i : Int) ∧ x ∈ l := by
  unfold partP at h
  obtain ⟨h1, h2⟩ := List.mem_filter.1 h
  exact ⟨by simpa using h2, h1⟩
theorem find_ok (v : Value) (C : List ByteArray) (O : List Int) (key : ByteArray) (w : World) (hv : IsMap w v C O) (ok : MapOk C O) (hk : ∀ k ∈ C, k.size ≤ 9223372036854775807) (hkb : keyB key = true) :
    Calls Try.prog 26 #[v, .string key] w fun e w' => e = .returned (.tuple #[.int .i64 (whose C O key), .int .i64 0]) ∧ Ext w w' := by
  have h := find_any v C O key w hv hk (by have := keyB_size hkb; omega)
  have e1 : findV C O key = whose C O key := by simp [findV, mapErr_ok ok, hkb]
  have e2 : findE C O key = 0 := by simp [findE, mapErr_ok ok, hkb]
  rw [e1, e2] at h
  exact h
theorem parts_lit : mapErr [⟨#[109]⟩] [0, 3] = 0 ∧ storeErr [((⟨#[110]⟩ : ByteArray), (1 : Int))] = 0 ∧ partP [⟨#[109]⟩] [0, 3] [((⟨#[110]⟩ : ByteArray), (1 : Int))] 3 = [((⟨#[110]⟩ : ByteArray), (1 : Int))] := by decide +kernel
set_option maxRecDepth 100000 in
set_option maxHeartbeats 2000000 in
theorem parts_walk (v v2 : Value) (l l2 : List Int) (w : World) (hv : Seg w v 1 l.length (cI l)) (hb : ∀ z ∈ l, -9223372036854775808 ≤ z ∧ z ≤ 9223372036854775807)
    (hv2 : Seg w v2 1 l2.length (cI l2)) (hb2 : ∀ z ∈ l2, -9223372036854775808 ≤ z ∧ z ≤ 9223372036854775807) :
    Calls Try.prog 16 #[v, v2] w fun e w' => e = .returned (.bool true) ∧ Ext w w' := by
  have Ea := ((Ext.refl w).alloc (.cells #[.string ⟨#[109]⟩] 9))
  have Eb := Ea.alloc (.cells #[.int .i64 0, .int .i64 3] 3)
  have b1 := heap_1 w (.cells #[.string ⟨#[109]⟩] 9) (.cells #[.int .i64 0, .int .i64 3] 3)
  have b2 := heap_2 w (.cells #[.string ⟨#[109]⟩] 9) (.cells #[.int .i64 0, .int .i64 3] 3)
  generalize hwb : (w.alloc (.cells #[.string ⟨#[109]⟩] 9)).alloc (.cells #[.int .i64 0, .int .i64 3] 3) = wb at Eb b1 b2
  have sb : wb.heap.size = w.heap.size + 2 := by rw [← hwb]; simp
  have b3 := heap_alloc_new wb (.cells #[.string ⟨#[110]⟩, .int .i64 1] 90)
  have Ec := (Ext.refl wb).alloc (.cells #[.string ⟨#[110]⟩, .int .i64 1] 90)
  rw [sb] at b3
  obtain ⟨q1, q2, q3⟩ := parts_lit
  have P0 := part_ok (.agg #[.slice (some ⟨w.heap.size, 0, none⟩) 1 1, .slice (some ⟨w.heap.size + 1, 0, none⟩) 2 2]) (.slice (some ⟨w.heap.size + 2, 0, none⟩) 1 1) [⟨#[109]⟩] [0, 3] [((⟨#[110]⟩ : ByteArray), (1 : Int))] 3 (wb.alloc (.cells #[.string ⟨#[110]⟩, .int .i64 1] 90))
    ⟨_, _, rfl, (seg_blk (xs := cS [⟨#[109]⟩]) b1 rfl (Nat.le_refl _) (by simp [maxLen])).ext Ec, (seg_blk (xs := cI [0, 3]) b2 rfl (Nat.le_refl _) (by simp [maxLen])).ext Ec⟩ (ok_of_mapErr q1) (by simp; decide) (seg_blk (xs := cP [((⟨#[110]⟩ : ByteArray), (1 : Int))]) b3 rfl (Nat.le_refl _) (by simp [maxLen])) (store_ok q2) (by decide) (by omega) (by omega)
  rw [q3] at P0
  have P0 := hid P0
  have E := Eb.trans Ec
  replace hv := hv.ext E
  replace hv2 := hv2.ext E
  clear q1 q2 q3 b1 b2 b3 Ea Eb Ec
  go_enter Try.func16, Try.ntmps16
  go_wp2_with fail
  refine (P0.out).mono ?_
  rintro e w1 ⟨v1, rfl, o1, E1⟩
  obtain ⟨a1, c1, rfl⟩ := own_form o1
  replace hv := hv.ext E1
  replace hv2 := hv2.ext E1
  replace E := E.trans E1
  clear P0 o1 E1 hwb sb
  go_wp2_with fail
  refine (kMap_any _ l _ hv hb).mono ?_
  rintro e w2 ⟨vm, rfl, om, E1⟩
  have hm := om.is
  have mok := mk_ok l
  have msm := mk_small l
  generalize mkC l 6 = C at hm mok msm
  generalize mkO l 6 = O at hm mok
  obtain ⟨am, km, ao, ko, rfl, _, _⟩ := hm.unpack
  replace hv2 := hv2.ext E1
  replace E := E.trans E1
  clear om E1 hv
  go_wp2_with fail
  refine (pairs_any _ l2 _ hv2 hb2).mono ?_
  rintro e w3 ⟨vs, S, rfl, oS, lS, hS, E1⟩
  have sS := own_seg hS
  obtain ⟨a0, c0, rfl⟩ := own_form hS
  replace hm := hm.ext E1
  replace E := E.trans E1
  clear hS E1 hv2
  have hu0 := hid (upto_zero mok S)
  have hu4 := hid (upto_four mok S)
  have ul := hid (fun i => upto_len C O S i)
  have uj := hid (fun i => upto_join (C := C) (O := O) oS i)
  have upo' : ∀ i : Nat, StoreOk (uptoP C O S i) := fun i => storeOk_filter oS _
  have ppo' : ∀ i : Nat, StoreOk (partP C O S i) := fun i => storeOk_filter oS _
  have upl' : ∀ i : Nat, (uptoP C O S i).length ≤ S.length := fun i => List.length_filter_le _ _
  have ppl' : ∀ i : Nat, (partP C O S i).length ≤ S.length := fun i => List.length_filter_le _ _
  have upo := hid upo'
  have ppo := hid ppo'
  have upl := hid upl'
  have ppl := hid ppl'
  clear upo' ppo' upl' ppl'
  have bx := heap_alloc_new w3 (.cells #[.slice am C.length km, .slice ao O.length ko] 26)
  have Ex := (Ext.refl w3).alloc (.cells #[.slice am C.length km, .slice ao O.length ko] 26)
  replace hm := hm.ext Ex
  replace sS := sS.ext Ex
  replace E := E.trans Ex
  have xx := blk2 bx
  go_wp2_with fail
  go_loopw [9, 10, 11, 12, 13, 14, 16, 17, 18, 39, 42, 55, 70] (fun jv nv _ _ _ _ _ _ _ iv _ _ _ wr => ∃ i : Nat, i ≤ 4 ∧ iv = .int .i64 i ∧ nv = .int .i64 ((uptoP C O S i).length : Int) ∧ Seg wr jv 2 (uptoP C O S i).length (cP (uptoP C O S i)) ∧ Ext (w3.alloc (.cells #[.slice am C.length km, .slice ao O.length ko] 26)) wr) (fun _ _ _ _ _ _ _ _ _ iv _ _ _ _ => 4 - (intOf iv).toNat)
  case atStart => exact ⟨0, by omega, rfl, by rw [hu0.out]; rfl, by rw [hu0.out]; exact Seg.nil _ _, Ext.refl _⟩
  case round =>
    obtain ⟨wo, rfl⟩ : ∃ wo : World, wo = wr := ⟨_, rfl⟩
    clear xx
    obtain ⟨i, hi, rfl, rfl, hJ, Er⟩ := hrel
    obtain ⟨aj, cj, rfl⟩ := seg_form hJ
    by_cases hi4 : i < 4
    · have xx := blk2 (Er.heap bx)
      replace hm := hm.ext Er
      replace sS := sS.ext Er
      have PK := part_ok (.agg #[.slice am C.length km, .slice ao O.length ko]) (.slice a0 S.length c0) C O S i wo hm mok msm sS oS (by omega) (by omega) (by omega)
      have PM := hid (fun x (h : x ∈ partP C O S i) => part_whose h)
      obtain ⟨ap, jj⟩ := uj.out i
      have uo := upo.out i
      have po := ppo.out i
      have l1 := upl.out i
      have l2' := ppl.out i
      have ul' := ul.out i
      generalize partP C O S i = X at PK PM ap jj po l2' ul'
      generalize uptoP C O S i = J at hJ ap jj uo l1 ul'
      have lJ := ul'
      have JJ := hid jj
      have PO := hid po
      have PK := hid PK
      clear jj po ul'
      go_wp2_with fail
      refine (PK.out).mono ?_
      clear PK
      rintro e w5 ⟨v5, rfl, o5, E5⟩
      have s5 := own_seg o5
      obtain ⟨a5, c5, rfl⟩ := own_form o5
      have JK := join_ok (.slice aj J.length cj) (.slice a5 X.length c5) J X w5 (hJ.ext E5) s5 uo PO.out (by omega) ap
      rw [JJ.out] at JK
      have JK := hid JK
      clear ap
      go_wp2_with fail
      refine (JK.out).mono ?_
      clear JK
      rintro e w6 ⟨v6, rfl, o6, E6⟩
      have s6 := own_seg o6
      obtain ⟨a6, c6, rfl⟩ := own_form o6
      have E56 := E5.trans E6
      replace s5 := s5.ext E6
      replace hm := hm.ext E56
      replace Er := Er.trans E56
      have bx' := Er.heap bx
      clear o5 o6 E5 E6 E56 xx hJ
      go_wp2_with fail
      go_loopw [16, 17, 18, 66, 70] (fun _ _ _ kv _ w2 => ∃ k : Nat, k ≤ X.length ∧ kv = .int .i64 k ∧ Ext w6 w2) (fun _ _ _ kv _ _ => X.length - (intOf kv).toNat)
      case atStart => exact ⟨0, by omega, rfl, Ext.refl _⟩
      case round =>
        obtain ⟨k, hk, rfl, Ei⟩ := hrel
        by_cases hkl : k < X.length
        · obtain ⟨b5, f5, rfl, _, _, _, hc5⟩ := seg_cells s5 (by omega)
          obtain ⟨p0, p1⟩ := seg_pair (fun j u hu => Ei.cell (hc5 j u hu)) hkl
          obtain ⟨pw, pm⟩ := PM.out _ (List.getElem_mem hkl)
          have kb := PO.out.key _ (List.getElem_mem hkl)
          clear hc5
          generalize X[k] = x at p0 p1 pw kb
          have EA := (Ext.refl wr).alloc (.cells #[.string x.1, .int .i64 x.2] 90)
          have y1 := blk2 (EA.heap (Ei.heap bx'))
          have FK := find_ok (.agg #[.slice am C.length km, .slice ao O.length ko]) C O x.1 (wr.alloc (.cells #[.string x.1, .int .i64 x.2] 90)) ((hm.ext Ei).ext EA) mok msm kb
          rw [pw] at FK
          have FK := hid FK
          clear pw pm
          go_wp2_with fail
          refine (FK.out).mono ?_
          rintro e w7 ⟨rfl, E7⟩
          have qi : ((i : Int) != (i : Int)) = false := by simp
          go_wp2
          go_roundw
          case rel => exact ⟨k + 1, by omega, by go_num, (Ei.trans EA).trans E7⟩
          case measure => simp [intOf]; omega
        · go_wp2
          go_roundw
          case rel => exact ⟨i + 1, by omega, by go_num, by rw [← lJ]; go_num, s6.ext Ei, Er.trans Ei⟩
          case measure => simp [intOf]; omega
    · have hi4' : i = 4 := by omega
      subst hi4'
      replace sS := sS.ext Er
      have qn : (((uptoP C O S 4).length : Int) == (S.length : Int)) = true := by rw [hu4.out]; simp
      have EQ := equal_Pair _ _ _ _ _ hJ sS
      rw [show decide (uptoP C O S 4 = S) = true by rw [hu4.out]; simp] at EQ
      have EQ := hid EQ
      go_wp2_with fail
      refine (EQ.out).mono ?_
      rintro e w7 ⟨rfl, dn, rfl⟩
      go_wp2
      go_ret
      exact ⟨rfl, (E.trans Er).drewN dn⟩
end Go.Proofs.Ytijcckhkofkenaa
