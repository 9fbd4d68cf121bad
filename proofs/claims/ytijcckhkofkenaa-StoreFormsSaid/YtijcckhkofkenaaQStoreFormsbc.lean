/- Contracts and lemmas for the proof of StoreForms; each theorem states its own conditions. -/
import Derived.Test.YtijcckhkofkenaaQStoreFormsau
import Derived.Test.YtijcckhkofkenaaQStoreFormsav
import Derived.Test.YtijcckhkofkenaaQStoreFormsat
import Derived.Test.YtijcckhkofkenaaQStoreFormsbb
import Derived.Test.YtijcckhkofkenaaQStoreFormsar
import Derived.Test.YtijcckhkofkenaaQStoreFormsaw
set_option linter.unusedVariables false
set_option linter.unusedSimpArgs false
/- Contracts and lemmas for the proofs of this seat; each theorem states its own conditions. -/
namespace Go.Proofs.Ytijcckhkofkenaa
open Go.RowKit
/-- the pairs of the owners below i -/
def uptoP (C : List ByteArray) (O : List Int) (l : Prs) (i : Nat) : Prs := l.filter fun x => decide (whose C O x.1 < (i : Int))
theorem upto_zero {C : List ByteArray} {O : List Int} (h : MapOk C O) (l : Prs) : uptoP C O l 0 = [] := by
  unfold uptoP
  rw [List.filter_eq_nil_iff]
  intro x _
  have := (whose_rng h x.1).1
  simp; omega
theorem upto_four {C : List ByteArray} {O : List Int} (h : MapOk C O) (l : Prs) : uptoP C O l 4 = l := by
  unfold uptoP
  rw [List.filter_eq_self]
  intro x _
  have := (whose_rng h x.1).2
  simp; omega
theorem upto_len (C : List ByteArray) (O : List Int) (l : Prs) (i : Nat) : (uptoP C O l i).length + (partP C O l i).length = (uptoP C O l (i + 1)).length := by
  unfold uptoP partP
  induction l with
  | nil => rfl
  | cons x l ih =>
    simp only [List.filter_cons]
    by_cases h1 : whose C O x.1 < (i : Int)
    · have h2 : (whose C O x.1 != (i : Int)) = true := by simp; omega
      have h3 : whose C O x.1 < ((i + 1 : Nat) : Int) := by omega
      simp only [h2, decide_eq_true h3, decide_eq_true h1]
      simp at ih ⊢; omega
    · by_cases h2 : whose C O x.1 = (i : Int)
      · have h3 : whose C O x.1 < ((i + 1 : Nat) : Int) := by omega
        have h4 : (whose C O x.1 != (i : Int)) = false := by simp [h2]
        simp only [h4, decide_eq_true h3, decide_eq_false h1]
        simp at ih ⊢; omega
      · have h3 : ¬ whose C O x.1 < ((i + 1 : Nat) : Int) := by omega
        have h4 : (whose C O x.1 != (i : Int)) = true := by simp [h2]
        simp only [h4, decide_eq_false h3, decide_eq_false h1]
        simp at ih ⊢; omega
theorem upto_join {C : List ByteArray} {O : List Int} {l : Prs} (h : StoreOk l) (i : Nat) : apartB (uptoP C O l i) (partP C O l i) = true ∧ joinP (uptoP C O l i) (partP C O l i) = uptoP C O l (i + 1) := by
  have ou : StoreOk (uptoP C O l i) := storeOk_filter h _
  have op : StoreOk (partP C O l i) := storeOk_filter h _
  have oq : StoreOk (uptoP C O l (i + 1)) := storeOk_filter h _
  have vu := fun k => val_filter h.srt (fun x => decide (whose C O x.1 < (i : Int))) k
  have vp := fun k => val_filter h.srt (fun x => !(whose C O x.1 != (i : Int))) k
  have vq := fun k => val_filter h.srt (fun x => decide (whose C O x.1 < ((i + 1 : Nat) : Int))) k
  refine ⟨apart_of op.srt op.nz fun k hk => ?_, store_ext (join_okS ou op) oq fun k => ?_⟩
  · have h1 := vp k
    have h2 := vu k
    change valP (partP C O l i) k = _ at h1
    change valP (uptoP C O l i) k = _ at h2
    rw [h1] at hk
    rw [h2]
    dsimp only at hk ⊢
    split at hk
    · rename_i e
      have e : whose C O k = (i : Int) := by simpa using e
      rw [if_neg (by simp; omega)]
    · exact absurd rfl hk
  · have h1 := vp k
    have h2 := vu k
    have h3 := vq k
    change valP (partP C O l i) k = _ at h1
    change valP (uptoP C O l i) k = _ at h2
    change valP (uptoP C O l (i + 1)) k = _ at h3
    rw [val_join ou.srt op.srt op.nz, h1, h2, h3]
    dsimp only
    by_cases e : whose C O k = (i : Int)
    · have e1 : (!(whose C O k != (i : Int))) = true := by simp [e]
      have e2 : decide (whose C O k < ((i + 1 : Nat) : Int)) = true := by simp; omega
      have e3 : decide (whose C O k < (i : Int)) = false := by simp; omega
      rw [e1, e2, e3]
      simp
      intro h; exact h.symm
    · have e1 : (!(whose C O k != (i : Int))) = false := by simp [e]
      rw [e1]
      by_cases e2 : whose C O k < (i : Int)
      · have e3 : decide (whose C O k < ((i + 1 : Nat) : Int)) = true := by simp; omega
        rw [e3, decide_eq_true e2]; simp
      · have e3 : decide (whose C O k < ((i + 1 : Nat) : Int)) = false := by simp; omega
        rw [e3, decide_eq_false e2]; simp
theorem part_whose {C : List ByteArray} {O : List Int} {l : Prs} {i : Nat} {x : ByteArray × Int} (h : x ∈ partP C O l i) : whose C O x.1 = (i : Int) ∧ x ∈ l := by
  unfold partP at h
  obtain ⟨h1, h2⟩ := List.mem_filter.1 h
  exact ⟨by simpa using h2, h1⟩
theorem find_ok (v : Value) (C : List ByteArray) (O : List Int) (key : ByteArray) (w : World) (hv : IsMap w v C O) (ok : MapOk C O) (hk : ∀ k ∈ C, k.size ≤ 9223372036854775807) (hkb : keyB key = true) :
    Calls Try.prog 26 #[v, .string key] w fun e w' => e = .returned (.tuple #[.int .i64 (whose C O key), .int .i64 0]) ∧ Ext w w' := by
  have h := find_any v C O key w hv hk (by have := keyB_size hkb; omega)
  have e1 : findV C O key = whose C O key := by simp [findV, mapErr_ok ok, hkb]
  have e2 : findE C O key = 0 := by simp [findE, mapErr_ok ok, hkb]
  rw [e1, e2] at h
  exact h
theorem parts_lit : mapErr [⟨#[109]⟩] [0, 3] = 0 ∧ storeErr [((⟨#[110]⟩ : ByteArray), (1 : Int))] = 0 ∧ partP [⟨#[109]⟩] [0, 3] [((⟨#[110]⟩ : ByteArray), (1 : Int))] 3 = [((⟨#[110]⟩ : ByteArray), (1 : Int))] := by decide +kernel
set_option maxRecDepth 100000 in
set_option maxHeartbeats 2000000 in
theorem parts_walk (v v2 : Value) (l l2 : List Int) (w : World) (hv : Seg w v 1 l.length (cI l)) (hb : ∀ z ∈ l, -9223372036854775808 ≤ z ∧ z ≤ 9223372036854775807)
    (hv2 : Seg w v2 1 l2.length (cI l2)) (hb2 : ∀ z ∈ l2, -9223372036854775808 ≤ z ∧ z ≤ 9223372036854775807) :
    Calls Try.prog 16 #[v, v2] w fun e w' => e = .returned (.bool true) ∧ Ext w w' := by
  have Ea := ((Ext.refl w).alloc (.cells #[.string ⟨#[109]⟩] 9))
  have Eb := Ea.alloc (.cells #[.int .i64 0, .int .i64 3] 3)
  have b1 := heap_1 w (.cells #[.string ⟨#[109]⟩] 9) (.cells #[.int .i64 0, .int .i64 3] 3)
  have b2 := heap_2 w (.cells #[.string ⟨#[109]⟩] 9) (.cells #[.int .i64 0, .int .i64 3] 3)
  generalize hwb : (w.alloc (.cells #[.string ⟨#[109]⟩] 9)).alloc (.cells #[.int .i64 0, .int .i64 3] 3) = wb at Eb b1 b2
  have sb : wb.heap.size = w.heap.size + 2 := by rw [← hwb]; simp
  have b3 := heap_alloc_new wb (.cells #[.string ⟨#[110]⟩, .int .i64 1] 90)
  have Ec := (Ext.refl wb).alloc (.cells #[.string ⟨#[110]⟩, .int .i64 1] 90)
  rw [sb] at b3
  obtain ⟨q1, q2, q3⟩ := parts_lit
  have P0 := part_ok (.agg #[.slice (some ⟨w.heap.size, 0, none⟩) 1 1, .slice (some ⟨w.heap.size + 1, 0, none⟩) 2 2]) (.slice (some ⟨w.heap.size + 2, 0, none⟩) 1 1) [⟨#[109]⟩] [0, 3] [((⟨#[110]⟩ : ByteArray), (1 : Int))] 3 (wb.alloc (.cells #[.string ⟨#[110]⟩, .int .i64 1] 90))
    ⟨_, _, rfl, (seg_blk (xs := cS [⟨#[109]⟩]) b1 rfl (Nat.le_refl _) (by simp [maxLen])).ext Ec, (seg_blk (xs := cI [0, 3]) b2 rfl (Nat.le_refl _) (by simp [maxLen])).ext Ec⟩ (ok_of_mapErr q1) (by simp; decide) (seg_blk (xs := cP [((⟨#[110]⟩ : ByteArray), (1 : Int))]) b3 rfl (Nat.le_refl _) (by simp [maxLen])) (store_ok q2) (by decide) (by omega) (by omega)
  rw [q3] at P0
  have P0 := hid P0
  have E := Eb.trans Ec
  replace hv := hv.ext E
  replace hv2 := hv2.ext E
  clear q1 q2 q3 b1 b2 b3 Ea Eb Ec
  go_enter Try.func16, Try.ntmps16
  go_wp2_with fail
  refine (P0.out).mono ?_
  rintro e w1 ⟨v1, rfl, o1, E1⟩
  obtain ⟨a1, c1, rfl⟩ := own_form o1
  replace hv := hv.ext E1
  replace hv2 := hv2.ext E1
  replace E := E.trans E1
  clear P0 o1 E1 hwb sb
  go_wp2_with fail
  refine (kMap_any _ l _ hv hb).mono ?_
  rintro e w2 ⟨vm, rfl, om, E1⟩
  have hm := om.is
  have mok := mk_ok l
  have msm := mk_small l
  generalize mkC l 6 = C at hm mok msm
  generalize mkO l 6 = O at hm mok
  obtain ⟨am, km, ao, ko, rfl, _, _⟩ := hm.unpack
  replace hv2 := hv2.ext E1
  replace E := E.trans E1
  clear om E1 hv
  go_wp2_with fail
  refine (pairs_any _ l2 _ hv2 hb2).mono ?_
  rintro e w3 ⟨vs, S, rfl, oS, lS, hS, E1⟩
  have sS := own_seg hS
  obtain ⟨a0, c0, rfl⟩ := own_form hS
  replace hm := hm.ext E1
  replace E := E.trans E1
  clear hS E1 hv2
  have hu0 := hid (upto_zero mok S)
  have hu4 := hid (upto_four mok S)
  have ul := hid (fun i => upto_len C O S i)
  have uj := hid (fun i => upto_join (C := C) (O := O) oS i)
  have upo' : ∀ i : Nat, StoreOk (uptoP C O S i) := fun i => storeOk_filter oS _
  have ppo' : ∀ i : Nat, StoreOk (partP C O S i) := fun i => storeOk_filter oS _
  have upl' : ∀ i : Nat, (uptoP C O S i).length ≤ S.length := fun i => List.length_filter_le _ _
  have ppl' : ∀ i : Nat, (partP C O S i).length ≤ S.length := fun i => List.length_filter_le _ _
  have upo := hid upo'
  have ppo := hid ppo'
  have upl := hid upl'
  have ppl := hid ppl'
  clear upo' ppo' upl' ppl'
  have bx := heap_alloc_new w3 (.cells #[.slice am C.length km, .slice ao O.length ko] 26)
  have Ex := (Ext.refl w3).alloc (.cells #[.slice am C.length km, .slice ao O.length ko] 26)
  replace hm := hm.ext Ex
  replace sS := sS.ext Ex
  replace E := E.trans Ex
  have xx := blk2 bx
  go_wp2_with fail
  go_loopw [9, 10, 11, 12, 13, 14, 16, 17, 18, 39, 42, 55, 70] (fun jv nv _ _ _ _ _ _ _ iv _ _ _ wr => ∃ i : Nat, i ≤ 4 ∧ iv = .int .i64 i ∧ nv = .int .i64 ((uptoP C O S i).length : Int) ∧ Seg wr jv 2 (uptoP C O S i).length (cP (uptoP C O S i)) ∧ Ext (w3.alloc (.cells #[.slice am C.length km, .slice ao O.length ko] 26)) wr) (fun _ _ _ _ _ _ _ _ _ iv _ _ _ _ => 4 - (intOf iv).toNat)
  case atStart => exact ⟨0, by omega, rfl, by rw [hu0.out]; rfl, by rw [hu0.out]; exact Seg.nil _ _, Ext.refl _⟩
  case round =>
    obtain ⟨wo, rfl⟩ : ∃ wo : World, wo = wr := ⟨_, rfl⟩
    clear xx
    obtain ⟨i, hi, rfl, rfl, hJ, Er⟩ := hrel
    obtain ⟨aj, cj, rfl⟩ := seg_form hJ
    by_cases hi4 : i < 4
    · have xx := blk2 (Er.heap bx)
      replace hm := hm.ext Er
      replace sS := sS.ext Er
      have PK := part_ok (.agg #[.slice am C.length km, .slice ao O.length ko]) (.slice a0 S.length c0) C O S i wo hm mok msm sS oS (by omega) (by omega) (by omega)
      have PM := hid (fun x (h : x ∈ partP C O S i) => part_whose h)
      obtain ⟨ap, jj⟩ := uj.out i
      have uo := upo.out i
      have po := ppo.out i
      have l1 := upl.out i
      have l2' := ppl.out i
      have ul' := ul.out i
      generalize partP C O S i = X at PK PM ap jj po l2' ul'
      generalize uptoP C O S i = J at hJ ap jj uo l1 ul'
      have lJ := ul'
      have JJ := hid jj
      have PO := hid po
      have PK := hid PK
      clear jj po ul'
      go_wp2_with fail
      refine (PK.out).mono ?_
      clear PK
      rintro e w5 ⟨v5, rfl, o5, E5⟩
      have s5 := own_seg o5
      obtain ⟨a5, c5, rfl⟩ := own_form o5
      have JK := join_ok (.slice aj J.length cj) (.slice a5 X.length c5) J X w5 (hJ.ext E5) s5 uo PO.out (by omega) ap
      rw [JJ.out] at JK
      have JK := hid JK
      clear ap
      go_wp2_with fail
      refine (JK.out).mono ?_
      clear JK
      rintro e w6 ⟨v6, rfl, o6, E6⟩
      have s6 := own_seg o6
      obtain ⟨a6, c6, rfl⟩ := own_form o6
      have E56 := E5.trans E6
      replace s5 := s5.ext E6
      replace hm := hm.ext E56
      replace Er := Er.trans E56
      have bx' := Er.heap bx
      clear o5 o6 E5 E6 E56 xx hJ
      go_wp2_with fail
      go_loopw [16, 17, 18, 66, 70] (fun _ _ _ kv _ w2 => ∃ k : Nat, k ≤ X.length ∧ kv = .int .i64 k ∧ Ext w6 w2) (fun _ _ _ kv _ _ => X.length - (intOf kv).toNat)
      case atStart => exact ⟨0, by omega, rfl, Ext.refl _⟩
      case round =>
        obtain ⟨k, hk, rfl, Ei⟩ := hrel
        by_cases hkl : k < X.length
        · obtain ⟨b5, f5, rfl, _, _, _, hc5⟩ := seg_cells s5 (by omega)
          obtain ⟨p0, p1⟩ := seg_pair (fun j u hu => Ei.cell (hc5 j u hu)) hkl
          obtain ⟨pw, pm⟩ := PM.out _ (List.getElem_mem hkl)
          have kb := PO.out.key _ (List.getElem_mem hkl)
          clear hc5
          generalize X[k] = x at p0 p1 pw kb
          have EA := (Ext.refl wr).alloc (.cells #[.string x.1, .int .i64 x.2] 90)
          have y1 := blk2 (EA.heap (Ei.heap bx'))
          have FK := find_ok (.agg #[.slice am C.length km, .slice ao O.length ko]) C O x.1 (wr.alloc (.cells #[.string x.1, .int .i64 x.2] 90)) ((hm.ext Ei).ext EA) mok msm kb
          rw [pw] at FK
          have FK := hid FK
          clear pw pm
          go_wp2_with fail
          refine (FK.out).mono ?_
          rintro e w7 ⟨rfl, E7⟩
          have qi : ((i : Int) != (i : Int)) = false := by simp
          go_wp2
          go_roundw
          case rel => exact ⟨k + 1, by omega, by go_num, (Ei.trans EA).trans E7⟩
          case measure => simp [intOf]; omega
        · go_wp2
          go_roundw
          case rel => exact ⟨i + 1, by omega, by go_num, by rw [← lJ]; go_num, s6.ext Ei, Er.trans Ei⟩
          case measure => simp [intOf]; omega
    · have hi4' : i = 4 := by omega
      subst hi4'
      replace sS := sS.ext Er
      have qn : (((uptoP C O S 4).length : Int) == (S.length : Int)) = true := by rw [hu4.out]; simp
      have EQ := equal_Pair _ _ _ _ _ hJ sS
      rw [show decide (uptoP C O S 4 = S) = true by rw [hu4.out]; simp] at EQ
      have EQ := hid EQ
      go_wp2_with fail
      refine (EQ.out).mono ?_
      rintro e w7 ⟨rfl, dn, rfl⟩
      go_wp2
      go_ret
      exact ⟨rfl, (E.trans Er).drewN dn⟩
end Go.Proofs.Ytijcckhkofkenaa

/- Contracts and lemmas for the proofs of this seat; each theorem states its own conditions. -/
namespace Go.Proofs.Ytijcckhkofkenaa
open Go.RowKit
set_option maxRecDepth 10000 in
theorem storeBegun_any (w : World) : Calls Try.prog 57 #[] w fun e w' => e = .returned (.bool true) ∧ Ext w w' := by
  go_enter Try.func57, Try.ntmps57
  go_wp2_with fail
  refine (put_ok _ [] _ _ _ (Seg.nil _ _) (by simp) (by decide) (by simp) storeOk_nil (by decide +kernel) (by decide)).mono ?_
  rintro e w1 ⟨v', rfl, ho, E⟩
  obtain ⟨a, c, rfl⟩ := own_form ho
  have hl : (withP [] ⟨#[97]⟩ 5).length = 1 := by simp [withP]
  rw [hl]
  clear hl ho
  go_wp2
  go_ret
  exact ⟨rfl, E⟩
theorem eqP_self (l : Prs) : decide (l = l) = true := by simp
set_option maxRecDepth 100000 in
set_option maxHeartbeats 2000000 in
theorem puts_walk (v : Value) (l : List Int) (a b n m : Int) (w : World) (hv : Seg w v 1 l.length (cI l)) (hb : ∀ z ∈ l, -9223372036854775808 ≤ z ∧ z ≤ 9223372036854775807) :
    Calls Try.prog 11 #[v, .int .i64 a, .int .i64 b, .int .i64 n, .int .i64 m] w fun e w' => e = .returned (.bool true) ∧ Ext w w' := by
  have ka := keyOf_is a
  have kb := keyOf_is b
  have g1 := wi_lo (k := n) (n := 9) (by omega)
  have g2 := wi_hi (k := n) (n := 9) (by omega)
  have g3 := wi_lo (k := m) (n := 9) (by omega)
  have g4 := wi_hi (k := m) (n := 9) (by omega)
  go_enter Try.func11, Try.ntmps11
  go_wp2_with fail
  refine (storeBegun_any _).mono ?_
  rintro e w1 ⟨rfl, E1⟩
  go_wp2_with fail
  refine (pairs_any _ l _ (hv.ext E1) hb).mono ?_
  rintro e w2 ⟨vs, S, rfl, oS, lS, hS, E2⟩
  have sS := own_seg hS
  obtain ⟨a0, c0, rfl⟩ := own_form hS
  have E := E1.trans E2
  clear hS E1 E2
  go_wp2_with fail
  refine (kKey_any _ _).mono ?_
  rintro e w3 ⟨rfl, E3⟩
  go_wp2_with fail
  refine (kKey_any _ _).mono ?_
  rintro e w4 ⟨rfl, E4⟩
  generalize keyOf a = p at ka ⊢
  generalize keyOf b = q at kb ⊢
  go_wp2_with fail
  refine (within_any _ _ _ (by omega) (by omega)).mono ?_
  rintro e w' ⟨rfl, rfl⟩
  go_wp2_with fail
  refine (within_any _ _ _ (by omega) (by omega)).mono ?_
  rintro e w' ⟨rfl, rfl⟩
  have vx : valB (wi n 9 - 4) = true := valB_iff.2 (by omega)
  have vy : valB (wi m 9 - 4) = true := valB_iff.2 (by omega)
  replace E := (E.trans E3).trans E4
  replace sS := (sS.ext E3).ext E4
  clear E3 E4
  go_wp2_with fail
  generalize wi n 9 - 4 = x at vx ⊢
  generalize wi m 9 - 4 = y at vy ⊢
  clear g1 g2 g3 g4
  have bx := valB_iff.1 vx
  have by_ := valB_iff.1 vy
  have oX := storeOk_with oS ka.1 bx
  have lX := with_len S p x
  refine (put_ok _ S p x _ sS (store_small oS) ka.2 (by omega) oS ka.1 vx).mono ?_
  rintro e w5 ⟨v5, rfl, ho, E5⟩
  have sX := own_seg ho
  obtain ⟨a5, c5, rfl⟩ := own_form ho
  replace sS := sS.ext E5
  replace E := E.trans E5
  clear ho E5
  obtain ⟨X, hX⟩ : ∃ X, withP S p x = X := ⟨_, rfl⟩
  rw [hX] at oX lX sX ⊢
  have oY := storeOk_with oX kb.1 by_
  have lY := with_len X q y
  go_wp2_with fail
  refine (put_ok _ X q y _ sX (store_small oX) kb.2 (by omega) oX kb.1 vy).mono ?_
  rintro e w6 ⟨v6, rfl, ho, E6⟩
  have sY := own_seg ho
  obtain ⟨a6, c6, rfl⟩ := own_form ho
  replace sS := sS.ext E6
  replace sX := sX.ext E6
  replace E := E.trans E6
  clear ho E6
  obtain ⟨Y, hY⟩ : ∃ Y, withP X q y = Y := ⟨_, rfl⟩
  rw [hY] at oY lY sY ⊢
  have oZ := storeOk_with oS kb.1 by_
  have lZ := with_len S q y
  go_wp2_with fail
  refine (put_ok _ S q y _ sS (store_small oS) kb.2 (by omega) oS kb.1 vy).mono ?_
  rintro e w7 ⟨v7, rfl, ho, E7⟩
  have sZ := own_seg ho
  obtain ⟨a7, c7, rfl⟩ := own_form ho
  replace sS := sS.ext E7
  replace sX := sX.ext E7
  replace sY := sY.ext E7
  replace E := E.trans E7
  clear ho E7
  obtain ⟨Z, hZ⟩ : ∃ Z, withP S q y = Z := ⟨_, rfl⟩
  rw [hZ] at oZ lZ sZ ⊢
  have oW := storeOk_with oZ ka.1 bx
  have lW := with_len Z p x
  go_wp2_with fail
  refine (put_ok _ Z p x _ sZ (store_small oZ) ka.2 (by omega) oZ ka.1 vx).mono ?_
  rintro e w8 ⟨v8, rfl, ho, E8⟩
  have sW := own_seg ho
  obtain ⟨a8, c8, rfl⟩ := own_form ho
  replace sS := sS.ext E8
  replace sX := sX.ext E8
  replace sY := sY.ext E8
  replace sZ := sZ.ext E8
  replace E := E.trans E8
  clear ho E8
  obtain ⟨W, hW⟩ : ∃ W, withP Z p x = W := ⟨_, rfl⟩
  rw [hW] at oW lW sW ⊢
  have gE : ∀ (L : Prs) (k : ByteArray), StoreOk L → keyB k = true → getE L k = 0 := fun L k h h' => by simp [getE, storeErr_ok h, h']
  have gV : ∀ (L : Prs) (k : ByteArray), StoreOk L → keyB k = true → getV L k = valP L k := fun L k h h' => by simp [getV, storeErr_ok h, h']
  have x1 : valP X p = x := by rw [← hX, val_with oS.srt, if_pos rfl]
  have x2 : p ≠ q → valP X q = valP S q := fun h => by rw [← hX, val_with oS.srt, if_neg h]
  have x3 : p ≠ q → Y = W := fun h => store_ext oY oW fun k => by
    rw [← hY, ← hW, val_with oX.srt, val_with oZ.srt, ← hX, ← hZ, val_with oS.srt, val_with oS.srt]
    by_cases e : q = k
    · subst e; rw [if_pos rfl, if_neg h, if_pos rfl]
    · rw [if_neg e, if_neg e]
  have x4 : p = q → Y = Z := fun h => store_ext oY oZ fun k => by
    rw [← hY, ← hZ, val_with oX.srt, ← hX, val_with oS.srt, val_with oS.srt]
    by_cases e : q = k
    · rw [if_pos e, if_pos e]
    · rw [if_neg e, if_neg e, if_neg (by rw [h]; exact e)]
  have X1 := hid x1
  have X2 := hid x2
  have X3 := hid x3
  have X4 := hid x4
  have GE := hid gE
  have GV := hid gV
  have HX := hid (And.intro hX (And.intro hY (And.intro hZ hW)))
  clear x1 x2 x3 x4 gE gV hX hY hZ hW
  have G1 := get_any (.slice a5 X.length c5) X p
  have G2 := get_any (.slice a5 X.length c5) X q
  have G3 := get_any (.slice a0 S.length c0) S q
  rw [GE.out _ _ oX ka.1, GV.out _ _ oX ka.1, X1.out] at G1
  rw [GE.out _ _ oX kb.1, GV.out _ _ oX kb.1] at G2
  rw [GE.out _ _ oS kb.1, GV.out _ _ oS kb.1] at G3
  generalize hu : valP X q = u at G2 X2
  generalize hs : valP S q = s at G3 X2
  clear hu hs
  have G1 := hid G1
  have G2 := hid G2
  have G3 := hid G3
  go_wp2_with fail
  refine (G1.out _ sX (store_small oX) ka.2 (by omega)).mono ?_
  rintro e w9 ⟨rfl, E9⟩
  go_wp2_with fail
  refine (G2.out _ (sX.ext E9) (store_small oX) kb.2 (by omega)).mono ?_
  rintro e w10 ⟨rfl, E10⟩
  go_wp2_with fail
  refine (G3.out _ ((sS.ext E9).ext E10) (store_small oS) kb.2 (by omega)).mono ?_
  rintro e w11 ⟨rfl, E11⟩
  have E12 := (E9.trans E10).trans E11
  replace sY := sY.ext E12
  replace sZ := sZ.ext E12
  replace sW := sW.ext E12
  replace E := E.trans E12
  clear E9 E10 E11 E12 sX sS G1 G2 G3
  go_wp2_with fail
  have bL := heap_alloc_new w11 (.cells #[.int .i64 0, .int .i64 0, .int .i64 0, .int .i64 0, .int .i64 0, .int .i64 0, .int .i64 0] 29)
  have Ea := (Ext.refl w11).alloc (.cells #[.int .i64 0, .int .i64 0, .int .i64 0, .int .i64 0, .int .i64 0, .int .i64 0, .int .i64 0] 29)
  replace sY := sY.ext Ea
  replace sZ := sZ.ext Ea
  replace sW := sW.ext Ea
  replace E := E.trans Ea
  generalize w11.alloc (.cells #[.int .i64 0, .int .i64 0, .int .i64 0, .int .i64 0, .int .i64 0, .int .i64 0, .int .i64 0] 29) = w12 at bL sY sZ sW E ⊢
  generalize w11.heap.size = bb at bL ⊢
  clear Ea
  go_loopw [29, 99] (fun _ i wr => ∃ k : Nat, k ≤ 7 ∧ i = .int .i64 k ∧ Ext w12 wr) (fun _ i _ => 7 - (intOf i).toNat)
  case atStart => exact ⟨0, by omega, rfl, Ext.refl _⟩
  case round =>
    obtain ⟨k, hk, rfl, Er⟩ := hrel
    by_cases hlt : k < 7
    · have c0 : wr.cell? ⟨bb, k, none⟩ = some (.int .i64 0) := Er.cell (by
        have : k = 0 ∨ k = 1 ∨ k = 2 ∨ k = 3 ∨ k = 4 ∨ k = 5 ∨ k = 6 := by omega
        rcases this with rfl | rfl | rfl | rfl | rfl | rfl | rfl <;> simp [World.cell?, bL])
      clear bL
      go_wp2
      go_roundw
      case rel => exact ⟨k + 1, by omega, by go_num, Er⟩
      case measure => simp [intOf]; omega
    · obtain rfl : k = 7 := by omega
      clear bL
      replace sY := sY.ext Er
      replace sZ := sZ.ext Er
      replace sW := sW.ext Er
      replace E := E.trans Er
      clear Er
      by_cases hpq : p = q
      · subst hpq
        obtain rfl := X4.out rfl
        go_wp2_with fail
        refine (equal_Pair _ _ Y Y _ sY sZ).mono ?_
        rw [eqP_self]
        rintro e w13 ⟨rfl, d, rfl⟩
        have E13 := E.drewN d
        go_wp2_with fail
        refine (scheck_any _ Y _ (sY.ext ((Ext.refl _).drewN d)) (store_small oY)).mono ?_
        rw [storeErr_ok oY]
        rintro e w14 ⟨rfl, E14⟩
        go_wp2
        go_ret
        exact ⟨rfl, E13.trans E14⟩
      · have hl : ¬ p.toList = q.toList := fun e => hpq (toList_inj e)
        have h1 : (p.toList == q.toList) = false := by simp [hl]
        have h2 : (!p.toList == q.toList) = true := by simp [hl]
        obtain rfl := X2.out hpq
        obtain rfl := X3.out hpq
        clear hl
        go_wp2_with fail
        refine (equal_Pair _ _ Y Y _ sY sW).mono ?_
        rw [eqP_self]
        rintro e w13 ⟨rfl, d, rfl⟩
        have E13 := E.drewN d
        go_wp2_with fail
        refine (scheck_any _ Y _ (sY.ext ((Ext.refl _).drewN d)) (store_small oY)).mono ?_
        rw [storeErr_ok oY]
        rintro e w14 ⟨rfl, E14⟩
        go_wp2
        go_ret
        exact ⟨rfl, E13.trans E14⟩
end Go.Proofs.Ytijcckhkofkenaa
