/- Contracts and lemmas for the proof of PartsPlay; each theorem states its own conditions. -/
import Derived.Test.YtimchedebcoohaaGreatDoorQPartsPlaybn
import Derived.Test.YtimchedebcoohaaGreatDoorQPartsPlayaz
import Derived.Test.YtimchedebcoohaaGreatDoorQPartsPlayao
set_option linter.unusedVariables false
set_option linter.unusedSimpArgs false
/- Contracts and lemmas for the proofs of this seat; each theorem states its own conditions. -/
namespace Go.Proofs.YtimchedebcoohaaGreatDoor
open Go.RowKit
/-- what stands after k rounds of Plain: w1 is the world ahead of the loop -/
def PS (w1 wr : World) (bx : Nat) (C : List ByteArray) (O : List Int) (k : Nat) : Prop :=
  ∃ a1 c1 a2 c2, wr.heap[bx]? = some (.cells #[.slice a1 (pl C O k).1.length c1, .slice a2 (pl C O k).2.length c2] 25 (0, 0)) ∧
    wr.ownsRow w1.heap.size 9 1 (.slice a1 (pl C O k).1.length c1) (pl C O k).1.length (cS (pl C O k).1) ∧
    wr.ownsRow w1.heap.size 3 1 (.slice a2 (pl C O k).2.length c2) (pl C O k).2.length (cI (pl C O k).2) ∧ Ext w1 wr
theorem PS_no {w1 wr : World} {bx : Nat} {C : List ByteArray} {O : List Int} {k : Nat} (h : PS w1 wr bx C O k) (ht : O.getD (k + 1) 0 = lastO (pl C O k).2) : PS w1 wr bx C O (k + 1) := by
  have e : pl C O (k + 1) = pl C O k := by simp only [pl, if_pos ht]
  unfold PS; rw [e]; exact h
theorem PS_yes {w1 w' : World} {bx : Nat} {C : List ByteArray} {O : List Int} {k : Nat} (hk : k < C.length) (hk' : k + 1 < O.length) (ht : O[k + 1] ≠ lastO (pl C O k).2) {v1 v2 : Value} {L : Nat → Bool} {x : Nat → Value}
    (h : TP w1 bx v1 v2 (pl C O k).1 (pl C O k).2 C[k] O[k + 1] L x w') (h4 : L 4 = true) (h9 : L 9 = true) (h11 : L 11 = true) (h13 : L 13 = true) : PS w1 w' bx C O (k + 1) := by
  have eO : O.getD (k + 1) 0 = O[k + 1] := by simp [hk']
  have e : pl C O (k + 1) = ((pl C O k).1 ++ [C[k]], (pl C O k).2 ++ [O[k + 1]]) := by simp only [pl, eO, if_neg ht, kAt_eq hk]
  obtain ⟨⟨a4, c4, e4⟩, o4⟩ := h.oa' h4
  obtain ⟨⟨a9, c9, e9⟩, o9⟩ := h.ob' h9
  have b := h.box
  rw [h11, h13, if_pos rfl, if_pos rfl, e4, e9] at b
  rw [e4] at o4; rw [e9] at o9
  unfold PS
  rw [e]
  simp only [List.length_append, List.length_singleton]
  exact ⟨a4, c4, a9, c9, b, by simpa [cS] using o4, by simpa [cI] using o9, h.ext⟩
end Go.Proofs.YtimchedebcoohaaGreatDoor

/- Contracts and lemmas for the proofs of this seat; each theorem states its own conditions. -/
namespace Go.Proofs.YtimchedebcoohaaGreatDoor
open Go.RowKit
end Go.Proofs.YtimchedebcoohaaGreatDoor

/- Contracts and lemmas for the proofs of this seat; each theorem states its own conditions. -/
namespace Go.Proofs.YtimchedebcoohaaGreatDoor
open Go.RowKit
/-! shard.Plain, Same, Part at whatever is handed in -/
theorem nilMap_is (w : World) : IsMap w nilMap [] [] := ⟨_, _, rfl, Seg.nil _ _, Seg.nil _ _⟩
theorem mapOk_of {C : List ByteArray} {O : List Int} (h : mapErr C O = 0) : MapOk C O := ok_of_mapErr h
def sameE (C C2 : List ByteArray) (O O2 : List Int) : Int := if mapErr C O ≠ 0 then mapErr C O else mapErr C2 O2
def sameV (C C2 : List ByteArray) (O O2 : List Int) : Bool := if sameE C C2 O O2 = 0 then sameB (pl C O C.length).1 (pl C2 O2 C2.length).1 (pl C O C.length).2 (pl C2 O2 C2.length).2 else false
def partE (C : List ByteArray) (O : List Int) (l : Prs) (n : Int) : Int := if mapErr C O ≠ 0 then mapErr C O else if storeErr l ≠ 0 then storeErr l else if n < 0 ∨ 4 ≤ n then 1 else 0
set_option maxRecDepth 10000 in
set_option maxHeartbeats 1000000 in
theorem part_bad (vm vl : Value) (C : List ByteArray) (O : List Int) (l : Prs) (n : Int) (w : World) (hm : IsMap w vm C O) (hk : ∀ k ∈ C, k.size ≤ 9223372036854775807) (hv : Seg w vl 2 l.length (cP l)) (sk : ∀ p ∈ l, p.1.size ≤ 9223372036854775807) (he : partE C O l n ≠ 0) :
    Calls Tryz.prog 32 #[vm, vl, .int .i64 n] w fun e w' => e = .returned (.tuple #[.slice none 0 0, .int .i64 (partE C O l n)]) ∧ Ext w w' := by
  obtain ⟨a1, k1, a2, k2, rfl, m1, m2⟩ := hm.unpack
  have b1 := heap_1 w (.cells #[.slice a1 C.length k1, .slice a2 O.length k2] 25) (.cells #[.int .i64 n] 3)
  have b2 := heap_2 w (.cells #[.slice a1 C.length k1, .slice a2 O.length k2] 25) (.cells #[.int .i64 n] 3)
  have E0 := ((Ext.refl w).alloc (.cells #[.slice a1 C.length k1, .slice a2 O.length k2] 25)).alloc (.cells #[.int .i64 n] 3)
  obtain ⟨w0, hw0⟩ : ∃ w0, (w.alloc (.cells #[.slice a1 C.length k1, .slice a2 O.length k2] 25)).alloc (.cells #[.int .i64 n] 3) = w0 := ⟨_, rfl⟩
  rw [hw0] at b1 b2 E0
  have x1 := blk2 b1
  have x2 := cell_of_one b2
  obtain ⟨al, cl, rfl⟩ := seg_form hv
  have MC := hid (mcheck_any _ C O w0 (hm.ext E0) hk)
  have SC := hid (fun w' (q : Ext w0 w') => scheck_any _ l w' (hv.ext (E0.trans q)) sk)
  have HPE := hid (show partE C O l n = if mapErr C O ≠ 0 then mapErr C O else if storeErr l ≠ 0 then storeErr l else if n < 0 ∨ 4 ≤ n then 1 else 0 from rfl)
  clear m1 m2 hm hv
  by_cases g1 : mapErr C O = 0
  · rw [g1] at MC
    by_cases g2 : storeErr l = 0
    · have hbad : n < 0 ∨ 4 ≤ n := by
        by_cases q : n < 0 ∨ 4 ≤ n
        · exact q
        · rw [HPE.out, if_neg (by simp [g1]), if_neg (by simp [g2]), if_neg q] at he; exact absurd rfl he
      have e1 : partE C O l n = 1 := by rw [HPE.out, if_neg (by simp [g1]), if_neg (by simp [g2]), if_pos hbad]
      rw [e1]
      rw [g2] at SC
      clear e1 he HPE g1 g2
      by_cases hn : n < 0
      · clear hbad
        go_enter Tryz.func32, Tryz.ntmps32
        go_wp2_with fail
        refine (MC.out).mono ?_
        rintro e w1 ⟨rfl, E1⟩
        have SC1 := hid (SC.out w1 E1)
        clear MC SC hw0
        go_wp2_with fail
        refine (SC1.out).mono ?_
        rintro e w2 ⟨rfl, E2⟩
        have y2 := (E1.trans E2).cell x2
        clear SC1
        go_wp2
        go_ret2
        exact ⟨rfl, E0.trans (E1.trans E2)⟩
      · have hn4 : n ≥ 4 := by omega
        clear hbad
        go_enter Tryz.func32, Tryz.ntmps32
        go_wp2_with fail
        refine (MC.out).mono ?_
        rintro e w1 ⟨rfl, E1⟩
        have SC1 := hid (SC.out w1 E1)
        clear MC SC hw0
        go_wp2_with fail
        refine (SC1.out).mono ?_
        rintro e w2 ⟨rfl, E2⟩
        have y2 := (E1.trans E2).cell x2
        clear SC1
        go_wp2
        go_ret2
        exact ⟨rfl, E0.trans (E1.trans E2)⟩
    · have e1 : partE C O l n = storeErr l := by rw [HPE.out, if_neg (by simp [g1]), if_pos g2]
      rw [e1]
      have q : (storeErr l != 0) = true := by simp [g2]
      clear e1 he HPE g1 g2
      generalize storeErr l = er at SC q ⊢
      go_enter Tryz.func32, Tryz.ntmps32
      go_wp2_with fail
      refine (MC.out).mono ?_
      rintro e w1 ⟨rfl, E1⟩
      have SC1 := hid (SC.out w1 E1)
      clear MC SC hw0
      go_wp2_with fail
      refine (SC1.out).mono ?_
      rintro e w2 ⟨rfl, E2⟩
      clear SC1
      go_wp2
      go_ret2
      exact ⟨rfl, E0.trans (E1.trans E2)⟩
  · have e1 : partE C O l n = mapErr C O := by rw [HPE.out, if_pos g1]
    rw [e1]
    have q : (mapErr C O != 0) = true := by simp [g1]
    clear e1 he HPE g1 SC
    generalize mapErr C O = er at MC q ⊢
    go_enter Tryz.func32, Tryz.ntmps32
    go_wp2_with fail
    refine (MC.out).mono ?_
    rintro e w1 ⟨rfl, E1⟩
    clear MC hw0
    go_wp2
    go_ret2
    exact ⟨rfl, E0.trans E1⟩
theorem part_all (vm vl : Value) (C : List ByteArray) (O : List Int) (l : Prs) (n : Int) (w : World) (hm : IsMap w vm C O) (hk : ∀ k ∈ C, k.size ≤ 9223372036854775807) (hv : Seg w vl 2 l.length (cP l)) (sk : ∀ p ∈ l, p.1.size ≤ 9223372036854775807) (hlen : l.length ≤ 1000000) :
    Calls Tryz.prog 32 #[vm, vl, .int .i64 n] w fun e w' => ∃ v' L, e = .returned (.tuple #[v', .int .i64 (partE C O l n)]) ∧ w'.ownsRow w.heap.size 55 2 v' L.length (cP L) ∧ (partE C O l n = 0 → L = partP C O l n) ∧ (partE C O l n ≠ 0 → L = []) ∧ Ext w w' := by
  by_cases h : partE C O l n = 0
  · have h1 : mapErr C O = 0 := by
      by_cases q : mapErr C O = 0
      · exact q
      · unfold partE at h; rw [if_pos q] at h; exact h
    have h2 : storeErr l = 0 := by
      by_cases q : storeErr l = 0
      · exact q
      · unfold partE at h; rw [if_neg (by simp [h1]), if_pos q] at h; exact h
    have h3 : ¬ (n < 0 ∨ 4 ≤ n) := by
      intro q
      unfold partE at h; rw [if_neg (by simp [h1]), if_neg (by simp [h2]), if_pos q] at h; cases h
    refine (part_ok vm vl C O l n w hm (mapOk_of h1) hk hv (store_ok h2) hlen (by omega) (by omega)).mono ?_
    rintro e w' ⟨v', rfl, ho, E⟩
    exact ⟨v', _, by rw [h], ho, fun _ => rfl, fun q => absurd h q, E⟩
  · refine (part_bad vm vl C O l n w hm hk hv sk h).mono ?_
    rintro e w' ⟨rfl, E⟩
    exact ⟨_, [], rfl, World.ownsRow_nil _ _ _ _, fun q => absurd q h, fun _ => rfl, E⟩
end Go.Proofs.YtimchedebcoohaaGreatDoor

/- Contracts and lemmas for the proofs of this seat; each theorem states its own conditions. -/
namespace Go.Proofs.YtimchedebcoohaaGreatDoor
open Go.RowKit
/-! the document's Store -/
def prevP (l : Prs) (k : Nat) : ByteArray := if k = 0 then ⟨#[]⟩ else (l.getD (k - 1) (⟨#[]⟩, 0)).1
theorem prevP_succ {l : Prs} {k : Nat} (h : k < l.length) : prevP l (k + 1) = l[k].1 := by simp [prevP, h]
theorem prevP_blt {l : Prs} {k : Nat} (hk : k < l.length) (h : keyB l[k].1 = true) : (blt (prevP l k) l[k].1 = true) ↔ (0 < k → blt (l[k - 1]'(by omega)).1 l[k].1 = true) := by
  cases k with
  | zero => simp [prevP, blt_empty h]
  | succ k =>
    rw [prevP_succ (show k < l.length by omega)]
    simp
theorem leq_of_blt {a b : ByteArray} (h : blt a b = true) : Op.bytesLess b.toList a.toList = false ∧ (b.toList == a.toList) = false ∧ ¬ b.toList = a.toList := by
  have h4 : (b.toList == a.toList) = false := by
    cases hh : (b.toList == a.toList) with
    | false => rfl
    | true =>
      have h' : b = a := toList_inj (by simpa using hh)
      rw [h', blt_irrefl] at h; cases h
  exact ⟨blt_asymm h, h4, by simpa using h4⟩
theorem leq_of_not {a b : ByteArray} (h : blt a b = false) : Op.bytesLess b.toList a.toList = true ∨ (Op.bytesLess b.toList a.toList = false ∧ (b.toList == a.toList) = true ∧ b.toList = a.toList) := by
  cases h2 : Op.bytesLess b.toList a.toList with
  | true => exact .inl rfl
  | false =>
    refine .inr ⟨rfl, ?_⟩
    have : b.toList = a.toList := by
      rcases bl_tri b.toList a.toList with h' | h' | h'
      · rw [h2] at h'; cases h'
      · exact h'
      · have h'' : blt a b = true := h'
        rw [h] at h''; cases h''
    exact ⟨by simpa using this, this⟩
set_option maxRecDepth 10000 in
set_option maxHeartbeats 2000000 in
theorem rstore_any (v : Value) (l : Prs) (w : World) (hv : Seg w v 2 l.length (cP l)) (hk : ∀ p ∈ l, p.1.size ≤ 9223372036854775807) :
    Calls Tryz.prog 7 #[v] w fun e w' => e = .returned (.int .i64 (storeErr l)) ∧ Ext w w' := by
  obtain ⟨a, c, rfl⟩ := seg_form hv
  have HV := hid hv
  have hll : l.length ≤ 9223372036854775807 := by obtain ⟨_, _, _, e, h1, h2, _⟩ := hv; injection e with _ _ e3; subst e3; unfold maxLen at h2; omega
  clear hv
  go_enter Tryz.func7, Tryz.ntmps7
  go_wp2
  go_loopw [3, 5, 8, 12, 17, 27] (fun lv _ iv _ _ _ wr => ∃ k : Nat, k ≤ l.length ∧ iv = .int .i64 k ∧ lv = .string (prevP l k) ∧ zeroTo (pairErr l) k ∧ Ext w wr) (fun _ _ iv _ _ _ _ => l.length - (intOf iv).toNat)
  case atStart => exact ⟨0, Nat.zero_le _, rfl, rfl, fun j h => absurd h (by omega), Ext.refl _⟩
  case round =>
    obtain ⟨wo, rfl⟩ : ∃ wo : World, wo = wr := ⟨_, rfl⟩
    obtain ⟨k, hkl, rfl, rfl, hall, E⟩ := hrel
    by_cases hlt : k < l.length
    · obtain ⟨b, off, rfl, _, m1, m2, hc⟩ := seg_cells HV.out (by omega)
      unfold maxLen at m2
      have cc := seg_pair hc hlt
      have c0 := E.cell cc.1
      have c1 := E.cell cc.2
      have hsz := hk _ (List.getElem_mem hlt)
      have FE := hid (fun (h : pairErr l k ≠ 0) => firstE_at hall h hlt)
      have ZS := hid (fun (h : pairErr l k = 0) => zeroTo_succ hall h)
      have PK := hid (pairErr_key hlt)
      have PV := hid (pairErr_val hlt)
      have PO := hid (fun (hkb : keyB l[k].1 = true) (b' : valB l[k].2 = true) (c' : l[k].2 ≠ 0) (h : blt (prevP l k) l[k].1 = false) => (by
        have hne : ¬ (0 < k → blt (l[k - 1]'(by omega)).1 l[k].1 = true) := fun hh => by rw [(prevP_blt hlt hkb).2 hh] at h; cases h
        have h0 : 0 < k := by
          rcases Nat.eq_zero_or_pos k with e | e
          · exact absurd (fun h' => by omega) hne
          · exact e
        have hb : blt (l[k - 1]'(by omega)).1 l[k].1 = false := by
          cases hq : blt (l[k - 1]'(by omega)).1 l[k].1 with
          | false => rfl
          | true => exact absurd (fun _ => hq) hne
        exact pairErr_ord hlt hkb b' c' h0 hb : pairErr l k = 3))
      have PN := hid (fun (hkb : keyB l[k].1 = true) (b' : valB l[k].2 = true) (c' : l[k].2 ≠ 0) (h : blt (prevP l k) l[k].1 = true) => pairErr_no hlt hkb b' c' ((prevP_blt hlt hkb).1 h))
      have PS' := hid (prevP_succ hlt)
      generalize prevP l k = lst at PO PN ⊢
      generalize l[k] = p at c0 c1 hsz PK PV PO PN PS'
      obtain ⟨key, z⟩ := p
      dsimp only at c0 c1 hsz PK PV PO PN PS'
      have RK := hid (fun w' => rkey_any key w' hsz)
      have RV := hid (fun w' => rvalue_any z w')
      have EA := (Ext.refl wo).alloc (.cells #[.string key, .int .i64 z] 55)
      have xb0 := heap_alloc_new wo (.cells #[.string key, .int .i64 z] 55)
      have xb := blk2 xb0
      clear hc cc hall
      cases hkey : keyB key with
      | false =>
        have hr := hid (show storeErr l = 3 by unfold storeErr; rw [FE.out (by rw [PK.out hkey]; omega), PK.out hkey])
        go_wp2_with fail
        refine (RK.out _).mono ?_
        rw [hkey]
        rintro e w1 ⟨rfl, E1⟩
        go_wp2
        go_ret
        exact ⟨rI hr.out.symm, E.trans (EA.trans E1)⟩
      | true =>
        cases hz : (z == 0) with
        | true =>
          have hz' : z = 0 := by simpa using hz
          have hr := hid (show storeErr l = 1 by unfold storeErr; rw [FE.out (by rw [PV.out hkey (.inr hz')]; omega), PV.out hkey (.inr hz')])
          clear hz'
          go_wp2_with fail
          refine (RK.out _).mono ?_
          rw [hkey]
          rintro e w1 ⟨rfl, E1⟩
          have y := blk2 (E1.heap xb0)
          go_wp2
          go_ret
          exact ⟨rI hr.out.symm, E.trans (EA.trans E1)⟩
        | false =>
          have hz' : z ≠ 0 := by simpa using hz
          have HZ := hid hz'
          clear hz'
          cases hvb : valB z with
          | false =>
            have hr := hid (show storeErr l = 1 by unfold storeErr; rw [FE.out (by rw [PV.out hkey (.inl hvb)]; omega), PV.out hkey (.inl hvb)])
            go_wp2_with fail
            refine (RK.out _).mono ?_
            rw [hkey]
            rintro e w1 ⟨rfl, E1⟩
            have y := blk2 (E1.heap xb0)
            go_wp2_with fail
            refine (RV.out _).mono ?_
            rw [hvb]
            rintro e w2 ⟨rfl, rfl⟩
            go_wp2
            go_ret
            exact ⟨rI hr.out.symm, E.trans (EA.trans E1)⟩
          | true =>
            cases hb : blt lst key with
            | false =>
              have hp := hid (PO.out hkey hvb HZ.out hb)
              have hr := hid (show storeErr l = 3 by unfold storeErr; rw [FE.out (by rw [hp.out]; omega), hp.out])
              rcases leq_of_not hb with q1 | ⟨q1, q2, q3⟩
              · clear hb
                go_wp2_with fail
                refine (RK.out _).mono ?_
                rw [hkey]
                rintro e w1 ⟨rfl, E1⟩
                have y := blk2 (E1.heap xb0)
                go_wp2_with fail
                refine (RV.out _).mono ?_
                rw [hvb]
                rintro e w2 ⟨rfl, rfl⟩
                go_wp2
                go_ret
                exact ⟨rI hr.out.symm, E.trans (EA.trans E1)⟩
              · clear hb
                go_wp2_with fail
                refine (RK.out _).mono ?_
                rw [hkey]
                rintro e w1 ⟨rfl, E1⟩
                have y := blk2 (E1.heap xb0)
                go_wp2_with fail
                refine (RV.out _).mono ?_
                rw [hvb]
                rintro e w2 ⟨rfl, rfl⟩
                go_wp2
                go_ret
                exact ⟨rI hr.out.symm, E.trans (EA.trans E1)⟩
            | true =>
              have hp := hid (PN.out hkey hvb HZ.out hb)
              obtain ⟨q1, q2, q3⟩ := leq_of_blt hb
              clear hb
              go_wp2_with fail
              refine (RK.out _).mono ?_
              rw [hkey]
              rintro e w1 ⟨rfl, E1⟩
              have y := blk2 (E1.heap xb0)
              go_wp2_with fail
              refine (RV.out _).mono ?_
              rw [hvb]
              rintro e w2 ⟨rfl, rfl⟩
              go_wp2
              go_roundw
              case rel => exact ⟨k + 1, by omega, by go_num, by rw [PS'.out], ZS.out hp.out, E.trans (EA.trans E1)⟩
              case measure => simp [intOf] <;> omega
    · obtain rfl : k = l.length := by omega
      go_wp2
      go_ret
      exact ⟨rI (firstE_zero hall).symm, E⟩
end Go.Proofs.YtimchedebcoohaaGreatDoor
