/- Contracts and lemmas for the proof of StoreSays; each theorem states its own conditions. -/
import Derived.Test.YtijcckhkofkenaaDoorQStoreSaysbj
import Derived.Test.YtijcckhkofkenaaDoorQStoreSaysbb
set_option linter.unusedVariables false
set_option linter.unusedSimpArgs false
/- Contracts and lemmas for the proofs of this seat; each theorem states its own conditions. -/
namespace Go.Proofs.YtijcckhkofkenaaDoor
open Go.RowKit Go.Maps
/-! StoreSays: whatever is handed in -/
theorem put_all (v : Value) (l : Prs) (key : ByteArray) (n : Int) (w : World) (hv : Seg w v 2 l.length (cP l)) (hk : ∀ p ∈ l, p.1.size ≤ 9223372036854775807) (hks : key.size ≤ 9223372036854775807) (hlen : l.length ≤ 1000000) :
    Calls Tryd.prog 80 #[v, .string key, .int .i64 n] w fun e w' => ∃ v' L, e = .returned (.tuple #[v', .int .i64 (putE l key n)]) ∧ w'.ownsRow w.heap.size 107 2 v' L.length (cP L) ∧ (putE l key n = 0 → L = withP l key n) ∧ (putE l key n ≠ 0 → L = []) ∧ Ext w w' := by
  by_cases hj : putE l key n = 0
  · have h := hj
    unfold putE at h
    have hse : storeErr l = 0 := by
      by_cases hs : storeErr l = 0
      · exact hs
      · rw [if_pos hs] at h; exact absurd h hs
    rw [if_neg (by simp [hse])] at h
    have hkb : keyB key = true := by
      cases hk' : keyB key with
      | true => rfl
      | false => rw [hk'] at h; simp at h
    rw [if_neg (by simp [hkb])] at h
    have hvb : valB n = true := by
      cases hv' : valB n with
      | true => rfl
      | false => rw [hv'] at h; simp at h
    refine (put_ok v l key n w hv hk hks hlen (store_ok hse) hkb hvb).mono ?_
    rintro e w' ⟨v', rfl, ho, E⟩
    exact ⟨v', _, by rw [hj], ho, fun _ => rfl, fun h => absurd hj h, E⟩
  · refine (put_bad v l key n w hv hk hks hj).mono ?_
    rintro e w' ⟨rfl, E⟩
    exact ⟨_, [], rfl, World.ownsRow_nil _ _ _ _, fun h => absurd h hj, fun _ => rfl, E⟩
theorem scan_all (v : Value) (l : Prs) (f t : ByteArray) (w : World) (hv : Seg w v 2 l.length (cP l)) (hk : ∀ p ∈ l, p.1.size ≤ 9223372036854775807) (hlen : l.length ≤ 1000000) :
    Calls Tryd.prog 81 #[v, .string f, .string t] w fun e w' => ∃ v' L, e = .returned (.tuple #[v', .int .i64 (storeErr l)]) ∧ w'.ownsRow w.heap.size 107 2 v' L.length (cP L) ∧ (storeErr l = 0 → L = scanP l f t) ∧ (storeErr l ≠ 0 → L = []) ∧ Ext w w' := by
  by_cases hj : storeErr l = 0
  · refine (scan_ok v l f t w hv hk (by omega) hj).mono ?_
    rintro e w' ⟨v', rfl, ho, E⟩
    exact ⟨v', _, by rw [hj], ho, fun _ => rfl, fun h => absurd hj h, E⟩
  · refine (scan_bad v l f t w hv hk hj).mono ?_
    rintro e w' ⟨rfl, E⟩
    exact ⟨_, [], rfl, World.ownsRow_nil _ _ _ _, fun h => absurd h hj, fun _ => rfl, E⟩
def totE' (l : Prs) : Int := if storeErr l = 0 then totTo l else 0
theorem total_all (v : Value) (l : Prs) (w : World) (hv : Seg w v 2 l.length (cP l)) (hk : ∀ p ∈ l, p.1.size ≤ 9223372036854775807) (hlen : l.length ≤ 1000000) :
    Calls Tryd.prog 82 #[v] w fun e w' => e = .returned (.tuple #[.int .i64 (totE' l), .int .i64 (storeErr l)]) ∧ Ext w w' := by
  unfold totE'
  by_cases hj : storeErr l = 0
  · rw [if_pos hj, hj]
    exact total_ok v l w hv hk (by omega) hj
  · rw [if_neg hj]
    exact total_bad v l w hv hk hj
theorem keyA : keyB ⟨#[97]⟩ = true := by decide +kernel
theorem valA : valB 1 = true := by decide +kernel
theorem put_val {l : Prs} (hl : StoreOk l) {f : ByteArray → Option Int} (hf : ∀ x, (f x).getD 0 = valP l x) {key : ByteArray} {n : Int} (x : ByteArray) : (((fun y => if y = key then some n else f y) x).getD 0) = valP (withP l key n) x := by
  rw [val_with hl.srt]
  dsimp only
  by_cases e : x = key
  · rw [if_pos e, if_pos e.symm]; rfl
  · rw [if_neg e, if_neg (fun q => e q.symm), hf]
set_option maxRecDepth 100000 in
set_option maxHeartbeats 1000000 in
theorem says_walk (v : Value) (l : Prs) (key f t : ByteArray) (n : Int) (w : World) (hv : Seg w v 2 l.length (cP l)) (hw : PrsW l) (hks : key.size ≤ maxLen) (hn : (Lit.int .i64 n).wf = true) (hlen : l.length ≤ 400000) :
    Calls Tryd.prog 11 #[v, .string key, .int .i64 n, .string f, .string t] w fun e w' => e = .returned (.bool true) ∧ Ext w w' := by
  have sk : ∀ p ∈ l, p.1.size ≤ 9223372036854775807 := fun p hp => by have := (hw p hp).1; unfold maxLen at this; omega
  have hks' : key.size ≤ 9223372036854775807 := by unfold maxLen at hks; omega
  obtain ⟨ax, cx, rfl⟩ := seg_form hv
  have HV := hid hv
  have GT := hid (get_any (.slice ax l.length cx) l key w hv sk hks' (by omega))
  have PT := hid (fun w' (E : Ext w w') => put_all (.slice ax l.length cx) l key n w' (hv.ext E) sk hks' (by omega))
  have SC := hid (fun w' (E : Ext w w') => scan_all (.slice ax l.length cx) l f t w' (hv.ext E) sk (by omega))
  have TT := hid (fun w' (E : Ext w w') => total_all (.slice ax l.length cx) l w' (hv.ext E) sk (by omega))
  have RS := hid (fun w' (E : Ext w w') => rstore_any (.slice ax l.length cx) l w' (hv.ext E) sk)
  have CK := hid (fun w' (E : Ext w w') => scheck_any (.slice ax l.length cx) l w' (hv.ext E) sk)
  have KA := hid (fun w' => key_any ⟨#[97]⟩ w' (by decide))
  have KK := hid (fun w' => key_any key w' hks')
  have RK := hid (fun w' => rkey_any key w' hks')
  have VN := hid (fun w' => value_any n w')
  have RV := hid (fun w' => rvalue_any n w')
  have V1 := hid (fun w' => value_any 1 w')
  have hbad := hid (fun (h : storeErr l ≠ 0) => (⟨by unfold getE; rw [if_pos h], by unfold getV; rw [if_neg (fun q => h q.1)], by unfold putE; rw [if_pos h], by unfold totE'; rw [if_neg h]⟩ : getE l key = storeErr l ∧ getV l key = 0 ∧ putE l key n = storeErr l ∧ totE' l = 0))
  have hgE := hid (fun (h : storeErr l = 0) => (⟨by unfold getE; rw [if_neg (by simp [h])], by unfold putE; rw [if_neg (by simp [h])], by unfold totE'; rw [if_pos h]⟩ : getE l key = (if keyB key then 0 else 3) ∧ putE l key n = (if keyB key = false then 3 else if valB n then 0 else 1) ∧ totE' l = totTo l))
  have hgV := hid (fun (h : storeErr l = 0) => (by unfold getV; simp [h] : getV l key = if keyB key = true then valP l key else 0))
  generalize getE l key = ge at GT hbad hgE
  generalize getV l key = gv at GT hbad hgV
  generalize putE l key n = pe at PT hbad hgE
  generalize totE' l = te at TT hbad hgE
  clear hv
  go_enter Tryd.func11, Tryd.ntmps11
  go_wp2_with fail
  refine (GT.out).mono ?_
  rintro e w1 ⟨rfl, E1⟩
  clear GT
  go_wp2_with fail
  refine (PT.out _ E1).mono ?_
  rintro e w2 ⟨vp, LP, rfl, op, hP0, hP1, E2⟩
  obtain ⟨ap, cp, rfl⟩ := own_form op
  replace E2 := E1.trans E2
  clear PT
  go_wp2_with fail
  refine (SC.out _ E2).mono ?_
  rintro e w3 ⟨vs, LS, rfl, os, hS0, hS1, E3⟩
  obtain ⟨as_, cs_, rfl⟩ := own_form os
  have OP := hid (own_ext op E3)
  replace E3 := E2.trans E3
  clear SC op
  go_wp2_with fail
  refine (TT.out _ E3).mono ?_
  rintro e w4 ⟨rfl, E4⟩
  have OP2 := hid (own_ext OP.out E4)
  have OS2 := hid (own_ext os E4)
  replace E4 := E3.trans E4
  clear TT OP os
  go_wp2_with fail
  refine (RS.out _ E4).mono ?_
  rintro e w5 ⟨rfl, E5⟩
  have OP3 := hid (own_ext OP2.out E5)
  have OS3 := hid (own_ext OS2.out E5)
  replace E5 := E4.trans E5
  clear RS OP2 OS2
  go_wp2_with fail
  refine (KK.out _).mono ?_
  rintro e w' ⟨rfl, rfl⟩
  go_wp2_with fail
  refine (RK.out _).mono ?_
  rintro e w6 ⟨rfl, E6⟩
  have OP4 := hid (own_ext OP3.out E6)
  have OS4 := hid (own_ext OS3.out E6)
  replace E6 := E5.trans E6
  clear OP3 OS3
  go_wp2_with fail
  refine (VN.out _).mono ?_
  rintro e w' ⟨rfl, rfl⟩
  go_wp2_with fail
  refine (RV.out _).mono ?_
  rintro e w' ⟨rfl, rfl⟩
  go_wp2_with fail
  refine (CK.out _ E6).mono ?_
  rintro e w7 ⟨rfl, E7⟩
  have OP5 := hid (own_ext OP4.out E7)
  have OS5 := hid (own_ext OS4.out E7)
  replace E7 := E6.trans E7
  clear OP4 OS4
  go_wp2_with fail
  refine (KA.out _).mono ?_
  rw [keyA]
  rintro e w' ⟨rfl, rfl⟩
  go_wp2_with fail
  refine (V1.out _).mono ?_
  rw [valA]
  rintro e w' ⟨rfl, rfl⟩
  clear KK VN CK KA V1
  cases hse : (storeErr l == 0) with
  | false =>
    have hse0 : storeErr l ≠ 0 := by simpa using hse
    have hse1 : (storeErr l != 0) = true := by simpa using hse
    obtain ⟨rfl, rfl, e1, rfl⟩ := hbad.out hse0
    have hLP := hid (hP1 (by rw [e1]; exact hse0))
    have hLS := hid (hS1 hse0)
    subst e1
    have q1 : LP.length = 0 := by rw [hLP.out]; rfl
    have q2 : LS.length = 0 := by rw [hLS.out]; rfl
    clear hP0 hP1 hS0 hS1 hse0
    go_wp2
    go_ret
    exact ⟨rfl, E7⟩
  | true =>
    have hse0 : storeErr l = 0 := by simpa using hse
    have hse1 : (storeErr l != 0) = false := by simp [hse0]
    have oS := hid (store_ok hse0)
    obtain ⟨e1, e2, rfl⟩ := hgE.out hse0
    have e3 := hgV.out hse0
    have GE := hid e1
    have PE := hid e2
    have GV := hid e3
    have HLS := hid (hS0 hse0)
    have HP0 := hid hP0
    have HP1 := hid hP1
    have HB := hid (tot_bd (fun p hp => (oS.out.val p hp).2))
    have RO := hid (rof_any (.slice ax l.length cx) l w7 (HV.out.ext E7) hw (by omega))
    have hzero := Tryd.zeroValue3
    clear e1 e2 e3 hP0 hP1 hS0 hS1 hse0 hbad hgE hgV
    go_wp2_with fail
    refine (RO.out).mono ?_
    rintro e wM ⟨bm, D0, rfl, hbm, hown0, hF0, EM⟩
    have HO0 := hid hown0
    have HF0 := hid hF0
    have HBM := hid (show w7.heap.size ≤ bm by omega)
    have hnp := hid (fun (e : (Value.slice ap LP.length cp).ownBlock = some bm) => (by have := (OP5.out.lt _ e).2; have := HBM.out; omega : False))
    have OPM := hid (own_ext OP5.out EM)
    have OSM := hid (own_ext OS5.out EM)
    have EWM := hid (E7.trans EM)
    clear RO hown0 hF0 hbm OP5 OS5
    go_wp2_with fail
    go_loopw [21, 22, 24, 120] (fun ov sv _ jv wr => ∃ k : Nat, k ≤ l.length ∧ jv = .int .i64 k ∧ wr.ownsRow wM.heap.size 107 2 ov (scanP (l.take k) f t).length (cP (scanP (l.take k) f t)) ∧ sv = .int .i64 (totTo (l.take k)) ∧ Ext wM wr) (fun _ _ _ jv _ => l.length - (intOf jv).toNat)
    case atStart => exact ⟨0, Nat.zero_le _, rfl, World.ownsRow_nil _ _ _ _, rfl, Ext.refl _⟩
    case round =>
      obtain ⟨wo, rfl⟩ : ∃ wo : World, wo = wr := ⟨_, rfl⟩
      obtain ⟨k, hkl, rfl, ho, rfl, E⟩ := hrel
      by_cases hlt : k < l.length
      · obtain ⟨b, off, rfl, _, m1, m2, hc⟩ := seg_cells HV.out (by omega)
        unfold maxLen at m2
        have c := seg_pair hc hlt
        have c0 := E.cell (EWM.out.cell c.1)
        have c1 := E.cell (EWM.out.cell c.2)
        have hst := scan_step (f := f) (t := t) hlt
        have hsl := scan_len l f t k
        have hsz := E.size'
        have hb0 := HB.out k hkl
        have hb1 := HB.out (k + 1) (by omega)
        have htt := tot_step hlt
        rw [htt] at hb1
        have HTT := hid htt
        clear hc c htt
        have hin : inB f t l[k] = true ∨ inB f t l[k] = false := by cases inB f t l[k] <;> simp
        have hE2 := ((Ext.refl wo).alloc (.cells #[.string l[k].1, .int .i64 l[k].2] 107)).alloc (.cells #[.string l[k].1, .int .i64 l[k].2] 107)
        have hE1 := (Ext.refl wo).alloc (.cells #[.string l[k].1, .int .i64 l[k].2] 107)
        have hb2 := heap_2 wo (.cells #[.string l[k].1, .int .i64 l[k].2] 107) (.cells #[.string l[k].1, .int .i64 l[k].2] 107)
        have hbx := heap_1 wo (.cells #[.string l[k].1, .int .i64 l[k].2] 107) (.cells #[.string l[k].1, .int .i64 l[k].2] 107)
        have hsv : Seg ((wo.alloc (.cells #[.string l[k].1, .int .i64 l[k].2] 107)).alloc (.cells #[.string l[k].1, .int .i64 l[k].2] 107)) (.slice (some ⟨wo.heap.size + 1, 0, none⟩) 1 1) 2 1 [.string l[k].1, .int .i64 l[k].2] :=
          ⟨rfl, _, _, rfl, Nat.le_refl _, by simp [maxLen], fun _ => ⟨wo.heap.size + 1, 0, rfl, fun j u hu => by have := seg_vb hb2 j u hu; rwa [addr_add] at this⟩⟩
        have hge := own_ge ho
        have hB : wM.heap.size ≤ ((wo.alloc (.cells #[.string l[k].1, .int .i64 l[k].2] 107)).alloc (.cells #[.string l[k].1, .int .i64 l[k].2] 107)).heap.size := by simp; omega
        obtain ⟨ao, co, rfl⟩ := own_form ho
        have hnb : (Value.slice ao (scanP (l.take k) f t).length co).ownBlock ≠ some wo.heap.size := fun e => by have := (ho.lt _ e).2; omega
        have HST := hid hst
        clear hst
        rcases hin with hin | hin
        · have HIN := hid hin
          have hin' := hin
          simp only [inB, Bool.and_eq_true, Bool.or_eq_true, Bool.not_eq_true'] at hin'
          clear hin
          obtain ⟨g1, g2⟩ := hin'
          have g1' : Op.bytesLess l[k].1.toList f.toList = false := g1
          by_cases hte : t.toList = []
          · have hte' : (t.toList.isEmpty) = true := by simp [hte]
            go_wp2_with (first | (at_builtin; refine (wpList_app rfl _ _ 98 rfl wM.heap.size 107 (.agg #[.string ⟨#[]⟩, .int .i64 0]) 2 24 Tryd.underlying98 infoP rfl (by decide) _ (scanP (l.take k) f t).length (cP (scanP (l.take k) f t)) rfl ((ho.alloc _).alloc _) (.slice (some ⟨wo.heap.size + 1, 0, none⟩) 1 1) 1 [.string l[k].1, .int .i64 l[k].2] rfl hsv (kv_one _ _) (by omega) (by unfold maxLen; omega) hB ?_); intro v' w4 ho' hg; have xx := blk2 (grown_heap hg hbx hnb); obtain ⟨ao', co', rfl⟩ := own_form ho'; have HO2 := hid ho'))
            go_roundw
            case rel => exact ⟨k + 1, by omega, by go_num, by rw [HST.out, if_pos HIN.out, cP_app, cP_one1, List.length_append]; exact HO2.out, by rw [HTT.out], (E.trans hE2).grown hg (fun j e => hge j e)⟩
            case measure => simp [intOf] <;> omega
          · have hte' : (t.toList.isEmpty) = false := by simp [hte]
            have g2' : Op.bytesLess l[k].1.toList t.toList = true := by rcases g2 with g2 | g2; (rw [hte'] at g2; cases g2); exact g2
            go_wp2_with (first | (at_builtin; refine (wpList_app rfl _ _ 98 rfl wM.heap.size 107 (.agg #[.string ⟨#[]⟩, .int .i64 0]) 2 24 Tryd.underlying98 infoP rfl (by decide) _ (scanP (l.take k) f t).length (cP (scanP (l.take k) f t)) rfl ((ho.alloc _).alloc _) (.slice (some ⟨wo.heap.size + 1, 0, none⟩) 1 1) 1 [.string l[k].1, .int .i64 l[k].2] rfl hsv (kv_one _ _) (by omega) (by unfold maxLen; omega) hB ?_); intro v' w4 ho' hg; have xx := blk2 (grown_heap hg hbx hnb); obtain ⟨ao', co', rfl⟩ := own_form ho'; have HO2 := hid ho'))
            go_roundw
            case rel => exact ⟨k + 1, by omega, by go_num, by rw [HST.out, if_pos HIN.out, cP_app, cP_one1, List.length_append]; exact HO2.out, by rw [HTT.out], (E.trans hE2).grown hg (fun j e => hge j e)⟩
            case measure => simp [intOf] <;> omega
        · have HIN := hid hin
          have hin' := hin
          clear hin hbx hb2 hsv
          have HO2 := hid (ho.alloc (.cells #[.string l[k].1, .int .i64 l[k].2] 107))
          cases g1 : blt l[k].1 f with
          | true =>
            have g1' : Op.bytesLess l[k].1.toList f.toList = true := g1
            clear hin'
            go_wp2
            go_roundw
            case rel => exact ⟨k + 1, by omega, by go_num, by rw [HST.out, if_neg (by rw [HIN.out]; simp), List.append_nil]; exact HO2.out, by rw [HTT.out], E.alloc _⟩
            case measure => simp [intOf] <;> omega
          | false =>
            have g1' : Op.bytesLess l[k].1.toList f.toList = false := g1
            have g2 : t.toList.isEmpty = false ∧ blt l[k].1 t = false := by simpa [inB, g1] using hin'
            have hte' := g2.1
            have hte : ¬ t.toList = [] := by simpa using g2.1
            have g2' : Op.bytesLess l[k].1.toList t.toList = false := g2.2
            clear hin' g2
            go_wp2
            go_roundw
            case rel => exact ⟨k + 1, by omega, by go_num, by rw [HST.out, if_neg (by rw [HIN.out]; simp), List.append_nil]; exact HO2.out, by rw [HTT.out], E.alloc _⟩
            case measure => simp [intOf] <;> omega
      · obtain rfl : k = l.length := by omega
        rw [List.take_length] at ho
        have htk := hid (show totTo (l.take l.length) = totTo l by rw [List.take_length])
        rw [htk.out]
        obtain rfl := HLS.out
        obtain ⟨ao, co, rfl⟩ := own_form ho
        have Q1 := equal_Pair (.slice as_ (scanP l f t).length cs_) (.slice ao (scanP l f t).length co) (scanP l f t) (scanP l f t) wo ((own_seg OSM.out).ext E) (own_seg ho)
        rw [show decide (scanP l f t = scanP l f t) = true by simp] at Q1
        have Q1 := hid Q1
        have OPE := hid (own_ext OPM.out E)
        have EWE := hid (EWM.out.trans E)
        have HOE := hid (ownsMap_ext HO0.out E)
        have hbm' := hid (show w.heap.size ≤ bm by have := HBM.out; have := E7.size'; omega)
        clear ho OPM OSM HLS HO0 EM
        go_wp2_with fail
        refine (Q1.out).mono ?_
        rintro e wq ⟨rfl, nq, rfl⟩
        have Eq' := (Ext.refl wo).drewN nq
        have OPQ := hid (own_ext OPE.out Eq')
        have EWQ := hid (EWE.out.trans Eq')
        have HOQ := hid (ownsMap_ext HOE.out Eq')
        obtain ⟨wQ, hwQ⟩ : ∃ wQ, wo.drewN nq = wQ := ⟨_, rfl⟩
        rw [hwQ] at OPQ EWQ HOQ
        clear Q1 OPE EWE HOE Eq' E
        go_wp2_with fail
        refine (RK.out _).mono ?_
        rintro e wr ⟨rfl, Er⟩
        have OPR := hid (own_ext OPQ.out Er)
        have EWR := hid (EWQ.out.trans Er)
        have HOR := hid (ownsMap_ext HOQ.out Er)
        clear OPQ EWQ HOQ RK
        cases hkey : keyB key with
        | false =>
          have g1 : ge = 3 := by rw [GE.out, hkey]; rfl
          have g2 : pe = 3 := by rw [PE.out, hkey]; rfl
          have g3 : gv = 0 := by rw [GV.out, hkey]; rfl
          have hLP := hid (HP1.out (by rw [g2]; omega))
          have q1 : LP.length = 0 := by rw [hLP.out]; rfl
          clear HP0 HP1 GE PE GV
          subst g1; subst g2; subst g3
          go_wp2
          go_ret
          exact ⟨rfl, EWR.out⟩
        | true =>
          have g1 : ge = 0 := by rw [GE.out, hkey]; rfl
          have g3 : gv = valP l key := by rw [GV.out, hkey]; rfl
          have hat : atF (ofF l l.length) key = gv := by
            unfold atF
            rw [of_val oS.out l.length (Nat.le_refl _) key, List.take_length, g3]
          have hq : (gv != atF (ofF l l.length) key) = false := by rw [hat]; simp
          have hkey2 := WideMaps.keyOf_string_mk Tryd.underlying9 (P := Tryd.prog) (k := 9) (s := key) hks
          have hown := HOR.out
          clear GE GV g3 hat
          subst g1
          cases hvb : valB n with
          | false =>
            have g2 : pe = 1 := by rw [PE.out, hkey, hvb]; rfl
            have hLP := hid (HP1.out (by rw [g2]; omega))
            have q1 : LP.length = 0 := by rw [hLP.out]; rfl
            clear HP0 HP1 PE
            subst g2
            go_wp2_with (first
              | (at_lookup; refine wpList_lookup_mig _ (by rfl) _ _ 110 rfl 9 3 lawS Tryd.underlying110 Tryd.underlying3 (hzero _) bm l.length D0 (ofF l l.length) HF0.out rfl hown _ key hks rfl hkey2 ?_))
            refine (RV.out _).mono ?_
            rw [hvb]
            rintro e w' ⟨rfl, rfl⟩
            go_wp2
            go_ret
            exact ⟨rfl, EWR.out⟩
          | true =>
            have g2 : pe = 0 := by rw [PE.out, hkey, hvb]; rfl
            have hLP := hid (HP0.out g2)
            clear HP0 HP1 PE
            subst g2
            have hF2 := hid (HF0.out.put kS_inj kS_is hks n)
            go_wp2_with (first
              | (at_lookup; refine wpList_lookup_mig _ (by rfl) _ _ 110 rfl 9 3 lawS Tryd.underlying110 Tryd.underlying3 (hzero _) bm l.length D0 (ofF l l.length) HF0.out rfl hown _ key hks rfl hkey2 ?_))
            refine (RV.out _).mono ?_
            rw [hvb]
            rintro e w' ⟨rfl, rfl⟩
            go_wp2_with (first
              | (at_mapUpdate; refine wpList_mapUpdate_own _ rfl _ _ _ 110 rfl 9 3 lawS Tryd.underlying110 _ bm l.length D0 rfl hown (by unfold maxLen; omega) _ _ (kS key) rfl rfl hkey2 (dI n) [] (plainElem_int Tryd.underlying3 hn) ?_; intro w3 hown3 hg3))
            have LI := hid (rlist_any bm (l.length + 1) _ _ w3 hown3 hF2.out (by omega))
            have OP3' := hid (grown_own hg3 OPR.out (.inr (fun e => hnp.out e)))
            have EW3 := hid (EWR.out.grown hg3 (fun j hj => by injection hj with hj; subst hj; exact hbm'.out))
            have owk := hid (storeOk_with oS.out hkey (by simpa [valB] using hvb))
            clear OPR EWR hown hown3
            go_wp2_with fail
            refine (LI.out).mono ?_
            rintro e wL ⟨vL, lq, rfl, r1, r2, r3, r4, r5, EL⟩
            obtain ⟨aL, cL, rfl⟩ := own_form r5
            have hlj : LP = lq := by
              rw [hLP.out]
              refine prs_ext owk.out.srt r1 owk.out.nz r2 fun x => ?_
              rw [r3 x]
              exact (put_val oS.out (fun y => by rw [of_val oS.out l.length (Nat.le_refl _) y, List.take_length]) x).symm
            subst hlj
            have QE := equal_Pair (.slice ap LP.length cp) (.slice aL LP.length cL) LP LP wL ((own_seg OP3'.out).ext EL) (own_seg r5)
            rw [show decide (LP = LP) = true by simp] at QE
            have QE := hid QE
            clear LI r5 r3
            go_wp2_with fail
            refine (QE.out).mono ?_
            rintro e wE ⟨rfl, nE, rfl⟩
            go_wp2
            go_ret
            exact ⟨rfl, (EW3.out.trans EL).drewN _⟩
end Go.Proofs.YtijcckhkofkenaaDoor
