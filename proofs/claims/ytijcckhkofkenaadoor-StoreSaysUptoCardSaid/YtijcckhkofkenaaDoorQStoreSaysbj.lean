/- Contracts and lemmas for the proof of StoreSays; each theorem states its own conditions. -/
import Derived.Test.YtijcckhkofkenaaDoorQStoreSaysbg
import Derived.Test.YtijcckhkofkenaaDoorQStoreSaysbh
import Derived.Test.YtijcckhkofkenaaDoorQStoreSaysbi
set_option linter.unusedVariables false
set_option linter.unusedSimpArgs false
/- Contracts and lemmas for the proofs of this seat; each theorem states its own conditions. -/
namespace Go.Proofs.YtijcckhkofkenaaDoor
open Go.RowKit Go.Maps
/-! StoreJoins: whatever is handed in -/
theorem take_ok {b : Prs} (h : StoreOk b) (k : Nat) : StoreOk (b.take k) :=
  ⟨fun p hp => h.key p (List.mem_of_mem_take hp), fun p hp => h.val p (List.mem_of_mem_take hp), List.Pairwise.sublist (List.take_sublist k b) h.srt⟩
theorem take_no {b : Prs} (h : StoreOk b) {k : Nat} (hk : k < b.length) : valP (b.take k) b[k].1 = 0 := by
  refine valP_none fun p hp e => ?_
  obtain ⟨i, hi, rfl⟩ := List.mem_iff_getElem.1 hp
  rw [List.length_take] at hi
  rw [List.getElem_take] at e
  have := List.pairwise_iff_getElem.1 h.srt i k (by omega) hk (by omega)
  rw [e, blt_irrefl] at this; cases this
theorem join_at {a b : Prs} (ha : StoreOk a) (hb : StoreOk b) {k : Nat} (hk : k < b.length) : valP (joinP a (b.take k)) b[k].1 = valP a b[k].1 := by
  rw [val_join ha.srt (take_ok hb k).srt (take_ok hb k).nz, take_no hb hk]; simp
/-- whose store may not be -/
def wantE (a b : Prs) : Int := if storeErr a ≠ 0 then storeErr a else storeErr b
/-- what is wanted, and what the map holds, once k pairs have come -/
def WantI (a b : Prs) (k : Nat) (f : ByteArray → Option Int) (e : Int) : Prop :=
  (wantE a b ≠ 0 ∧ e = wantE a b) ∨ (wantE a b = 0 ∧ ((e = 0 ∧ apartTo a b k ∧ ∀ x, (f x).getD 0 = valP (joinP a (b.take k)) x) ∨ (e = 5 ∧ apartB a b = false)))
theorem wantE_zero {a b : Prs} (h : wantE a b = 0) : StoreOk a ∧ StoreOk b := by
  unfold wantE at h
  by_cases ha : storeErr a = 0
  · rw [if_neg (by simp [ha])] at h; exact ⟨store_ok ha, store_ok h⟩
  · rw [if_pos ha] at h; exact absurd h ha
theorem want_end {a b : Prs} {f : ByteArray → Option Int} {e : Int} (h : WantI a b b.length f e) : e = joinE a b ∧ (e = 0 → StoreOk a ∧ StoreOk b ∧ ∀ x, (f x).getD 0 = valP (joinP a b) x) := by
  rcases h with ⟨h1, h2⟩ | ⟨h1, h2⟩
  · refine ⟨?_, fun he => absurd (he ▸ h2.symm) h1⟩
    rw [h2]
    unfold wantE joinE at *
    by_cases ha : storeErr a = 0
    · rw [if_neg (by simp [ha])] at h1 ⊢
      rw [if_neg (by simp [ha]), if_pos h1]
    · rw [if_pos ha, if_pos ha]
  · obtain ⟨oa, ob⟩ := wantE_zero h1
    have e1 : joinE a b = if apartB a b then 0 else 5 := by
      unfold joinE
      rw [if_neg (by simp [storeErr_ok oa]), if_neg (by simp [storeErr_ok ob])]
    rcases h2 with ⟨rfl, h3, h4⟩ | ⟨rfl, h3⟩
    · rw [List.take_length] at h4
      exact ⟨by rw [e1, apartTo_all h3 rfl]; rfl, fun _ => ⟨oa, ob, h4⟩⟩
    · exact ⟨by rw [e1, h3]; rfl, fun h => absurd h (by omega)⟩
theorem of_val {a : Prs} (ha : StoreOk a) : ∀ k, k ≤ a.length → ∀ x, (ofF a k x).getD 0 = valP (a.take k) x
  | 0, _, x => by simp [ofF, valP]
  | k + 1, h, x => by
    have ih := of_val ha k (by omega) x
    rw [ofF_step a (show k < a.length by omega)]
    have ht : a.take (k + 1) = a.take k ++ [a[k]'(by omega)] := List.take_succ_eq_append_getElem (by omega)
    dsimp only
    by_cases e : x = (a[k]'(by omega)).1
    · rw [if_pos e]
      have hm : a[k]'(by omega) ∈ a.take (k + 1) := by rw [ht]; exact List.mem_append_right _ (List.mem_singleton.2 rfl)
      rw [e, valP_mem (take_ok ha (k + 1)).srt hm]; rfl
    · rw [if_neg e, ih]
      by_cases hz : valP (a.take k) x = 0
      · rw [hz]
        refine (valP_none fun p hp ep => ?_).symm
        rw [ht] at hp
        rcases List.mem_append.1 hp with hp | hp
        · rw [← ep, valP_mem (take_ok ha k).srt hp] at hz
          exact (ha.val p (List.mem_of_mem_take hp)).1 hz
        · simp at hp; subst hp; exact e ep.symm
      · by_cases hex : ∃ p ∈ a.take k, p.1 = x
        · obtain ⟨p, hp, rfl⟩ := hex
          have hp2 : p ∈ a.take (k + 1) := by rw [ht]; exact List.mem_append_left _ hp
          rw [valP_mem (take_ok ha k).srt hp, valP_mem (take_ok ha (k + 1)).srt hp2]
        · exact absurd (valP_none fun p hp ep => hex ⟨p, hp, ep⟩) hz
theorem want_start (a b : Prs) : WantI a b 0 (ofF a a.length) (wantE a b) := by
  by_cases h : wantE a b = 0
  · obtain ⟨oa, ob⟩ := wantE_zero h
    refine .inr ⟨h, .inl ⟨h, apartTo_zero a b, fun x => ?_⟩⟩
    rw [of_val oa a.length (Nat.le_refl _) x, List.take_length, List.take_zero, join_nil]
  · exact .inl ⟨h, rfl⟩
/-- one pair more -/
theorem want_idle {a b : Prs} {k : Nat} {f : ByteArray → Option Int} {e : Int} (h : WantI a b k f e) (he : e ≠ 0) : WantI a b (k + 1) f e := by
  rcases h with h | ⟨h1, ⟨h2, _⟩ | h2⟩
  · exact .inl h
  · exact absurd h2 he
  · exact .inr ⟨h1, .inr h2⟩
theorem want_hit {a b : Prs} {k : Nat} {f : ByteArray → Option Int} (h : WantI a b k f 0) (hk : k < b.length) (hv : (f b[k].1).getD 0 ≠ 0) : WantI a b (k + 1) f 5 := by
  rcases h with ⟨h1, h2⟩ | ⟨h1, ⟨_, h3, h4⟩ | ⟨h2, _⟩⟩
  · exact absurd h2.symm h1
  · obtain ⟨oa, ob⟩ := wantE_zero h1
    refine .inr ⟨h1, .inr ⟨rfl, apart_hit hk ?_⟩⟩
    rw [h4, join_at oa ob hk] at hv; exact hv
  · omega
theorem want_put {a b : Prs} {k : Nat} {f : ByteArray → Option Int} (h : WantI a b k f 0) (hk : k < b.length) (hv : (f b[k].1).getD 0 = 0) : WantI a b (k + 1) (fun x => if x = b[k].1 then some b[k].2 else f x) 0 := by
  rcases h with ⟨h1, h2⟩ | ⟨h1, ⟨_, h3, h4⟩ | ⟨h2, _⟩⟩
  · exact absurd h2.symm h1
  · obtain ⟨oa, ob⟩ := wantE_zero h1
    rw [h4, join_at oa ob hk] at hv
    refine .inr ⟨h1, .inl ⟨rfl, apartTo_succ h3 hk hv, fun x => ?_⟩⟩
    rw [join_step hk, val_with (join_okS oa (take_ok ob k)).srt]
    dsimp only
    by_cases e : x = b[k].1
    · rw [if_pos e, if_pos e.symm]; rfl
    · rw [if_neg e, if_neg (fun q => e q.symm), h4]
  · omega
def jl1 : Prs := [((⟨#[98]⟩ : ByteArray), (1 : Int))]
def jl2 : Prs := [((⟨#[97]⟩ : ByteArray), (2 : Int))]
theorem jl_lit : storeErr jl1 = 0 ∧ storeErr jl2 = 0 ∧ apartB jl1 jl2 = true ∧ joinP jl1 jl2 = [((⟨#[97]⟩ : ByteArray), (2 : Int)), ((⟨#[98]⟩ : ByteArray), (1 : Int))] := by decide +kernel
/-- Join, at whatever is handed in -/
theorem join_all (va vb : Value) (a b : Prs) (w : World) (hva : Seg w va 2 a.length (cP a)) (hvb : Seg w vb 2 b.length (cP b)) (sa : ∀ p ∈ a, p.1.size ≤ 9223372036854775807) (sb : ∀ p ∈ b, p.1.size ≤ 9223372036854775807) (hlen : a.length + b.length ≤ 1000000) :
    Calls Tryd.prog 78 #[va, vb] w fun e w' => ∃ v' L, e = .returned (.tuple #[v', .int .i64 (joinE a b)]) ∧ w'.ownsRow w.heap.size 107 2 v' L.length (cP L) ∧ (joinE a b = 0 → L = joinP a b) ∧ (joinE a b ≠ 0 → L = []) ∧ Ext w w' := by
  by_cases hj : joinE a b = 0
  · have h := hj
    unfold joinE at h
    by_cases ha : storeErr a = 0
    · rw [if_neg (by simp [ha])] at h
      by_cases hb : storeErr b = 0
      · rw [if_neg (by simp [hb])] at h
        have hap : apartB a b = true := by
          cases e : apartB a b with
          | true => rfl
          | false => rw [e] at h; simp at h
        refine (join_ok va vb a b w hva hvb (store_ok ha) (store_ok hb) hlen hap).mono ?_
        rintro e w' ⟨v', rfl, ho, E⟩
        exact ⟨v', joinP a b, by rw [hj], ho, fun _ => rfl, fun h => absurd hj h, E⟩
      · rw [if_pos hb] at h; exact absurd h hb
    · rw [if_pos ha] at h; exact absurd h ha
  · refine (join_bad va vb a b w hva hvb sa sb hlen hj).mono ?_
    rintro e w' ⟨rfl, E⟩
    exact ⟨_, [], rfl, World.ownsRow_nil _ _ _ _, fun h => absurd h hj, fun _ => rfl, E⟩
set_option maxRecDepth 100000 in
set_option maxHeartbeats 1000000 in
theorem joins_walk (va vb : Value) (a b : Prs) (w : World) (hva : Seg w va 2 a.length (cP a)) (hvb : Seg w vb 2 b.length (cP b)) (wa : PrsW a) (wb : PrsW b) (hlen : a.length + b.length ≤ 1000000) :
    Calls Tryd.prog 10 #[va, vb] w fun e w' => e = .returned (.bool true) ∧ Ext w w' := by
  have sa : ∀ p ∈ a, p.1.size ≤ 9223372036854775807 := fun p hp => by have := (wa p hp).1; unfold maxLen at this; omega
  have sb : ∀ p ∈ b, p.1.size ≤ 9223372036854775807 := fun p hp => by have := (wb p hp).1; unfold maxLen at this; omega
  obtain ⟨ax, cx, rfl⟩ := seg_form hva
  obtain ⟨ay, cy, rfl⟩ := seg_form hvb
  have JA := hid (join_all _ _ a b w hva hvb sa sb hlen)
  have HVA := hid hva
  have HVB := hid hvb
  obtain ⟨jl1e, jl2e, jl3, jl4⟩ := jl_lit
  have L1 := hid jl1e
  have L2 := hid jl2e
  have L3 := hid jl3
  have L4 := hid jl4
  obtain ⟨je, hje⟩ : ∃ je, joinE a b = je := ⟨_, rfl⟩
  have HJE := hid hje
  rw [hje] at JA
  clear hva hvb jl1e jl2e jl3 jl4 hje
  go_enter Tryd.func10, Tryd.ntmps10
  go_wp2_with fail
  refine (JA.out).mono ?_
  rintro e w1 ⟨v1, L, rfl, o1, hL0, hL1, E1⟩
  obtain ⟨a1, c1, rfl⟩ := own_form o1
  have HL0 := hid hL0
  have HL1 := hid hL1
  have O1 := hid (own_seg o1)
  have b1 := heap_1 w1 (.cells #[.string ⟨#[98]⟩, .int .i64 1] 107) (.cells #[.string ⟨#[97]⟩, .int .i64 2] 107)
  have b2 := heap_2 w1 (.cells #[.string ⟨#[98]⟩, .int .i64 1] 107) (.cells #[.string ⟨#[97]⟩, .int .i64 2] 107)
  have E2 := hid (((Ext.refl w1).alloc (.cells #[.string ⟨#[98]⟩, .int .i64 1] 107)).alloc (.cells #[.string ⟨#[97]⟩, .int .i64 2] 107))
  have JL := join_ok (.slice (some ⟨w1.heap.size, 0, none⟩) 1 1) (.slice (some ⟨w1.heap.size + 1, 0, none⟩) 1 1) jl1 jl2 _ (seg_blk (xs := cP jl1) b1 rfl (Nat.le_refl _) (by simp [maxLen])) (seg_blk (xs := cP jl2) b2 rfl (Nat.le_refl _) (by simp [maxLen])) (store_ok L1.out) (store_ok L2.out) (by decide) L3.out
  rw [L4.out] at JL
  have JL := hid JL
  clear JA o1 hL0 hL1 b1 b2
  go_wp2_with fail
  refine (JL.out).mono ?_
  rintro e w2 ⟨v2, rfl, o2, E3⟩
  obtain ⟨a2, c2, rfl⟩ := own_form o2
  have b3 := heap_alloc_new w2 (.cells #[.string ⟨#[97]⟩, .int .i64 2, .string ⟨#[98]⟩, .int .i64 1] 107)
  have E4 := (Ext.refl w2).alloc (.cells #[.string ⟨#[97]⟩, .int .i64 2, .string ⟨#[98]⟩, .int .i64 1] 107)
  have QL := equal_Pair (.slice a2 2 c2) (.slice (some ⟨w2.heap.size, 0, none⟩) 2 2) [((⟨#[97]⟩ : ByteArray), (2 : Int)), ((⟨#[98]⟩ : ByteArray), (1 : Int))] [((⟨#[97]⟩ : ByteArray), (2 : Int)), ((⟨#[98]⟩ : ByteArray), (1 : Int))] _ ((own_seg o2).ext E4) (seg_blk (xs := cP [((⟨#[97]⟩ : ByteArray), (2 : Int)), ((⟨#[98]⟩ : ByteArray), (1 : Int))]) b3 rfl (Nat.le_refl _) (by simp [maxLen]))
  rw [show decide (([((⟨#[97]⟩ : ByteArray), (2 : Int)), ((⟨#[98]⟩ : ByteArray), (1 : Int))] : Prs) = [((⟨#[97]⟩ : ByteArray), (2 : Int)), ((⟨#[98]⟩ : ByteArray), (1 : Int))]) = true by simp] at QL
  have QL := hid QL
  have E14 := hid (E2.out.trans (E3.trans E4))
  clear JL o2 b3 E3 E4 E2
  go_wp2_with fail
  refine (QL.out).mono ?_
  rintro e w3 ⟨rfl, n3, rfl⟩
  clear QL
  have E15 := hid (E14.out.drewN n3)
  obtain ⟨wA, hwA⟩ : ∃ wA, (w2.alloc (.cells #[.string ⟨#[97]⟩, .int .i64 2, .string ⟨#[98]⟩, .int .i64 1] 107)).drewN n3 = wA := ⟨_, rfl⟩
  rw [hwA] at E15
  have EA1 := hid (E1.trans E15.out)
  have RSA := hid (rstore_any _ a wA (HVA.out.ext EA1.out) sa)
  have hzero := Tryd.zeroValue3
  clear E14
  go_wp2_with fail
  refine (RSA.out).mono ?_
  rintro e wB ⟨rfl, EB⟩
  cases hsa : (storeErr a == 0) with
  | true =>
    have hsa0 := hid (show storeErr a = 0 by simpa using hsa)
    have hwant := hid (show wantE a b = storeErr b by unfold wantE; rw [if_neg (by simp [hsa0.out])])
    have EB1 := hid (EA1.out.trans EB)
    have RSB := hid (rstore_any _ b wB (HVB.out.ext EB1.out) sb)
    clear RSA
    go_wp2_with fail
    refine (RSB.out).mono ?_
    rintro e wC ⟨rfl, EC⟩
    have EC1 := hid (EB1.out.trans EC)
    have EB3 := hid (EB.trans EC)
    clear RSB
    have RO := hid (rof_any _ a wC (HVA.out.ext EC1.out) wa (by omega))
    have WS := hid (hwant.out ▸ want_start a b)
    go_wp2_with fail
    refine (RO.out).mono ?_
    rintro e wM ⟨bm, D0, rfl, hbm, hown0, hF0, EM⟩
    have HO0 := hid hown0
    have HF0 := hid hF0
    have HBM := hid (show wC.heap.size ≤ bm by omega)
    clear RO hown0 hF0 hbm
    go_wp2_with fail
    go_loopw [9, 12, 47] (fun ev _ jv wr => ∃ (k n : Nat) (ek : Int) (D : DU) (f : ByteArray → Option Int), k ≤ b.length ∧ jv = .int .i64 k ∧ ev = .int .i64 ek ∧ wr.ownsMap Tryd.prog 9 (plainElem Tryd.prog 3) bm n D ∧ MapF kS okS dI D f ∧ n ≤ a.length + k ∧ Hid (WantI a b k f ek) ∧ Ext wC wr) (fun _ _ jv _ => b.length - (intOf jv).toNat)
    case atStart => exact ⟨0, a.length, (storeErr b), D0, _, Nat.zero_le _, rfl, rfl, HO0.out, HF0.out, by omega, WS, EM⟩
    case round =>
      clear HO0 HF0 WS EM
      obtain ⟨wo, rfl⟩ : ∃ wo : World, wo = wr := ⟨_, rfl⟩
      obtain ⟨k, n, ek, D, f, hk, rfl, rfl, hown, hF, hn, hW, Eo⟩ := hrel
      by_cases hkb : k < b.length
      · obtain ⟨bb, off, rfl, _, m1, m2, hc⟩ := seg_cells HVB.out (by omega)
        unfold maxLen at m2
        have cc := seg_pair hc hkb
        have c0 := Eo.cell (EC1.out.cell cc.1)
        have c1 := Eo.cell (EC1.out.cell cc.2)
        obtain ⟨w1', w2', w3'⟩ := wb _ (List.getElem_mem hkb)
        have WH := hid (fun (e : ek = 0) (hv : (f b[k].1).getD 0 ≠ 0) => want_hit (e ▸ hW.out) hkb hv)
        have WP := hid (fun (e : ek = 0) (hv : (f b[k].1).getD 0 = 0) => want_put (e ▸ hW.out) hkb hv)
        have WN := hid (fun (e : ek ≠ 0) => want_idle hW.out e)
        generalize b[k] = p at c0 c1 w1' w2' w3' WH WP
        obtain ⟨key, z⟩ := p
        dsimp only at c0 c1 w1' w2' w3' WH WP
        have EA := (Ext.refl wo).alloc (.cells #[.string key, .int .i64 z] 107)
        have xb := blk2 (heap_alloc_new wo (.cells #[.string key, .int .i64 z] 107))
        have hown1 := ownsMap_ext hown EA
        have hwf : (Lit.int .i64 z).wf = true := WalkArith.wf_i64 (by omega)
        have hkey := WideMaps.keyOf_string_mk Tryd.underlying9 (P := Tryd.prog) (k := 9) (s := key) w1'
        clear hc cc hown
        cases hek : (ek == 0) with
        | false =>
          have HNE := hid (show ek ≠ 0 by simpa using hek)
          have W2 := hid (WN.out HNE.out)
          have HO1 := hid hown1
          clear hown1 WH WP
          go_wp2
          go_roundw
          case rel => exact ⟨k + 1, n, ek, D, f, by omega, by go_num, rfl, HO1.out, hF, by omega, W2, Eo.trans EA⟩
          case measure => simp [intOf] <;> omega
        | true =>
          obtain rfl : ek = 0 := by simpa using hek
          cases hv : (atF f key == 0) with
          | false =>
            have hv1 : ¬ atF f key = 0 := by simpa using hv
            have hv2 : (atF f key != 0) = true := by simpa using hv1
            have W2 := hid (WH.out rfl hv1)
            have HO1 := hid hown1
            clear WH WP hek
            go_wp2_with (first
              | (at_lookup; refine wpList_lookup_mig _ (by rfl) _ _ 110 rfl 9 3 lawS Tryd.underlying110 Tryd.underlying3 (hzero _) bm n D f hF rfl hown1 _ key w1' rfl hkey ?_))
            go_roundw
            case rel => exact ⟨k + 1, n, 5, D, f, by omega, by go_num, rfl, HO1.out, hF, by omega, W2, Eo.trans EA⟩
            case measure => simp [intOf] <;> omega
          | true =>
            have hv1 : atF f key = 0 := by simpa using hv
            have hv2 : (atF f key != 0) = false := by simpa using hv1
            have W2 := hid (WP.out rfl hv1)
            have HF2 := hid (hF.put kS_inj kS_is w1' z)
            clear WH WP hek hv1
            go_wp2_with (first
              | (at_lookup; refine wpList_lookup_mig _ (by rfl) _ _ 110 rfl 9 3 lawS Tryd.underlying110 Tryd.underlying3 (hzero _) bm n D f hF rfl hown1 _ key w1' rfl hkey ?_)
              | (at_mapUpdate; refine wpList_mapUpdate_own _ rfl _ _ _ 110 rfl 9 3 lawS Tryd.underlying110 _ bm n D rfl hown1 (by unfold maxLen; omega) _ _ (kS key) rfl rfl hkey (dI z) [] (plainElem_int Tryd.underlying3 hwf) ?_; intro w3 hown3 hg3))
            have HO3 := hid hown3
            have E3 := (Eo.trans EA).grown hg3 (fun j hj => by injection hj with hj; subst hj; exact HBM.out)
            go_roundw
            case rel => exact ⟨k + 1, n + 1, 0, _, _, by omega, by go_num, rfl, HO3.out, HF2.out, by omega, W2, E3⟩
            case measure => simp [intOf] <;> omega
      · obtain rfl : k = b.length := by omega
        obtain ⟨g1, g2⟩ := want_end hW.out
        rw [HJE.out] at g1
        obtain rfl := g1
        cases hek : (ek == 0) with
        | false =>
          have hne : ek ≠ 0 := by simpa using hek
          have hLn := HL1.out hne
          subst hLn
          have HEE := hid (E1.trans (E15.out.trans (EB3.out.trans Eo)))
          clear hown hne g2
          go_wp2
          go_ret
          exact ⟨rfl, HEE.out⟩
        | true =>
          obtain rfl : ek = 0 := by simpa using hek
          obtain ⟨oa, ob, hval⟩ := g2 rfl
          have hLn := hid (HL0.out rfl)
          have oj := join_okS oa ob
          have LI := hid (rlist_any bm n D f wo hown hF (by omega))
          have HS1 := hid (((O1.out.ext E15.out).ext EB3.out).ext Eo)
          have HEE := hid (E1.trans (E15.out.trans (EB3.out.trans Eo)))
          clear hown hek g2
          go_wp2_with fail
          refine (LI.out).mono ?_
          rintro e wL ⟨vL, l, rfl, r1, r2, r3, r4, r5, EL⟩
          obtain ⟨aL, cL, rfl⟩ := own_form r5
          have hlj : L = l := by rw [hLn.out]; exact prs_ext oj.srt r1 oj.nz r2 (fun x => by rw [r3, hval])
          subst hlj
          have QE := equal_Pair (.slice a1 L.length c1) (.slice aL L.length cL) L L wL (HS1.out.ext EL) (own_seg r5)
          rw [show decide (L = L) = true by simp] at QE
          have QE := hid QE
          clear LI r5 hLn
          go_wp2_with fail
          refine (QE.out).mono ?_
          rintro e wE ⟨rfl, nE, rfl⟩
          go_wp2
          go_ret
          exact ⟨rfl, (HEE.out.trans EL).drewN _⟩
  | false =>
    have hsa0 := hid (show storeErr a ≠ 0 by simpa using hsa)
    have hwant := hid (show wantE a b = storeErr a by unfold wantE; rw [if_pos hsa0.out])
    have EB1 := hid (EA1.out.trans EB)
    have EB3 := hid EB
    clear RSA
    have RO := hid (rof_any _ a wB (HVA.out.ext EB1.out) wa (by omega))
    have WS := hid (hwant.out ▸ want_start a b)
    go_wp2_with fail
    refine (RO.out).mono ?_
    rintro e wM ⟨bm, D0, rfl, hbm, hown0, hF0, EM⟩
    have HO0 := hid hown0
    have HF0 := hid hF0
    have HBM := hid (show wB.heap.size ≤ bm by omega)
    clear RO hown0 hF0 hbm
    go_wp2_with fail
    go_loopw [9, 12, 47] (fun ev _ jv wr => ∃ (k n : Nat) (ek : Int) (D : DU) (f : ByteArray → Option Int), k ≤ b.length ∧ jv = .int .i64 k ∧ ev = .int .i64 ek ∧ wr.ownsMap Tryd.prog 9 (plainElem Tryd.prog 3) bm n D ∧ MapF kS okS dI D f ∧ n ≤ a.length + k ∧ Hid (WantI a b k f ek) ∧ Ext wB wr) (fun _ _ jv _ => b.length - (intOf jv).toNat)
    case atStart => exact ⟨0, a.length, (storeErr a), D0, _, Nat.zero_le _, rfl, rfl, HO0.out, HF0.out, by omega, WS, EM⟩
    case round =>
      clear HO0 HF0 WS EM
      obtain ⟨wo, rfl⟩ : ∃ wo : World, wo = wr := ⟨_, rfl⟩
      obtain ⟨k, n, ek, D, f, hk, rfl, rfl, hown, hF, hn, hW, Eo⟩ := hrel
      by_cases hkb : k < b.length
      · obtain ⟨bb, off, rfl, _, m1, m2, hc⟩ := seg_cells HVB.out (by omega)
        unfold maxLen at m2
        have cc := seg_pair hc hkb
        have c0 := Eo.cell (EB1.out.cell cc.1)
        have c1 := Eo.cell (EB1.out.cell cc.2)
        obtain ⟨w1', w2', w3'⟩ := wb _ (List.getElem_mem hkb)
        have WH := hid (fun (e : ek = 0) (hv : (f b[k].1).getD 0 ≠ 0) => want_hit (e ▸ hW.out) hkb hv)
        have WP := hid (fun (e : ek = 0) (hv : (f b[k].1).getD 0 = 0) => want_put (e ▸ hW.out) hkb hv)
        have WN := hid (fun (e : ek ≠ 0) => want_idle hW.out e)
        generalize b[k] = p at c0 c1 w1' w2' w3' WH WP
        obtain ⟨key, z⟩ := p
        dsimp only at c0 c1 w1' w2' w3' WH WP
        have EA := (Ext.refl wo).alloc (.cells #[.string key, .int .i64 z] 107)
        have xb := blk2 (heap_alloc_new wo (.cells #[.string key, .int .i64 z] 107))
        have hown1 := ownsMap_ext hown EA
        have hwf : (Lit.int .i64 z).wf = true := WalkArith.wf_i64 (by omega)
        have hkey := WideMaps.keyOf_string_mk Tryd.underlying9 (P := Tryd.prog) (k := 9) (s := key) w1'
        clear hc cc hown
        cases hek : (ek == 0) with
        | false =>
          have HNE := hid (show ek ≠ 0 by simpa using hek)
          have W2 := hid (WN.out HNE.out)
          have HO1 := hid hown1
          clear hown1 WH WP
          go_wp2
          go_roundw
          case rel => exact ⟨k + 1, n, ek, D, f, by omega, by go_num, rfl, HO1.out, hF, by omega, W2, Eo.trans EA⟩
          case measure => simp [intOf] <;> omega
        | true =>
          obtain rfl : ek = 0 := by simpa using hek
          cases hv : (atF f key == 0) with
          | false =>
            have hv1 : ¬ atF f key = 0 := by simpa using hv
            have hv2 : (atF f key != 0) = true := by simpa using hv1
            have W2 := hid (WH.out rfl hv1)
            have HO1 := hid hown1
            clear WH WP hek
            go_wp2_with (first
              | (at_lookup; refine wpList_lookup_mig _ (by rfl) _ _ 110 rfl 9 3 lawS Tryd.underlying110 Tryd.underlying3 (hzero _) bm n D f hF rfl hown1 _ key w1' rfl hkey ?_))
            go_roundw
            case rel => exact ⟨k + 1, n, 5, D, f, by omega, by go_num, rfl, HO1.out, hF, by omega, W2, Eo.trans EA⟩
            case measure => simp [intOf] <;> omega
          | true =>
            have hv1 : atF f key = 0 := by simpa using hv
            have hv2 : (atF f key != 0) = false := by simpa using hv1
            have W2 := hid (WP.out rfl hv1)
            have HF2 := hid (hF.put kS_inj kS_is w1' z)
            clear WH WP hek hv1
            go_wp2_with (first
              | (at_lookup; refine wpList_lookup_mig _ (by rfl) _ _ 110 rfl 9 3 lawS Tryd.underlying110 Tryd.underlying3 (hzero _) bm n D f hF rfl hown1 _ key w1' rfl hkey ?_)
              | (at_mapUpdate; refine wpList_mapUpdate_own _ rfl _ _ _ 110 rfl 9 3 lawS Tryd.underlying110 _ bm n D rfl hown1 (by unfold maxLen; omega) _ _ (kS key) rfl rfl hkey (dI z) [] (plainElem_int Tryd.underlying3 hwf) ?_; intro w3 hown3 hg3))
            have HO3 := hid hown3
            have E3 := (Eo.trans EA).grown hg3 (fun j hj => by injection hj with hj; subst hj; exact HBM.out)
            go_roundw
            case rel => exact ⟨k + 1, n + 1, 0, _, _, by omega, by go_num, rfl, HO3.out, HF2.out, by omega, W2, E3⟩
            case measure => simp [intOf] <;> omega
      · obtain rfl : k = b.length := by omega
        obtain ⟨g1, g2⟩ := want_end hW.out
        rw [HJE.out] at g1
        obtain rfl := g1
        cases hek : (ek == 0) with
        | false =>
          have hne : ek ≠ 0 := by simpa using hek
          have hLn := HL1.out hne
          subst hLn
          have HEE := hid (E1.trans (E15.out.trans (EB3.out.trans Eo)))
          clear hown hne g2
          go_wp2
          go_ret
          exact ⟨rfl, HEE.out⟩
        | true =>
          obtain rfl : ek = 0 := by simpa using hek
          obtain ⟨oa, ob, hval⟩ := g2 rfl
          have hLn := hid (HL0.out rfl)
          have oj := join_okS oa ob
          have LI := hid (rlist_any bm n D f wo hown hF (by omega))
          have HS1 := hid (((O1.out.ext E15.out).ext EB3.out).ext Eo)
          have HEE := hid (E1.trans (E15.out.trans (EB3.out.trans Eo)))
          clear hown hek g2
          go_wp2_with fail
          refine (LI.out).mono ?_
          rintro e wL ⟨vL, l, rfl, r1, r2, r3, r4, r5, EL⟩
          obtain ⟨aL, cL, rfl⟩ := own_form r5
          have hlj : L = l := by rw [hLn.out]; exact prs_ext oj.srt r1 oj.nz r2 (fun x => by rw [r3, hval])
          subst hlj
          have QE := equal_Pair (.slice a1 L.length c1) (.slice aL L.length cL) L L wL (HS1.out.ext EL) (own_seg r5)
          rw [show decide (L = L) = true by simp] at QE
          have QE := hid QE
          clear LI r5 hLn
          go_wp2_with fail
          refine (QE.out).mono ?_
          rintro e wE ⟨rfl, nE, rfl⟩
          go_wp2
          go_ret
          exact ⟨rfl, (HEE.out.trans EL).drewN _⟩
end Go.Proofs.YtijcckhkofkenaaDoor
