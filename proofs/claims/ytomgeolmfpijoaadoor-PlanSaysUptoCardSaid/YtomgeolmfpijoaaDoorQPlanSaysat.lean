/- Contracts and lemmas for the proof of PlanSays; each theorem states its own conditions. -/
import Derived.Test.YtomgeolmfpijoaaDoorQPlanSaysas
import Derived.Test.YtomgeolmfpijoaaDoorQPlanSaysar
set_option linter.unusedVariables false
set_option linter.unusedSimpArgs false
/- Contracts and lemmas for the proofs of this seat; each theorem states its own conditions. -/
namespace Go.Proofs.YtomgeolmfpijoaaDoor
open Go.RowKit
def findV (cuts : List ByteArray) (owners : List Int) (key : ByteArray) : Int := if mapErr cuts owners = 0 ∧ keyB key = true then whose cuts owners key else 0
def findE (cuts : List ByteArray) (owners : List Int) (key : ByteArray) : Int := if mapErr cuts owners ≠ 0 then mapErr cuts owners else if keyB key then 0 else 3
set_option maxRecDepth 10000 in
theorem find_any (v : Value) (cuts : List ByteArray) (owners : List Int) (key : ByteArray) (w : World) (hv : IsMap w v cuts owners) (hk : ∀ k ∈ cuts, k.size ≤ 9223372036854775807) (hks : key.size ≤ 9223372036854775807) :
    Calls Tryd.prog 10 #[v, .string key] w fun e w' => e = .returned (.tuple #[.int .i64 (findV cuts owners key), .int .i64 (findE cuts owners key)]) ∧ Ext w w' := by
  have hv0 := hv
  obtain ⟨c, o, rfl, h1, h2⟩ := hv
  have hb0 : (w.alloc (.cells #[c, o] 28)).heap[w.heap.size]? = some (.cells #[c, o] 28 (0, 0)) := heap_alloc_new w _
  by_cases g1 : mapErr cuts owners = 0
  · have q : (mapErr cuts owners != 0) = false := by simp [g1]
    have ok := ok_of_mapErr g1
    have hf := ok.few
    cases g2 : keyB key with
    | false =>
      have e1 : findV cuts owners key = 0 := by simp [findV, g2]
      have e2 : findE cuts owners key = 3 := by simp [findE, g1, g2]
      have G1 := (show Hid (mapErr cuts owners = 0) from g1)
      clear g1
      have E1 := (show Hid (findV cuts owners key = 0 ∧ findE cuts owners key = 3) from ⟨e1, e2⟩)
      clear e1 e2
      go_enter Tryd.func10, Tryd.ntmps10
      go_wp2_with fail
      refine (mcheck_any _ cuts owners _ (hv0.ext (by (repeat (first | (with_reducible assumption) | (with_reducible exact Ext.refl _) | (with_reducible refine Ext.drew ?_) | (with_reducible refine Ext.drewN ?_ _) | (with_reducible refine Ext.alloc ?_ _) | (with_reducible refine Ext.trans ?_ (by with_reducible assumption)))))) hk).mono ?_
      rintro e w1 ⟨rfl, he1⟩
      have hb := blk2 (he1.heap hb0)
      go_wp2_with fail
      refine (key_any _ _ hks).mono ?_
      rintro e w' ⟨rfl, rfl⟩
      go_wp2
      go_ret2
      exact ⟨rT2 (vI E1.out.1.symm) (vI E1.out.2.symm), by (repeat (first | (with_reducible assumption) | (with_reducible exact Ext.refl _) | (with_reducible refine Ext.drew ?_) | (with_reducible refine Ext.drewN ?_ _) | (with_reducible refine Ext.alloc ?_ _) | (with_reducible refine Ext.trans ?_ (by with_reducible assumption))))⟩
    | true =>
      have e1 : findV cuts owners key = whose cuts owners key := by simp [findV, g2, g1]
      have e2 : findE cuts owners key = 0 := by simp [findE, g1, g2]
      have G1 := (show Hid (mapErr cuts owners = 0) from g1)
      clear g1
      have E1 := (show Hid (findV cuts owners key = whose cuts owners key ∧ findE cuts owners key = 0) from ⟨e1, e2⟩)
      clear e1 e2
      go_enter Tryd.func10, Tryd.ntmps10
      go_wp2_with fail
      refine (mcheck_any _ cuts owners _ (hv0.ext (by (repeat (first | (with_reducible assumption) | (with_reducible exact Ext.refl _) | (with_reducible refine Ext.drew ?_) | (with_reducible refine Ext.drewN ?_ _) | (with_reducible refine Ext.alloc ?_ _) | (with_reducible refine Ext.trans ?_ (by with_reducible assumption)))))) hk).mono ?_
      rintro e w1 ⟨rfl, he1⟩
      have hb := blk2 (he1.heap hb0)
      go_wp2_with fail
      refine (key_any _ _ hks).mono ?_
      rintro e w' ⟨rfl, rfl⟩
      go_wp2_with fail
      refine (of_any _ cuts owners key _ (hv0.ext (by (repeat (first | (with_reducible assumption) | (with_reducible exact Ext.refl _) | (with_reducible refine Ext.drew ?_) | (with_reducible refine Ext.drewN ?_ _) | (with_reducible refine Ext.alloc ?_ _) | (with_reducible refine Ext.trans ?_ (by with_reducible assumption)))))) ok.srt ok.len (by omega)).mono ?_
      rintro e w2 ⟨rfl, he2⟩
      go_wp2
      go_ret2
      exact ⟨rT2 (vI E1.out.1.symm) (vI E1.out.2.symm), by (repeat (first | (with_reducible assumption) | (with_reducible exact Ext.refl _) | (with_reducible refine Ext.drew ?_) | (with_reducible refine Ext.drewN ?_ _) | (with_reducible refine Ext.alloc ?_ _) | (with_reducible refine Ext.trans ?_ (by with_reducible assumption))))⟩
  · have q : (mapErr cuts owners != 0) = true := by simp [g1]
    have e1 : findV cuts owners key = 0 := by simp [findV, g1]
    have e2 : findE cuts owners key = mapErr cuts owners := by simp [findE, g1]
    have E1 := (show Hid (findV cuts owners key = 0 ∧ findE cuts owners key = mapErr cuts owners) from ⟨e1, e2⟩)
    clear e1 e2 g1
    go_enter Tryd.func10, Tryd.ntmps10
    go_wp2_with fail
    refine (mcheck_any _ cuts owners _ (hv0.ext (by (repeat (first | (with_reducible assumption) | (with_reducible exact Ext.refl _) | (with_reducible refine Ext.drew ?_) | (with_reducible refine Ext.drewN ?_ _) | (with_reducible refine Ext.alloc ?_ _) | (with_reducible refine Ext.trans ?_ (by with_reducible assumption)))))) hk).mono ?_
    rintro e w1 ⟨rfl, he1⟩
    have hb := blk2 (he1.heap hb0)
    go_wp2
    go_ret2
    exact ⟨rT2 (vI E1.out.1.symm) (vI E1.out.2.symm), by (repeat (first | (with_reducible assumption) | (with_reducible exact Ext.refl _) | (with_reducible refine Ext.drew ?_) | (with_reducible refine Ext.drewN ?_ _) | (with_reducible refine Ext.alloc ?_ _) | (with_reducible refine Ext.trans ?_ (by with_reducible assumption))))⟩
/-- the number that Within makes -/
def wi (k n : Int) : Int := (k % 18446744073709551616) % n
theorem wi_lo {k n : Int} (hn : 0 < n) : 0 ≤ wi k n := Int.emod_nonneg _ (by omega)
theorem wi_hi {k n : Int} (hn : 0 < n) : wi k n < n := Int.emod_lt_of_pos _ hn
theorem within_any (k n : Int) (w : World) (hn : 0 < n) (hn' : n ≤ 1000000000) : Calls Tryd.prog 75 #[.int .i64 k, .int .i64 n] w fun e w' => e = .returned (.int .i64 (wi k n)) ∧ w = w' := by
  have hu : IntKind.u64.wrap n = n := by rw [IntKind.wrap_u64]; omega
  have hnz : ¬ n = 0 := by omega
  have hl := wi_lo (k := k) hn
  have hh := wi_hi (k := k) hn
  go_enter Tryd.func75, Tryd.ntmps75
  go_wp2
  go_ret
  refine ⟨rI ?_, rfl⟩
  have e : (IntKind.u64.wrap k).tmod n = wi k n := by
    rw [IntKind.wrap_u64, Int.tmod_eq_emod_of_nonneg (by omega)]; rfl
  show wrap64 ((IntKind.u64.wrap k).tmod n) = wi k n
  rw [e]; unfold wrap64; omega
/-- the keys that the statements use -/
def keysL : List ByteArray := [⟨#[97]⟩, ⟨#[98]⟩, ⟨#[99]⟩, ⟨#[100]⟩, ⟨#[109]⟩, ⟨#[110]⟩, ⟨#[122]⟩, ⟨#[97, 98]⟩]
/-- Key -/
def keyOf (k : Int) : ByteArray := kAt keysL (wi k 8).toNat
end Go.Proofs.YtomgeolmfpijoaaDoor

/- Contracts and lemmas for the proofs of this seat; each theorem states its own conditions. -/
namespace Go.Proofs.YtomgeolmfpijoaaDoor
open Go.RowKit
theorem keyOf_is (k : Int) : keyB (keyOf k) = true ∧ (keyOf k).size ≤ 9223372036854775807 := by
  have h0 := wi_lo (k := k) (n := 8) (by omega)
  have h1 := wi_hi (k := k) (n := 8) (by omega)
  have h2 : (wi k 8).toNat < keysL.length := by simp [keysL]; omega
  have h3 : ∀ k, (h : k < keysL.length) → keyB keysL[k] = true ∧ keysL[k].size ≤ 2 := by decide +kernel
  have := h3 _ h2
  unfold keyOf
  rw [kAt_eq h2]; exact ⟨this.1, by omega⟩
end Go.Proofs.YtomgeolmfpijoaaDoor

/- Contracts and lemmas for the proofs of this seat; each theorem states its own conditions. -/
namespace Go.Proofs.YtomgeolmfpijoaaDoor
open Go.RowKit Go.Maps
/-! lock.New, holds, May, Ready, Left -/
theorem lnew_any (w : World) : Calls Tryd.prog 42 #[] w fun e w' => e = .returned (.pointer (some ⟨w.heap.size + 2, 0, none⟩)) ∧ LockSt w' w.heap.size (w.heap.size + 2) w.heap.size (w.heap.size + 1) [] (fun _ => false) (fun _ => none) (fun _ => none) ∧ Ext w w' := by
  have hmm := @run_makeMap Tryd.prog
  have L := lock_new w
  go_enter Tryd.func42, Tryd.ntmps42
  go_wp2
  go_ret
  exact ⟨rfl, L, ((((Ext.refl w).alloc _).alloc _).alloc _)⟩
theorem holds_hit {l : Clm} {s j : Nat} (hj : j < l.length) (hlo : ∀ i (h : i < j), (l[i]'(by omega)).1 ≠ s) (h : l[j].1 = s) : holdsL l s = (decide (j = 0) || (!l[j].2 && !((l.take j).any fun c => c.2))) := by
  have e : l = l.take j ++ l[j] :: l.drop (j + 1) := by rw [← List.drop_eq_getElem_cons hj, List.take_append_drop]
  unfold holdsL
  conv => lhs; rw [e]
  rw [holdsG_pre (fun c hc => by
    obtain ⟨i, hi, rfl⟩ := List.mem_iff_getElem.1 hc
    rw [List.length_take] at hi
    rw [List.getElem_take]
    exact hlo i (by omega))]
  rw [holdsG, if_pos h]
  have e2 : (l.take j).isEmpty = decide (j = 0) := by
    cases j with
    | zero => simp
    | succ j => 
      have : l ≠ [] := by rintro rfl; simp at hj
      simp [this]
  rw [e2]; simp
theorem holds_miss {l : Clm} {s : Nat} : ∀ {f m : Bool}, (∀ c ∈ l, c.1 ≠ s) → holdsG f m s l = false := by
  induction l with
  | nil => intro f m _; rfl
  | cons c l ih => intro f m h; rw [holdsG, if_neg (h c (by simp))]; exact ih fun d hd => h d (by simp [hd])
theorem holds1_any (x : Nat × Bool) (w : World) : Calls Tryd.prog 154 #[.agg #[.int .i64 x.1, .bool x.2]] w fun e w' => e = .returned (.bool x.2) ∧ Ext w w' := by
  have xb := blk2 (heap_alloc_new w (.cells #[.int .i64 x.1, .bool x.2] 152))
  go_enter Tryd.func154, Tryd.ntmps154
  go_wp2
  go_ret
  exact ⟨rfl, (Ext.refl w).alloc _⟩
theorem seg_takeK {w : World} {b off c : Nat} {l : Clm} (hc : ∀ j u, (cK l)[j]? = some u → w.cell? ⟨b, off + j, none⟩ = some u) {j : Nat} (hj : j ≤ l.length) (h1 : l.length ≤ c) (h2 : c ≤ maxLen) : Seg w (.slice (some ⟨b, off, none⟩) j c) 2 (l.take j).length (cK (l.take j)) := by
  have hl : (l.take j).length = j := by rw [List.length_take]; omega
  refine ⟨by rw [cK_len], some ⟨b, off, none⟩, c, by rw [hl], by omega, h2, fun _ => ⟨b, off, rfl, fun i u hu => hc i u ?_⟩⟩
  have e : cK l = cK (l.take j) ++ cK (l.drop j) := by rw [← cK_app, List.take_append_drop]
  rw [e, List.getElem?_append_left (List.getElem?_eq_some_iff.1 hu).1]
  exact hu
set_option maxRecDepth 10000 in
set_option maxHeartbeats 2000000 in
theorem holds_any {w : World} {B bt bk bd : Nat} {A : List Ops} {g : Nat → Bool} {F : ByteArray → Option SV} {G : Int → Option SV} (h : LockSt w B bt bk bd A g F G) (s : Nat) (key : ByteArray) (hk : okS key) :
    Calls Tryd.prog 109 #[.pointer (some ⟨bt, 0, none⟩), .int .i64 s, .string key] w fun e w' => e = .returned (.bool (holdsL (clmTo A g key A.length) s)) ∧ Ext w w' := by
  have hown0 := h.keys key
  have hkey := WideMaps.keyOf_string_mk Tryd.underlying9 (P := Tryd.prog) (k := 9) (s := key) hk
  obtain ⟨n, D, hmap, hn, hF⟩ := h.km
  have hbox := h.box
  have hfew := h.few
  obtain ⟨ac, cc, hsv⟩ := own_form hown0
  rw [hsv] at hown0
  have hseg := own_seg hown0
  have hcl := fun c (hc : c ∈ clmTo A g key A.length) => (clm_mem.1 hc).1
  have hlen : (clmTo A g key A.length).length ≤ 1000000 := by
    have : ∀ n, (clmTo A g key n).length ≤ n := by
      intro n; induction n with
      | zero => simp [clmTo]
      | succ n ih => rw [clmTo, List.length_append]; unfold clm1; split <;> simp <;> omega
    have := this A.length; omega
  obtain ⟨l, hl⟩ : ∃ l, clmTo A g key A.length = l := ⟨_, rfl⟩
  rw [hl] at hseg hsv hcl hlen
  have HL := hid hl
  have HCL := hid hcl
  clear hl hown0 hcl
  have hzero := fun w => Tryd.zeroValue149 w
  have cb : w.cell? ⟨bt, 0, none⟩ = some (.map (some bk)) := by simp [World.cell?, hbox]
  obtain ⟨_, aa, c', hq, h1, h2, h3⟩ := hseg
  injection hq with hq1 _ hq3
  subst hq1; subst hq3
  unfold maxLen at h2
  have H3 := hid h3
  clear h3
  go_enter Tryd.func109, Tryd.ntmps109
  go_wp2_with (first | (at_lookup; refine wpList_lookup_sv _ rfl _ _ 145 rfl 9 149 lawStr Tryd.underlying145 (hzero _) bk n D F hF rfl hmap _ key hk rfl hkey ?_))
  go_loopw [7, 8, 16] (fun _ _ iv wr => ∃ j : Nat, j ≤ l.length ∧ iv = .int .i64 j ∧ (∀ i (h : i < l.length), i < j → l[i].1 ≠ s) ∧ Ext w wr) (fun _ _ iv _ => l.length - (intOf iv).toNat)
  case atStart => exact ⟨0, Nat.zero_le _, rfl, fun i _ h => by omega, Ext.refl _⟩
  case round =>
    obtain ⟨j, hj, rfl, hn, E⟩ := hrel
    have HN := hid hn
    clear hn
    by_cases hlt : j < l.length
    · obtain ⟨b, off, rfl, hcell⟩ := H3.out (by omega)
      have x0 := E.cell (hcell (j * 2) _ (cK_at l j hlt).1)
      have x1 := E.cell (hcell (j * 2 + 1) _ (cK_at l j hlt).2)
      rw [← Nat.add_assoc] at x1
      have HIT := hid (fun h => holds_hit (s := s) hlt (fun i hi => HN.out i (by omega) hi) h)
      have HS := hid (fun (h : l[j].1 ≠ s) => (fun i (hi : i < l.length) (h' : i < j + 1) => by
        rcases Nat.lt_or_ge i j with h2 | h2
        · exact HN.out i hi h2
        · have : i = j := by omega
          subst this; exact h : ∀ i (hi : i < l.length), i < j + 1 → l[i].1 ≠ s))
      have ST := hid (seg_takeK (fun i u hu => E.cell (hcell i u hu)) (Nat.le_of_lt hlt) h1 h2)
      have hcs := HCL.out _ (List.getElem_mem hlt)
      clear hcell
      generalize l[j] = c at x0 x1 HIT HS hcs
      obtain ⟨c1, c2⟩ := c
      dsimp only at x0 x1 HIT HS hcs
      have EA := (Ext.refl wr).alloc (.cells #[.int .i64 c1, .bool c2] 152)
      have xb := blk2 (heap_alloc_new wr (.cells #[.int .i64 c1, .bool c2] 152))
      by_cases hs : c1 = s
      · have qs : ((c1 : Int) == (s : Int)) = true := by simp [hs]
        have HR := hid (HIT.out hs)
        clear HIT HS hs
        by_cases hj0 : j = 0
        · have q0 : ((j : Int) == 0) = true := by simp [hj0]
          have hr : holdsL l s = true := by rw [HR.out]; simp [hj0]
          have HR2 := hid hr
          clear hr hj0
          go_wp2
          go_ret
          exact ⟨rB (by rw [HL.out, HR2.out]), E.trans EA⟩
        · have q0 : ((j : Int) == 0) = false := by simp [hj0]
          cases c2 with
          | true =>
            have hr : holdsL l s = false := by rw [HR.out]; simp [hj0]
            have HR2 := hid hr
            clear hr hj0
            go_wp2
            go_ret
            exact ⟨rB (by rw [HL.out, HR2.out]), E.trans EA⟩
          | false =>
            have hr : holdsL l s = !((l.take j).any fun c => c.2) := by rw [HR.out]; simp [hj0]
            have HR2 := hid hr
            clear hr hj0
            have E1 := E.trans EA
            have hmap1 := ownsMap_ext hmap E1
            have cb1 := E1.cell cb
            have CF := hid (containsF_K 154 #[] (enters_of Tryd.func154 (by kernel_rfl) rfl) (fun c => c.2) _ (l.take j) (wr.alloc (.cells #[.int .i64 c1, .bool false] 152)) (ST.out.ext EA) (fun x _ w' _ => holds1_any x w'))
            have hji : (j : Int) ≤ (l.length : Int) := by omega
            have hjc : (j : Int) ≤ (cc : Int) := by omega
            go_wp2_with (first | (at_lookup; refine wpList_lookup_svg _ (by rfl) _ _ 145 rfl 9 149 lawStr Tryd.underlying145 (hzero _) bk n D F hF rfl hmap1 _ key hk rfl hkey ?_))
            refine (CF.out).mono ?_
            rintro e wa ⟨rfl, Ea⟩
            go_wp2
            go_ret
            exact ⟨rB (by rw [HL.out, HR2.out]), E1.trans Ea⟩
      · have qs : ((c1 : Int) == (s : Int)) = false := by simp; omega
        have HS2 := hid (HS.out hs)
        clear HS HIT hs
        go_wp2
        go_roundw
        case rel => exact ⟨j + 1, by omega, by go_num, HS2.out, E.trans EA⟩
        case measure => simp [intOf]; omega
    · obtain rfl : j = l.length := by omega
      have hr : holdsL l s = false := holds_miss fun c hc => by
        obtain ⟨i, hi, rfl⟩ := List.mem_iff_getElem.1 hc
        exact HN.out i hi hi
      have HR2 := hid hr
      clear hr
      go_wp2
      go_ret
      exact ⟨rB (by rw [HL.out, HR2.out]), E⟩
end Go.Proofs.YtomgeolmfpijoaaDoor
