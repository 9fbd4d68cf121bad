/- Contracts and lemmas for the proof of LockPlays; each theorem states its own conditions. -/
import Derived.Test.YtomgeolmfpijoaaDoorQLockPlaysap
import Derived.Test.YtomgeolmfpijoaaDoorQLockPlaysag
import Derived.Test.YtomgeolmfpijoaaDoorQLockPlaysah
import Derived.Test.YtomgeolmfpijoaaDoorQLockPlaysaj
import Derived.Test.YtomgeolmfpijoaaDoorQLockPlaysaq
import Derived.WalkLawsBesides
import Derived.Carry
set_option linter.unusedVariables false
set_option linter.unusedSimpArgs false
/- Contracts and lemmas for the proofs of this seat; each theorem states its own conditions. -/
namespace Go.Proofs.YtomgeolmfpijoaaDoor
open Go.RowKit
/-! plain laws of Join, Scan, Total -/
def joinP (a b : Prs) : Prs := b.foldl (fun o p => withP o p.1 p.2) a
theorem join_nil (a : Prs) : joinP a [] = a := rfl
theorem join_cons (a : Prs) (p : ByteArray × Int) (b : Prs) : joinP a (p :: b) = joinP (withP a p.1 p.2) b := rfl
theorem join_snoc (a b : Prs) (p : ByteArray × Int) : joinP a (b ++ [p]) = withP (joinP a b) p.1 p.2 := by simp [joinP, List.foldl_append]
theorem join_step {a b : Prs} {k : Nat} (hk : k < b.length) : joinP a (b.take (k + 1)) = withP (joinP a (b.take k)) b[k].1 b[k].2 := by
  rw [List.take_succ_eq_append_getElem hk, join_snoc]
theorem join_len (a b : Prs) : (joinP a b).length ≤ a.length + b.length := by
  induction b generalizing a with
  | nil => simp [join_nil]
  | cons p b ih =>
    have := ih (withP a p.1 p.2)
    have := with_len a p.1 p.2
    rw [join_cons, List.length_cons]; omega
theorem join_srt {a : Prs} (b : Prs) (h : srtP a) : srtP (joinP a b) := by
  induction b generalizing a with
  | nil => exact h
  | cons p b ih => exact ih (srt_with h _ _)
theorem join_okS {a b : Prs} (h : StoreOk a) (hb : StoreOk b) : StoreOk (joinP a b) := by
  have : ∀ l : Prs, (∀ p ∈ l, keyB p.1 = true ∧ -1000000000 ≤ p.2 ∧ p.2 ≤ 1000000000) → ∀ a, StoreOk a → StoreOk (joinP a l) := by
    intro l
    induction l with
    | nil => intro _ a h; exact h
    | cons p l ih =>
      intro hl a h
      have hp := hl p (by simp)
      exact ih (fun q hq => hl q (by simp [hq])) _ (storeOk_with h hp.1 hp.2)
  exact this b (fun p hp => ⟨hb.key p hp, (hb.val p hp).2⟩) a h
theorem val_join {a b : Prs} (ha : srtP a) (hb : srtP b) (hz : nzP b) (k : ByteArray) : valP (joinP a b) k = if valP b k ≠ 0 then valP b k else valP a k := by
  induction b generalizing a with
  | nil => simp [join_nil, valP]
  | cons p b ih =>
    obtain ⟨h1, h2⟩ := srtP_cons.1 hb
    rw [join_cons, ih (srt_with ha _ _) h2 (fun q hq => hz q (by simp [hq])), val_with ha, valP]
    by_cases e : p.1 = k
    · subst e
      rw [valP_lt h1, if_neg (by simp), if_pos rfl, if_pos rfl, if_pos (hz p (by simp))]
    · rw [if_neg e, if_neg e]
/-- no key of b is in a -/
def apartB (a b : Prs) : Bool := b.all fun p => decide (valP a p.1 = 0)
theorem apart_val {a b : Prs} (h : apartB a b = true) {k : ByteArray} (hk : valP b k ≠ 0) : valP a k = 0 := by
  unfold apartB at h
  rw [List.all_eq_true] at h
  simpa using h _ (valP_ne hk)
theorem apart_of {a b : Prs} (hb : srtP b) (hz : nzP b) (h : ∀ k, valP b k ≠ 0 → valP a k = 0) : apartB a b = true := by
  unfold apartB
  rw [List.all_eq_true]
  intro p hp
  simpa using h p.1 (by rw [valP_mem hb hp]; exact hz p hp)
theorem apart_symm {a b : Prs} (ha : srtP a) (za : nzP a) (h : apartB a b = true) : apartB b a = true :=
  apart_of ha za fun k hk => by
    by_cases e : valP b k = 0
    · exact e
    · exact absurd (apart_val h e) hk
theorem join_comm {a b : Prs} (ha : StoreOk a) (hb : StoreOk b) (h : apartB a b = true) : joinP a b = joinP b a := by
  refine store_ext (join_okS ha hb) (join_okS hb ha) fun k => ?_
  rw [val_join ha.srt hb.srt hb.nz, val_join hb.srt ha.srt ha.nz]
  by_cases e : valP b k = 0
  · by_cases e' : valP a k = 0
    · simp [e, e']
    · simp [e, e']
  · have := apart_val h e
    simp [e, this]
theorem tot_with {l : Prs} {k : ByteArray} {n : Int} (hs : srtP l) (h : valP l k = 0) (hz : nzP l) : totTo (withP l k n) = totTo l + n := by
  induction l with
  | nil => simp only [withP]; split <;> simp [totTo, *]
  | cons p l ih =>
    obtain ⟨h1, h2⟩ := srtP_cons.1 hs
    have hpk : p.1 ≠ k := by
      rintro rfl
      rw [valP, if_pos rfl] at h
      exact hz p (by simp) h
    have h' : valP l k = 0 := by rw [valP, if_neg hpk] at h; exact h
    simp only [withP]
    split
    · simp only [totTo, ih h2 h' (fun q hq => hz q (by simp [hq]))]; omega
    · try rw [if_neg hpk]
      split
      · rename_i e; subst e; omega
      · simp only [totTo]; omega
theorem tot_join {a b : Prs} (ha : StoreOk a) (hb : StoreOk b) (h : apartB a b = true) : totTo (joinP a b) = totTo a + totTo b := by
  have : ∀ l : Prs, srtP l → nzP l → (∀ p ∈ l, keyB p.1 = true ∧ -1000000000 ≤ p.2 ∧ p.2 ≤ 1000000000) → ∀ a, StoreOk a → apartB a l = true → totTo (joinP a l) = totTo a + totTo l := by
    intro l
    induction l with
    | nil => intro _ _ _ a _ _; simp [join_nil, totTo]
    | cons p l ih =>
      intro hs hz hl a h ap
      obtain ⟨h1, h2⟩ := srtP_cons.1 hs
      have hp := hl p (by simp)
      have hp0 : valP a p.1 = 0 := by
        unfold apartB at ap; rw [List.all_eq_true] at ap; simpa using ap p (by simp)
      rw [join_cons, ih h2 (fun q hq => hz q (by simp [hq])) (fun q hq => hl q (by simp [hq])) _ (storeOk_with h hp.1 hp.2), tot_with h.srt hp0 h.nz, totTo]
      · omega
      · unfold apartB at ap ⊢
        rw [List.all_eq_true] at ap ⊢
        intro q hq
        rw [val_with h.srt, if_neg (blt_ne (h1 q hq))]
        exact ap q (by simp [hq])
  exact this b hb.srt hb.nz (fun p hp => ⟨hb.key p hp, (hb.val p hp).2⟩) a ha h
theorem scan_ok' {l : Prs} (h : StoreOk l) (f t : ByteArray) : StoreOk (scanP l f t) := storeOk_filter h _
theorem val_scan {l : Prs} (h : srtP l) (f t k : ByteArray) : valP (scanP l f t) k = if inB f t (k, valP l k) then valP l k else 0 := val_filter h _ k
/-- what lies ahead of a place, and from there on -/
theorem scan_cut {l : Prs} (h : srtP l) (at_ : ByteArray) (hne : at_.toList ≠ []) : scanP l ⟨#[]⟩ at_ ++ scanP l at_ ⟨#[]⟩ = l := by
  have e1 : ∀ p : ByteArray × Int, inB ⟨#[]⟩ at_ p = blt p.1 at_ := fun p => by
    have e0 : (ByteArray.mk #[]).toList = [] := by rw [toList_data]
    have : blt p.1 ⟨#[]⟩ = false := by unfold blt; rw [e0]; cases p.1.toList <;> rfl
    simp [inB, this, hne]
  have e2 : ∀ p : ByteArray × Int, inB at_ ⟨#[]⟩ p = !blt p.1 at_ := fun p => by
    have e0 : (ByteArray.mk #[]).toList = [] := by rw [toList_data]
    simp [inB, e0]
  unfold scanP
  rw [show inB ⟨#[]⟩ at_ = fun p => blt p.1 at_ from funext e1, show inB at_ ⟨#[]⟩ = fun p => !blt p.1 at_ from funext e2]
  induction l with
  | nil => rfl
  | cons p l ih =>
    obtain ⟨h1, h2⟩ := srtP_cons.1 h
    rw [List.filter_cons, List.filter_cons]
    cases hb : blt p.1 at_ with
    | true => simp; exact ih h2
    | false =>
      have : l.filter (fun p => blt p.1 at_) = [] := by
        rw [List.filter_eq_nil_iff]
        intro q hq hqa
        have := blt_trans (h1 q hq) hqa
        rw [hb] at this; cases this
      have e3 : l.filter (fun p => !blt p.1 at_) = l := by
        rw [List.filter_eq_self]
        intro q hq
        cases hqa : blt q.1 at_ with
        | false => rfl
        | true => have := blt_trans (h1 q hq) hqa; rw [hb] at this; cases this
      simp [this, e3]
theorem hit_val {l : Prs} (hs : srtP l) (hz : nzP l) {k : ByteArray} {i : Nat} (hc : cutAt (bltAt (keysP l) k) l.length i) : hitS (keysP l) k i = decide (valP l k ≠ 0) := by
  have hv := val_cut hs hc
  cases hh : hitS (keysP l) k i with
  | true =>
    have hi := hit_lt hh
    rw [keysP_len] at hi
    rw [dif_pos hi, if_pos hh] at hv
    rw [hv]
    exact (decide_eq_true (hz _ (List.getElem_mem hi))).symm
  | false =>
    rw [hh] at hv
    simp at hv
    simp [hv]
theorem keyB_size {k : ByteArray} (h : keyB k = true) : k.size ≤ 6 := by
  simp [keyB] at h; exact h.1.2
theorem store_small {l : Prs} (h : StoreOk l) : ∀ p ∈ l, p.1.size ≤ 9223372036854775807 := fun p hp => by have := keyB_size (h.key p hp); omega
end Go.Proofs.YtomgeolmfpijoaaDoor

/- Contracts and lemmas for the proofs of this seat; each theorem states its own conditions. -/
namespace Go.Proofs.YtomgeolmfpijoaaDoor
open Go.RowKit Go.Maps
/-! the document's Value, Store, Of -/
theorem rvalue_any (n : Int) (w : World) : Calls Tryd.prog 106 #[.int .i64 n] w fun e w' => e = .returned (.bool (valB n)) ∧ w' = w := by
  have WI := hid (rwithin_any n (-1000000000) 1000000000 w)
  have hv : (decide (-1000000000 ≤ n) && decide (n ≤ 1000000000)) = valB n := by rw [Bool.eq_iff_iff]; simp [valB]
  rw [hv] at WI
  have WI2 := hid WI.out
  clear WI hv
  go_enter Tryd.func106, Tryd.ntmps106
  go_wp2_with fail
  refine (WI2.out).mono ?_
  rintro e w' ⟨rfl, rfl⟩
  go_wp2
  go_ret
  exact ⟨rfl, rfl⟩
/-- what Of's map holds after k pairs -/
def ofF (l : Prs) : Nat → ByteArray → Option Int
  | 0 => fun _ => none
  | k + 1 => fun x => if x = (l.getD k (⟨#[]⟩, 0)).1 then some (l.getD k (⟨#[]⟩, 0)).2 else ofF l k x
theorem ofF_step (l : Prs) {k : Nat} (h : k < l.length) : ofF l (k + 1) = fun x => if x = l[k].1 then some l[k].2 else ofF l k x := by
  rw [ofF, show l.getD k (⟨#[]⟩, 0) = l[k] by simp [h]]
def PrsW (l : Prs) : Prop := ∀ p ∈ l, p.1.size ≤ maxLen ∧ -9223372036854775808 ≤ p.2 ∧ p.2 ≤ 9223372036854775807
def ORel (w : World) (l : Prs) (k : Nat) (wr : World) : Prop :=
  ∃ (D : DU), wr.ownsMap Tryd.prog 9 (plainElem Tryd.prog 3) w.heap.size k D ∧ MapF kS okS dI D (ofF l k) ∧ Ext w wr
theorem orel_put {w w3 : World} {l : Prs} {k : Nat} {D : DU} {key : ByteArray} {c : Int} (hF : MapF kS okS dI D (ofF l k)) (hst : ofF l (k + 1) = fun x => if x = key then some c else ofF l k x) (hk : key.size ≤ maxLen)
    (hown : w3.ownsMap Tryd.prog 9 (plainElem Tryd.prog 3) w.heap.size (k + 1) (D.put (kS key) (dI c))) (E : Ext w w3) : ORel w l (k + 1) w3 :=
  ⟨_, hown, by rw [hst]; exact hF.put kS_inj kS_is hk c, E⟩
set_option maxRecDepth 10000 in
set_option maxHeartbeats 1000000 in
theorem rof_any (v : Value) (l : Prs) (w : World) (hv : Seg w v 2 l.length (cP l)) (hw : PrsW l) (hlen : l.length ≤ 1000000) :
    Calls Tryd.prog 67 #[v] w fun e w' => ∃ b D, e = .returned (.map (some b)) ∧ b = w.heap.size ∧ w'.ownsMap Tryd.prog 9 (plainElem Tryd.prog 3) b l.length D ∧ MapF kS okS dI D (ofF l l.length) ∧ Ext w w' := by
  obtain ⟨a, c, rfl⟩ := seg_form hv
  have HV := hid hv
  clear hv
  have hmm := @run_makeMap Tryd.prog
  have b0 := World.ownsMap_made w Tryd.prog 9 (plainElem (H := Unit) Tryd.prog 3)
  have E0 := (Ext.refl w).alloc (.map #[] 0)
  go_enter Tryd.func67, Tryd.ntmps67
  go_wp2
  go_loopw [5, 9] (fun _ i wr => ∃ k : Nat, k ≤ l.length ∧ i = .int .i64 k ∧ ORel w l k wr) (fun _ i _ => l.length - (intOf i).toNat)
  case atStart => exact ⟨0, Nat.zero_le _, rfl, _, b0, MapF.empty, E0⟩
  case round =>
    clear b0 E0 hmm
    obtain ⟨k, hk, rfl, D, hown, hF, E⟩ := hrel
    by_cases hlt : k < l.length
    · obtain ⟨b, off, rfl, _, m1, m2, hc⟩ := seg_cells HV.out (by omega)
      unfold maxLen at m2
      have cc := seg_pair hc hlt
      have c0 := E.cell cc.1
      have c1 := E.cell cc.2
      obtain ⟨w1, w2, w3⟩ := hw _ (List.getElem_mem hlt)
      have hst := ofF_step l hlt
      generalize l[k] = p at c0 c1 w1 w2 w3 hst
      obtain ⟨key, z⟩ := p
      dsimp only at c0 c1 w1 w2 w3 hst
      have HST := hid hst
      clear hst hc cc
      have EA := (Ext.refl wr).alloc (.cells #[.string key, .int .i64 z] 98)
      have xb := blk2 (heap_alloc_new wr (.cells #[.string key, .int .i64 z] 98))
      have hown1 := ownsMap_ext hown EA
      have hwf : (Lit.int .i64 z).wf = true := WalkArith.wf_i64 (by omega)
      have hkey := WideMaps.keyOf_string_mk Tryd.underlying9 (P := Tryd.prog) (k := 9) (s := key) w1
      clear hown
      go_wp2_with (first
        | (at_mapUpdate; refine wpList_mapUpdate_own _ rfl _ _ _ 101 rfl 9 3 lawS Tryd.underlying101 _ w.heap.size k D rfl hown1 (by unfold maxLen; omega) _ _ (kS key) rfl rfl hkey (dI z) [] (plainElem_int Tryd.underlying3 hwf) ?_; intro w3 hown3 hg3))
      go_roundw
      case rel => exact ⟨k + 1, by omega, by go_num, orel_put hF HST.out w1 hown3 ((E.trans EA).grown hg3 (fun j hj => by injection hj with hj; omega))⟩
      case measure => simp [intOf] <;> omega
    · obtain rfl : k = l.length := by omega
      go_wp2
      go_ret
      exact ⟨_, D, rfl, rfl, hown, hF, E⟩
end Go.Proofs.YtomgeolmfpijoaaDoor

/- Contracts and lemmas for the proofs of this seat; each theorem states its own conditions. -/
namespace Go.Proofs.YtomgeolmfpijoaaDoor
open Go.RowKit
/-! the document's Store -/
def prevP (l : Prs) (k : Nat) : ByteArray := if k = 0 then ⟨#[]⟩ else (l.getD (k - 1) (⟨#[]⟩, 0)).1
theorem prevP_succ {l : Prs} {k : Nat} (h : k < l.length) : prevP l (k + 1) = l[k].1 := by simp [prevP, h]
theorem prevP_blt {l : Prs} {k : Nat} (hk : k < l.length) (h : keyB l[k].1 = true) : (blt (prevP l k) l[k].1 = true) ↔ (0 < k → blt (l[k - 1]'(by omega)).1 l[k].1 = true) := by
  cases k with
  | zero => simp [prevP, blt_empty h]
  | succ k =>
    rw [prevP_succ (show k < l.length by omega)]
    simp
theorem leq_of_blt {a b : ByteArray} (h : blt a b = true) : Op.bytesLess b.toList a.toList = false ∧ (b.toList == a.toList) = false ∧ ¬ b.toList = a.toList := by
  have h4 : (b.toList == a.toList) = false := by
    cases hh : (b.toList == a.toList) with
    | false => rfl
    | true =>
      have h' : b = a := toList_inj (by simpa using hh)
      rw [h', blt_irrefl] at h; cases h
  exact ⟨blt_asymm h, h4, by simpa using h4⟩
theorem leq_of_not {a b : ByteArray} (h : blt a b = false) : Op.bytesLess b.toList a.toList = true ∨ (Op.bytesLess b.toList a.toList = false ∧ (b.toList == a.toList) = true ∧ b.toList = a.toList) := by
  cases h2 : Op.bytesLess b.toList a.toList with
  | true => exact .inl rfl
  | false =>
    refine .inr ⟨rfl, ?_⟩
    have : b.toList = a.toList := by
      rcases bl_tri b.toList a.toList with h' | h' | h'
      · rw [h2] at h'; cases h'
      · exact h'
      · have h'' : blt a b = true := h'
        rw [h] at h''; cases h''
    exact ⟨by simpa using this, this⟩
set_option maxRecDepth 10000 in
set_option maxHeartbeats 2000000 in
theorem rstore_any (v : Value) (l : Prs) (w : World) (hv : Seg w v 2 l.length (cP l)) (hk : ∀ p ∈ l, p.1.size ≤ 9223372036854775807) :
    Calls Tryd.prog 63 #[v] w fun e w' => e = .returned (.int .i64 (storeErr l)) ∧ Ext w w' := by
  obtain ⟨a, c, rfl⟩ := seg_form hv
  have HV := hid hv
  have hll : l.length ≤ 9223372036854775807 := by obtain ⟨_, _, _, e, h1, h2, _⟩ := hv; injection e with _ _ e3; subst e3; unfold maxLen at h2; omega
  clear hv
  go_enter Tryd.func63, Tryd.ntmps63
  go_wp2
  go_loopw [3, 5, 8, 12, 17, 27] (fun lv _ iv _ _ _ wr => ∃ k : Nat, k ≤ l.length ∧ iv = .int .i64 k ∧ lv = .string (prevP l k) ∧ zeroTo (pairErr l) k ∧ Ext w wr) (fun _ _ iv _ _ _ _ => l.length - (intOf iv).toNat)
  case atStart => exact ⟨0, Nat.zero_le _, rfl, rfl, fun j h => absurd h (by omega), Ext.refl _⟩
  case round =>
    obtain ⟨wo, rfl⟩ : ∃ wo : World, wo = wr := ⟨_, rfl⟩
    obtain ⟨k, hkl, rfl, rfl, hall, E⟩ := hrel
    by_cases hlt : k < l.length
    · obtain ⟨b, off, rfl, _, m1, m2, hc⟩ := seg_cells HV.out (by omega)
      unfold maxLen at m2
      have cc := seg_pair hc hlt
      have c0 := E.cell cc.1
      have c1 := E.cell cc.2
      have hsz := hk _ (List.getElem_mem hlt)
      have FE := hid (fun (h : pairErr l k ≠ 0) => firstE_at hall h hlt)
      have ZS := hid (fun (h : pairErr l k = 0) => zeroTo_succ hall h)
      have PK := hid (pairErr_key hlt)
      have PV := hid (pairErr_val hlt)
      have PO := hid (fun (hkb : keyB l[k].1 = true) (b' : valB l[k].2 = true) (c' : l[k].2 ≠ 0) (h : blt (prevP l k) l[k].1 = false) => (by
        have hne : ¬ (0 < k → blt (l[k - 1]'(by omega)).1 l[k].1 = true) := fun hh => by rw [(prevP_blt hlt hkb).2 hh] at h; cases h
        have h0 : 0 < k := by
          rcases Nat.eq_zero_or_pos k with e | e
          · exact absurd (fun h' => by omega) hne
          · exact e
        have hb : blt (l[k - 1]'(by omega)).1 l[k].1 = false := by
          cases hq : blt (l[k - 1]'(by omega)).1 l[k].1 with
          | false => rfl
          | true => exact absurd (fun _ => hq) hne
        exact pairErr_ord hlt hkb b' c' h0 hb : pairErr l k = 3))
      have PN := hid (fun (hkb : keyB l[k].1 = true) (b' : valB l[k].2 = true) (c' : l[k].2 ≠ 0) (h : blt (prevP l k) l[k].1 = true) => pairErr_no hlt hkb b' c' ((prevP_blt hlt hkb).1 h))
      have PS' := hid (prevP_succ hlt)
      generalize prevP l k = lst at PO PN ⊢
      generalize l[k] = p at c0 c1 hsz PK PV PO PN PS'
      obtain ⟨key, z⟩ := p
      dsimp only at c0 c1 hsz PK PV PO PN PS'
      have RK := hid (fun w' => rkey_any key w' hsz)
      have RV := hid (fun w' => rvalue_any z w')
      have EA := (Ext.refl wo).alloc (.cells #[.string key, .int .i64 z] 98)
      have xb0 := heap_alloc_new wo (.cells #[.string key, .int .i64 z] 98)
      have xb := blk2 xb0
      clear hc cc hall
      cases hkey : keyB key with
      | false =>
        have hr := hid (show storeErr l = 3 by unfold storeErr; rw [FE.out (by rw [PK.out hkey]; omega), PK.out hkey])
        go_wp2_with fail
        refine (RK.out _).mono ?_
        rw [hkey]
        rintro e w1 ⟨rfl, E1⟩
        go_wp2
        go_ret
        exact ⟨rI hr.out.symm, E.trans (EA.trans E1)⟩
      | true =>
        cases hz : (z == 0) with
        | true =>
          have hz' : z = 0 := by simpa using hz
          have hr := hid (show storeErr l = 1 by unfold storeErr; rw [FE.out (by rw [PV.out hkey (.inr hz')]; omega), PV.out hkey (.inr hz')])
          clear hz'
          go_wp2_with fail
          refine (RK.out _).mono ?_
          rw [hkey]
          rintro e w1 ⟨rfl, E1⟩
          have y := blk2 (E1.heap xb0)
          go_wp2
          go_ret
          exact ⟨rI hr.out.symm, E.trans (EA.trans E1)⟩
        | false =>
          have hz' : z ≠ 0 := by simpa using hz
          have HZ := hid hz'
          clear hz'
          cases hvb : valB z with
          | false =>
            have hr := hid (show storeErr l = 1 by unfold storeErr; rw [FE.out (by rw [PV.out hkey (.inl hvb)]; omega), PV.out hkey (.inl hvb)])
            go_wp2_with fail
            refine (RK.out _).mono ?_
            rw [hkey]
            rintro e w1 ⟨rfl, E1⟩
            have y := blk2 (E1.heap xb0)
            go_wp2_with fail
            refine (RV.out _).mono ?_
            rw [hvb]
            rintro e w2 ⟨rfl, rfl⟩
            go_wp2
            go_ret
            exact ⟨rI hr.out.symm, E.trans (EA.trans E1)⟩
          | true =>
            cases hb : blt lst key with
            | false =>
              have hp := hid (PO.out hkey hvb HZ.out hb)
              have hr := hid (show storeErr l = 3 by unfold storeErr; rw [FE.out (by rw [hp.out]; omega), hp.out])
              rcases leq_of_not hb with q1 | ⟨q1, q2, q3⟩
              · clear hb
                go_wp2_with fail
                refine (RK.out _).mono ?_
                rw [hkey]
                rintro e w1 ⟨rfl, E1⟩
                have y := blk2 (E1.heap xb0)
                go_wp2_with fail
                refine (RV.out _).mono ?_
                rw [hvb]
                rintro e w2 ⟨rfl, rfl⟩
                go_wp2
                go_ret
                exact ⟨rI hr.out.symm, E.trans (EA.trans E1)⟩
              · clear hb
                go_wp2_with fail
                refine (RK.out _).mono ?_
                rw [hkey]
                rintro e w1 ⟨rfl, E1⟩
                have y := blk2 (E1.heap xb0)
                go_wp2_with fail
                refine (RV.out _).mono ?_
                rw [hvb]
                rintro e w2 ⟨rfl, rfl⟩
                go_wp2
                go_ret
                exact ⟨rI hr.out.symm, E.trans (EA.trans E1)⟩
            | true =>
              have hp := hid (PN.out hkey hvb HZ.out hb)
              obtain ⟨q1, q2, q3⟩ := leq_of_blt hb
              clear hb
              go_wp2_with fail
              refine (RK.out _).mono ?_
              rw [hkey]
              rintro e w1 ⟨rfl, E1⟩
              have y := blk2 (E1.heap xb0)
              go_wp2_with fail
              refine (RV.out _).mono ?_
              rw [hvb]
              rintro e w2 ⟨rfl, rfl⟩
              go_wp2
              go_roundw
              case rel => exact ⟨k + 1, by omega, by go_num, by rw [PS'.out], ZS.out hp.out, E.trans (EA.trans E1)⟩
              case measure => simp [intOf] <;> omega
    · obtain rfl : k = l.length := by omega
      go_wp2
      go_ret
      exact ⟨rI (firstE_zero hall).symm, E⟩
end Go.Proofs.YtomgeolmfpijoaaDoor
