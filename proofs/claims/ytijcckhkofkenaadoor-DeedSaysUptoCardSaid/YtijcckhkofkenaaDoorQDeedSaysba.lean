/- Contracts and lemmas for the proof of DeedSays; each theorem states its own conditions. -/
import Derived.Test.YtijcckhkofkenaaDoorQDeedSaysax
import Derived.Test.YtijcckhkofkenaaDoorQDeedSaysaj
import Derived.Test.YtijcckhkofkenaaDoorQDeedSaysal
import Derived.Test.YtijcckhkofkenaaDoorQDeedSaysan
import Derived.Test.YtijcckhkofkenaaDoorQDeedSaysaz
import Derived.WalkLawsBesides
import Derived.Carry
set_option linter.unusedVariables false
set_option linter.unusedSimpArgs false
/- Contracts and lemmas for the proofs of this seat; each theorem states its own conditions. -/
namespace Go.Proofs.YtijcckhkofkenaaDoor
open Go.RowKit
/-! plain laws of Join, Scan, Total -/
def joinP (a b : Prs) : Prs := b.foldl (fun o p => withP o p.1 p.2) a
theorem join_nil (a : Prs) : joinP a [] = a := rfl
theorem join_cons (a : Prs) (p : ByteArray × Int) (b : Prs) : joinP a (p :: b) = joinP (withP a p.1 p.2) b := rfl
theorem join_snoc (a b : Prs) (p : ByteArray × Int) : joinP a (b ++ [p]) = withP (joinP a b) p.1 p.2 := by simp [joinP, List.foldl_append]
theorem join_step {a b : Prs} {k : Nat} (hk : k < b.length) : joinP a (b.take (k + 1)) = withP (joinP a (b.take k)) b[k].1 b[k].2 := by
  rw [List.take_succ_eq_append_getElem hk, join_snoc]
theorem join_len (a b : Prs) : (joinP a b).length ≤ a.length + b.length := by
  induction b generalizing a with
  | nil => simp [join_nil]
  | cons p b ih =>
    have := ih (withP a p.1 p.2)
    have := with_len a p.1 p.2
    rw [join_cons, List.length_cons]; omega
theorem join_srt {a : Prs} (b : Prs) (h : srtP a) : srtP (joinP a b) := by
  induction b generalizing a with
  | nil => exact h
  | cons p b ih => exact ih (srt_with h _ _)
theorem join_okS {a b : Prs} (h : StoreOk a) (hb : StoreOk b) : StoreOk (joinP a b) := by
  have : ∀ l : Prs, (∀ p ∈ l, keyB p.1 = true ∧ -1000000000 ≤ p.2 ∧ p.2 ≤ 1000000000) → ∀ a, StoreOk a → StoreOk (joinP a l) := by
    intro l
    induction l with
    | nil => intro _ a h; exact h
    | cons p l ih =>
      intro hl a h
      have hp := hl p (by simp)
      exact ih (fun q hq => hl q (by simp [hq])) _ (storeOk_with h hp.1 hp.2)
  exact this b (fun p hp => ⟨hb.key p hp, (hb.val p hp).2⟩) a h
theorem val_join {a b : Prs} (ha : srtP a) (hb : srtP b) (hz : nzP b) (k : ByteArray) : valP (joinP a b) k = if valP b k ≠ 0 then valP b k else valP a k := by
  induction b generalizing a with
  | nil => simp [join_nil, valP]
  | cons p b ih =>
    obtain ⟨h1, h2⟩ := srtP_cons.1 hb
    rw [join_cons, ih (srt_with ha _ _) h2 (fun q hq => hz q (by simp [hq])), val_with ha, valP]
    by_cases e : p.1 = k
    · subst e
      rw [valP_lt h1, if_neg (by simp), if_pos rfl, if_pos rfl, if_pos (hz p (by simp))]
    · rw [if_neg e, if_neg e]
/-- no key of b is in a -/
def apartB (a b : Prs) : Bool := b.all fun p => decide (valP a p.1 = 0)
theorem apart_val {a b : Prs} (h : apartB a b = true) {k : ByteArray} (hk : valP b k ≠ 0) : valP a k = 0 := by
  unfold apartB at h
  rw [List.all_eq_true] at h
  simpa using h _ (valP_ne hk)
theorem apart_of {a b : Prs} (hb : srtP b) (hz : nzP b) (h : ∀ k, valP b k ≠ 0 → valP a k = 0) : apartB a b = true := by
  unfold apartB
  rw [List.all_eq_true]
  intro p hp
  simpa using h p.1 (by rw [valP_mem hb hp]; exact hz p hp)
theorem apart_symm {a b : Prs} (ha : srtP a) (za : nzP a) (h : apartB a b = true) : apartB b a = true :=
  apart_of ha za fun k hk => by
    by_cases e : valP b k = 0
    · exact e
    · exact absurd (apart_val h e) hk
theorem join_comm {a b : Prs} (ha : StoreOk a) (hb : StoreOk b) (h : apartB a b = true) : joinP a b = joinP b a := by
  refine store_ext (join_okS ha hb) (join_okS hb ha) fun k => ?_
  rw [val_join ha.srt hb.srt hb.nz, val_join hb.srt ha.srt ha.nz]
  by_cases e : valP b k = 0
  · by_cases e' : valP a k = 0
    · simp [e, e']
    · simp [e, e']
  · have := apart_val h e
    simp [e, this]
theorem tot_with {l : Prs} {k : ByteArray} {n : Int} (hs : srtP l) (h : valP l k = 0) (hz : nzP l) : totTo (withP l k n) = totTo l + n := by
  induction l with
  | nil => simp only [withP]; split <;> simp [totTo, *]
  | cons p l ih =>
    obtain ⟨h1, h2⟩ := srtP_cons.1 hs
    have hpk : p.1 ≠ k := by
      rintro rfl
      rw [valP, if_pos rfl] at h
      exact hz p (by simp) h
    have h' : valP l k = 0 := by rw [valP, if_neg hpk] at h; exact h
    simp only [withP]
    split
    · simp only [totTo, ih h2 h' (fun q hq => hz q (by simp [hq]))]; omega
    · try rw [if_neg hpk]
      split
      · rename_i e; subst e; omega
      · simp only [totTo]; omega
theorem tot_join {a b : Prs} (ha : StoreOk a) (hb : StoreOk b) (h : apartB a b = true) : totTo (joinP a b) = totTo a + totTo b := by
  have : ∀ l : Prs, srtP l → nzP l → (∀ p ∈ l, keyB p.1 = true ∧ -1000000000 ≤ p.2 ∧ p.2 ≤ 1000000000) → ∀ a, StoreOk a → apartB a l = true → totTo (joinP a l) = totTo a + totTo l := by
    intro l
    induction l with
    | nil => intro _ _ _ a _ _; simp [join_nil, totTo]
    | cons p l ih =>
      intro hs hz hl a h ap
      obtain ⟨h1, h2⟩ := srtP_cons.1 hs
      have hp := hl p (by simp)
      have hp0 : valP a p.1 = 0 := by
        unfold apartB at ap; rw [List.all_eq_true] at ap; simpa using ap p (by simp)
      rw [join_cons, ih h2 (fun q hq => hz q (by simp [hq])) (fun q hq => hl q (by simp [hq])) _ (storeOk_with h hp.1 hp.2), tot_with h.srt hp0 h.nz, totTo]
      · omega
      · unfold apartB at ap ⊢
        rw [List.all_eq_true] at ap ⊢
        intro q hq
        rw [val_with h.srt, if_neg (blt_ne (h1 q hq))]
        exact ap q (by simp [hq])
  exact this b hb.srt hb.nz (fun p hp => ⟨hb.key p hp, (hb.val p hp).2⟩) a ha h
theorem scan_ok' {l : Prs} (h : StoreOk l) (f t : ByteArray) : StoreOk (scanP l f t) := storeOk_filter h _
theorem val_scan {l : Prs} (h : srtP l) (f t k : ByteArray) : valP (scanP l f t) k = if inB f t (k, valP l k) then valP l k else 0 := val_filter h _ k
/-- what lies ahead of a place, and from there on -/
theorem scan_cut {l : Prs} (h : srtP l) (at_ : ByteArray) (hne : at_.toList ≠ []) : scanP l ⟨#[]⟩ at_ ++ scanP l at_ ⟨#[]⟩ = l := by
  have e1 : ∀ p : ByteArray × Int, inB ⟨#[]⟩ at_ p = blt p.1 at_ := fun p => by
    have e0 : (ByteArray.mk #[]).toList = [] := by rw [toList_data]
    have : blt p.1 ⟨#[]⟩ = false := by unfold blt; rw [e0]; cases p.1.toList <;> rfl
    simp [inB, this, hne]
  have e2 : ∀ p : ByteArray × Int, inB at_ ⟨#[]⟩ p = !blt p.1 at_ := fun p => by
    have e0 : (ByteArray.mk #[]).toList = [] := by rw [toList_data]
    simp [inB, e0]
  unfold scanP
  rw [show inB ⟨#[]⟩ at_ = fun p => blt p.1 at_ from funext e1, show inB at_ ⟨#[]⟩ = fun p => !blt p.1 at_ from funext e2]
  induction l with
  | nil => rfl
  | cons p l ih =>
    obtain ⟨h1, h2⟩ := srtP_cons.1 h
    rw [List.filter_cons, List.filter_cons]
    cases hb : blt p.1 at_ with
    | true => simp; exact ih h2
    | false =>
      have : l.filter (fun p => blt p.1 at_) = [] := by
        rw [List.filter_eq_nil_iff]
        intro q hq hqa
        have := blt_trans (h1 q hq) hqa
        rw [hb] at this; cases this
      have e3 : l.filter (fun p => !blt p.1 at_) = l := by
        rw [List.filter_eq_self]
        intro q hq
        cases hqa : blt q.1 at_ with
        | false => rfl
        | true => have := blt_trans (h1 q hq) hqa; rw [hb] at this; cases this
      simp [this, e3]
theorem hit_val {l : Prs} (hs : srtP l) (hz : nzP l) {k : ByteArray} {i : Nat} (hc : cutAt (bltAt (keysP l) k) l.length i) : hitS (keysP l) k i = decide (valP l k ≠ 0) := by
  have hv := val_cut hs hc
  cases hh : hitS (keysP l) k i with
  | true =>
    have hi := hit_lt hh
    rw [keysP_len] at hi
    rw [dif_pos hi, if_pos hh] at hv
    rw [hv]
    exact (decide_eq_true (hz _ (List.getElem_mem hi))).symm
  | false =>
    rw [hh] at hv
    simp at hv
    simp [hv]
theorem keyB_size {k : ByteArray} (h : keyB k = true) : k.size ≤ 6 := by
  simp [keyB] at h; exact h.1.2
theorem store_small {l : Prs} (h : StoreOk l) : ∀ p ∈ l, p.1.size ≤ 9223372036854775807 := fun p hp => by have := keyB_size (h.key p hp); omega
end Go.Proofs.YtijcckhkofkenaaDoor

/- Contracts and lemmas for the proofs of this seat; each theorem states its own conditions. -/
namespace Go.Proofs.YtijcckhkofkenaaDoor
open Go.RowKit Go.Maps
/-! the document's Value, Store, Of -/
theorem rvalue_any (n : Int) (w : World) : Calls Tryd.prog 85 #[.int .i64 n] w fun e w' => e = .returned (.bool (valB n)) ∧ w' = w := by
  have WI := hid (rwithin_any n (-1000000000) 1000000000 w)
  have hv : (decide (-1000000000 ≤ n) && decide (n ≤ 1000000000)) = valB n := by rw [Bool.eq_iff_iff]; simp [valB]
  rw [hv] at WI
  have WI2 := hid WI.out
  clear WI hv
  go_enter Tryd.func85, Tryd.ntmps85
  go_wp2_with fail
  refine (WI2.out).mono ?_
  rintro e w' ⟨rfl, rfl⟩
  go_wp2
  go_ret
  exact ⟨rfl, rfl⟩
/-- what Of's map holds after k pairs -/
def ofF (l : Prs) : Nat → ByteArray → Option Int
  | 0 => fun _ => none
  | k + 1 => fun x => if x = (l.getD k (⟨#[]⟩, 0)).1 then some (l.getD k (⟨#[]⟩, 0)).2 else ofF l k x
theorem ofF_step (l : Prs) {k : Nat} (h : k < l.length) : ofF l (k + 1) = fun x => if x = l[k].1 then some l[k].2 else ofF l k x := by
  rw [ofF, show l.getD k (⟨#[]⟩, 0) = l[k] by simp [h]]
def PrsW (l : Prs) : Prop := ∀ p ∈ l, p.1.size ≤ maxLen ∧ -9223372036854775808 ≤ p.2 ∧ p.2 ≤ 9223372036854775807
def ORel (w : World) (l : Prs) (k : Nat) (wr : World) : Prop :=
  ∃ (D : DU), wr.ownsMap Tryd.prog 9 (plainElem Tryd.prog 3) w.heap.size k D ∧ MapF kS okS dI D (ofF l k) ∧ Ext w wr
theorem orel_put {w w3 : World} {l : Prs} {k : Nat} {D : DU} {key : ByteArray} {c : Int} (hF : MapF kS okS dI D (ofF l k)) (hst : ofF l (k + 1) = fun x => if x = key then some c else ofF l k x) (hk : key.size ≤ maxLen)
    (hown : w3.ownsMap Tryd.prog 9 (plainElem Tryd.prog 3) w.heap.size (k + 1) (D.put (kS key) (dI c))) (E : Ext w w3) : ORel w l (k + 1) w3 :=
  ⟨_, hown, by rw [hst]; exact hF.put kS_inj kS_is hk c, E⟩
set_option maxRecDepth 10000 in
set_option maxHeartbeats 1000000 in
theorem rof_any (v : Value) (l : Prs) (w : World) (hv : Seg w v 2 l.length (cP l)) (hw : PrsW l) (hlen : l.length ≤ 1000000) :
    Calls Tryd.prog 77 #[v] w fun e w' => ∃ b D, e = .returned (.map (some b)) ∧ b = w.heap.size ∧ w'.ownsMap Tryd.prog 9 (plainElem Tryd.prog 3) b l.length D ∧ MapF kS okS dI D (ofF l l.length) ∧ Ext w w' := by
  obtain ⟨a, c, rfl⟩ := seg_form hv
  have HV := hid hv
  clear hv
  have hmm := @run_makeMap Tryd.prog
  have b0 := World.ownsMap_made w Tryd.prog 9 (plainElem (H := Unit) Tryd.prog 3)
  have E0 := (Ext.refl w).alloc (.map #[] 0)
  go_enter Tryd.func77, Tryd.ntmps77
  go_wp2
  go_loopw [5, 9] (fun _ i wr => ∃ k : Nat, k ≤ l.length ∧ i = .int .i64 k ∧ ORel w l k wr) (fun _ i _ => l.length - (intOf i).toNat)
  case atStart => exact ⟨0, Nat.zero_le _, rfl, _, b0, MapF.empty, E0⟩
  case round =>
    clear b0 E0 hmm
    obtain ⟨k, hk, rfl, D, hown, hF, E⟩ := hrel
    by_cases hlt : k < l.length
    · obtain ⟨b, off, rfl, _, m1, m2, hc⟩ := seg_cells HV.out (by omega)
      unfold maxLen at m2
      have cc := seg_pair hc hlt
      have c0 := E.cell cc.1
      have c1 := E.cell cc.2
      obtain ⟨w1, w2, w3⟩ := hw _ (List.getElem_mem hlt)
      have hst := ofF_step l hlt
      generalize l[k] = p at c0 c1 w1 w2 w3 hst
      obtain ⟨key, z⟩ := p
      dsimp only at c0 c1 w1 w2 w3 hst
      have HST := hid hst
      clear hst hc cc
      have EA := (Ext.refl wr).alloc (.cells #[.string key, .int .i64 z] 107)
      have xb := blk2 (heap_alloc_new wr (.cells #[.string key, .int .i64 z] 107))
      have hown1 := ownsMap_ext hown EA
      have hwf : (Lit.int .i64 z).wf = true := WalkArith.wf_i64 (by omega)
      have hkey := WideMaps.keyOf_string_mk Tryd.underlying9 (P := Tryd.prog) (k := 9) (s := key) w1
      clear hown
      go_wp2_with (first
        | (at_mapUpdate; refine wpList_mapUpdate_own _ rfl _ _ _ 110 rfl 9 3 lawS Tryd.underlying110 _ w.heap.size k D rfl hown1 (by unfold maxLen; omega) _ _ (kS key) rfl rfl hkey (dI z) [] (plainElem_int Tryd.underlying3 hwf) ?_; intro w3 hown3 hg3))
      go_roundw
      case rel => exact ⟨k + 1, by omega, by go_num, orel_put hF HST.out w1 hown3 ((E.trans EA).grown hg3 (fun j hj => by injection hj with hj; omega))⟩
      case measure => simp [intOf] <;> omega
    · obtain rfl : k = l.length := by omega
      go_wp2
      go_ret
      exact ⟨_, D, rfl, rfl, hown, hF, E⟩
end Go.Proofs.YtijcckhkofkenaaDoor
