/- Contracts and lemmas for the proof of PartsPlay; each theorem states its own conditions. -/
import Derived.Test.YtimchedebcoohaaGreatDoorQPartsPlayan
import Derived.Test.YtimchedebcoohaaGreatDoorQPartsPlayak
import Derived.OneCell
import Derived.Test.YtimchedebcoohaaGreatDoorQPartsPlayae
import Derived.Test.YtimchedebcoohaaGreatDoorQPartsPlayaf
import Derived.Test.YtimchedebcoohaaGreatDoorQPartsPlayah
import Derived.WalkLawsBesides
import Derived.Carry
import Derived.Test.YtimchedebcoohaaGreatDoorRows
import Derived.Test.YtimchedebcoohaaGreatDoorQPartsPlayab
import Derived.Deep.SlicePairs
set_option linter.unusedVariables false
set_option linter.unusedSimpArgs false
/- Contracts and lemmas for the proofs of this seat; each theorem states its own conditions. -/
namespace Go.Proofs.YtimchedebcoohaaGreatDoor
open Go.RowKit Go.Maps
/-! roref.List -/
theorem lawS : Keyed Tryz.prog 9 := string_keyed Tryz.underlying9
theorem set_grown (w : World) (p : Addr) (u : Value) : w.grownBy (w.setCell p u) (some p.block) :=
  ⟨rfl, rfl, rfl, by simp, fun k _ hne => Below.heap_setCell _ _ _ _ (fun e => hne (by rw [e]))⟩
theorem ext_of_grown {w w' : World} (h : w.grownBy w' none) : Ext w w' := ⟨h.os, h.tape, h.output, h.size, fun k hk => h.block k hk (by simp)⟩
/-- where List's loop stands -/
def LRel (w : World) (b n : Nat) (D : DU) (f : ByteArray → Option Int) (wr : World) : Prop :=
  ∃ (left : Lit → Bool) (cnt : Nat) (l : Prs) (v : Value), wr.ranges Tryz.prog 9 (plainElem Tryz.prog 3) b (w.heap.size + 1) n D left cnt ∧ Gath f left l ∧ l.length + cnt ≤ n ∧
    wr.heap[w.heap.size]? = some (.cells #[v] 26 (0, 0)) ∧ wr.ownsRow (w.heap.size + 2) 55 2 v l.length (cP l) ∧ Ext w wr
set_option maxRecDepth 10000 in
set_option maxHeartbeats 1000000 in
theorem rlist_any (b n : Nat) (D : DU) (f : ByteArray → Option Int) (w : World) (hown : w.ownsMap Tryz.prog 9 (plainElem Tryz.prog 3) b n D) (hF : MapF kS okS dI D f) (hn : n ≤ 100000000) :
    Calls Tryz.prog 16 #[.map (some b)] w fun e w' => ∃ v' l, e = .returned v' ∧ srtP l ∧ nzP l ∧ (∀ k, valP l k = (f k).getD 0) ∧ l.length ≤ n ∧ w'.ownsRow w.heap.size 55 2 v' l.length (cP l) ∧ Ext w w' := by
  have hsz := own_size hown
  have hbl := hown.lt
  have b0 := heap_alloc_new w (.cells #[.slice none 0 0] 26)
  have E0 := (Ext.refl w).alloc (.cells #[.slice none 0 0] 26)
  have hown0 := ownsMap_ext hown E0
  go_enter Tryz.func16, Tryz.ntmps16
  go_wp2_with (first
    | (at_range; refine wpList_range_own _ rfl _ 38 rfl 9 3 lawS Tryz.underlying38 _ b n _ rfl hown0 ?_; intro w0 hrg0 hg0 hs0; simp only [World.size_alloc] at hrg0 ⊢)
    | go_in)
  go_frame
  have E1 := E0.trans (ext_of_grown hg0)
  go_loopw [4, 5] (fun _ _ wr => LRel w b n D f wr) (fun _ _ wr => wr.rangeLeft b (w.heap.size + 1))
  case atStart =>
    refine ⟨_, _, [], .slice none 0 0, by simpa using hrg0, gath_start hF, by simpa using hsz, grown_heap hg0 b0 (by simp), World.ownsRow_nil _ _ _ _, E1⟩
  case round =>
    obtain ⟨left, cnt, l, v, hrg, hG, hlc, hbx, ho, E⟩ := hrel
    go_wp2_with (first
      | (at_next; refine wpList_next_si _ rfl _ rfl 9 3 lawS Tryz.underlying9 Tryz.underlying3 b (w.heap.size + 1) n D f hF _ _ rfl hrg ?_ ?_)
      | go_in)
    · intro hl0
      obtain ⟨ao, co, rfl⟩ := own_form ho
      have c1 := cell_of_one hbx
      have hne : (Value.slice ao l.length co).ownBlock ≠ some w.heap.size := fun e => by have := own_ge ho _ e; omega
      go_wp2_with fail
      refine (sortP_any (w.heap.size + 2) co w.heap.size ao l _ ho (by omega) c1 hne).mono ?_
      rintro e w2 ⟨rfl, l', hl', hp, hs, ho2, hg2⟩
      have hb2 := grown_heap hg2 hbx hne
      have c2 := cell_of_one hb2
      have hge := own_ge ho
      have E2 : Ext w w2 := E.grown hg2 (fun k hk => by have := hge k hk; omega)
      obtain ⟨r1, r2, r3⟩ := gath_end hG hl0 hp hs hF.2.1
      go_wp2
      go_ret
      exact ⟨_, l', rfl, r1, r2, r3, by omega, by rw [hl']; exact own_base ho2 (by omega), E2⟩
    · intro x c w1 cnt1 hwx hwc hlx hfx hrg1 hlt hg1 hs1 hen
      have hge := own_ge ho
      have E1' : Ext w w1 := E.grown hg1 (fun k hk => by injection hk with hk; omega)
      have hb1 := grown_heap hg1 hbx (by simp)
      have hne : v.ownBlock ≠ some (w.heap.size + 1) := fun e => by have := hge _ e; omega
      have ho1 := grown_own hg1 ho (.inr hne)
      by_cases hc : c = 0
      · subst hc
        have hG' := gath_drop hG hwx hlx hfx
        have HG := hid hG'
        clear hG hG'
        go_wp2
        go_roundw
        case rel => exact ⟨_, cnt1, l, v, hrg1, HG.out, by omega, hb1, ho1, E1'⟩
        case measure => rw [hrg1.left_eq, hrg.left_eq]; exact hlt
      · have hG' := gath_keep hG hwx hlx hfx hc
        have hc' : (c != 0) = true := by simp [hc]
        have HG := hid hG'
        clear hG hG' hc
        obtain ⟨ao, co, rfl⟩ := own_form ho
        have c1 := cell_of_one hb1
        have f1 := free_of_one hb1
        have hb1a := ((Ext.refl w1).alloc (.cells #[.string x, .int .i64 c] 55)).heap hb1
        have bn := heap_alloc_new w1 (.cells #[.string x, .int .i64 c] 55)
        have hsv : Seg (w1.alloc (.cells #[.string x, .int .i64 c] 55)) (.slice (some ⟨w1.heap.size, 0, none⟩) 1 1) 2 1 [.string x, .int .i64 c] :=
          ⟨rfl, _, _, rfl, Nat.le_refl _, by simp [maxLen], fun _ => ⟨w1.heap.size, 0, rfl, fun j u hu => by have := seg_vb bn j u hu; rwa [addr_add] at this⟩⟩
        have hrg1a := hrg1.alloc (.cells #[.string x, .int .i64 c] 55)
        have E1a := E1'.alloc (.cells #[.string x, .int .i64 c] 55)
        have hB : w.heap.size + 2 ≤ (w1.alloc (.cells #[.string x, .int .i64 c] 55)).heap.size := by have := hrg1.lt; simp; omega
        have hne2 : (Value.slice ao l.length co).ownBlock ≠ some w.heap.size := fun e => by have := hge _ e; omega
        have hne3 : (Value.slice ao l.length co).ownBlock ≠ some b := fun e => by have := hge _ e; omega
        clear bn hs1
        go_wp2_with (first | (at_builtin; refine (wpList_app rfl _ _ 26 rfl (w.heap.size + 2) 55 (.agg #[.string ⟨#[]⟩, .int .i64 0]) 2 24 Tryz.underlying26 infoP rfl (by decide) _ l.length (cP l) rfl (ho1.alloc _) (.slice (some ⟨w1.heap.size, 0, none⟩) 1 1) 1 [.string x, .int .i64 c] rfl hsv (kv_one _ _) (by omega) (by unfold maxLen; omega) hB ?_); intro v' w4 ho' hg; obtain ⟨a4, c4', rfl⟩ := own_form ho'; have hb4 := grown_heap hg hb1a hne2; have c4 := cell_of_one hb4; have f4 := free_of_one hb4))
        go_roundw
        case rel =>
          have hrg4 := hrg1a.kept hg (fun e => hne3 e.symm) (fun e => hne e.symm)
          have hrg5 := hrg4.kept (set_grown w4 ⟨w.heap.size, 0, none⟩ (.slice a4 (l.length + 1) c4')) (by simp; omega) (by simp)
          have E4 : Ext w w4 := E1a.grown hg (fun k hk => by have := hge k hk; omega)
          refine ⟨_, cnt1, l ++ [(x, c)], _, hrg5, HG.out, by simp; omega, one_setCell hb4, ?_, E4.setCell (Nat.le_refl _) _⟩
          have := own_set_far ho' (p := ⟨w.heap.size, 0, none⟩) (u := .slice a4 (l.length + 1) c4') (by simp)
          rw [List.length_append, cP_app, cP_one1]
          exact this
        case measure =>
          have hrg4 := hrg1a.kept hg (fun e => hne3 e.symm) (fun e => hne e.symm)
          have hrg5 := hrg4.kept (set_grown w4 ⟨w.heap.size, 0, none⟩ (.slice a4 (l.length + 1) c4')) (by simp; omega) (by simp)
          rw [hrg5.left_eq, hrg.left_eq]; exact hlt
end Go.Proofs.YtimchedebcoohaaGreatDoor

/- Contracts and lemmas for the proofs of this seat; each theorem states its own conditions. -/
namespace Go.Proofs.YtimchedebcoohaaGreatDoor
open Go.RowKit
/-! plain laws of Join, Scan, Total -/
def joinP (a b : Prs) : Prs := b.foldl (fun o p => withP o p.1 p.2) a
theorem join_nil (a : Prs) : joinP a [] = a := rfl
theorem join_cons (a : Prs) (p : ByteArray × Int) (b : Prs) : joinP a (p :: b) = joinP (withP a p.1 p.2) b := rfl
theorem join_snoc (a b : Prs) (p : ByteArray × Int) : joinP a (b ++ [p]) = withP (joinP a b) p.1 p.2 := by simp [joinP, List.foldl_append]
theorem join_step {a b : Prs} {k : Nat} (hk : k < b.length) : joinP a (b.take (k + 1)) = withP (joinP a (b.take k)) b[k].1 b[k].2 := by
  rw [List.take_succ_eq_append_getElem hk, join_snoc]
theorem join_len (a b : Prs) : (joinP a b).length ≤ a.length + b.length := by
  induction b generalizing a with
  | nil => simp [join_nil]
  | cons p b ih =>
    have := ih (withP a p.1 p.2)
    have := with_len a p.1 p.2
    rw [join_cons, List.length_cons]; omega
theorem join_srt {a : Prs} (b : Prs) (h : srtP a) : srtP (joinP a b) := by
  induction b generalizing a with
  | nil => exact h
  | cons p b ih => exact ih (srt_with h _ _)
theorem join_okS {a b : Prs} (h : StoreOk a) (hb : StoreOk b) : StoreOk (joinP a b) := by
  have : ∀ l : Prs, (∀ p ∈ l, keyB p.1 = true ∧ -1000000000 ≤ p.2 ∧ p.2 ≤ 1000000000) → ∀ a, StoreOk a → StoreOk (joinP a l) := by
    intro l
    induction l with
    | nil => intro _ a h; exact h
    | cons p l ih =>
      intro hl a h
      have hp := hl p (by simp)
      exact ih (fun q hq => hl q (by simp [hq])) _ (storeOk_with h hp.1 hp.2)
  exact this b (fun p hp => ⟨hb.key p hp, (hb.val p hp).2⟩) a h
theorem val_join {a b : Prs} (ha : srtP a) (hb : srtP b) (hz : nzP b) (k : ByteArray) : valP (joinP a b) k = if valP b k ≠ 0 then valP b k else valP a k := by
  induction b generalizing a with
  | nil => simp [join_nil, valP]
  | cons p b ih =>
    obtain ⟨h1, h2⟩ := srtP_cons.1 hb
    rw [join_cons, ih (srt_with ha _ _) h2 (fun q hq => hz q (by simp [hq])), val_with ha, valP]
    by_cases e : p.1 = k
    · subst e
      rw [valP_lt h1, if_neg (by simp), if_pos rfl, if_pos rfl, if_pos (hz p (by simp))]
    · rw [if_neg e, if_neg e]
/-- no key of b is in a -/
def apartB (a b : Prs) : Bool := b.all fun p => decide (valP a p.1 = 0)
theorem apart_val {a b : Prs} (h : apartB a b = true) {k : ByteArray} (hk : valP b k ≠ 0) : valP a k = 0 := by
  unfold apartB at h
  rw [List.all_eq_true] at h
  simpa using h _ (valP_ne hk)
theorem apart_of {a b : Prs} (hb : srtP b) (hz : nzP b) (h : ∀ k, valP b k ≠ 0 → valP a k = 0) : apartB a b = true := by
  unfold apartB
  rw [List.all_eq_true]
  intro p hp
  simpa using h p.1 (by rw [valP_mem hb hp]; exact hz p hp)
theorem apart_symm {a b : Prs} (ha : srtP a) (za : nzP a) (h : apartB a b = true) : apartB b a = true :=
  apart_of ha za fun k hk => by
    by_cases e : valP b k = 0
    · exact e
    · exact absurd (apart_val h e) hk
theorem join_comm {a b : Prs} (ha : StoreOk a) (hb : StoreOk b) (h : apartB a b = true) : joinP a b = joinP b a := by
  refine store_ext (join_okS ha hb) (join_okS hb ha) fun k => ?_
  rw [val_join ha.srt hb.srt hb.nz, val_join hb.srt ha.srt ha.nz]
  by_cases e : valP b k = 0
  · by_cases e' : valP a k = 0
    · simp [e, e']
    · simp [e, e']
  · have := apart_val h e
    simp [e, this]
theorem tot_with {l : Prs} {k : ByteArray} {n : Int} (hs : srtP l) (h : valP l k = 0) (hz : nzP l) : totTo (withP l k n) = totTo l + n := by
  induction l with
  | nil => simp only [withP]; split <;> simp [totTo, *]
  | cons p l ih =>
    obtain ⟨h1, h2⟩ := srtP_cons.1 hs
    have hpk : p.1 ≠ k := by
      rintro rfl
      rw [valP, if_pos rfl] at h
      exact hz p (by simp) h
    have h' : valP l k = 0 := by rw [valP, if_neg hpk] at h; exact h
    simp only [withP]
    split
    · simp only [totTo, ih h2 h' (fun q hq => hz q (by simp [hq]))]; omega
    · try rw [if_neg hpk]
      split
      · rename_i e; subst e; omega
      · simp only [totTo]; omega
theorem tot_join {a b : Prs} (ha : StoreOk a) (hb : StoreOk b) (h : apartB a b = true) : totTo (joinP a b) = totTo a + totTo b := by
  have : ∀ l : Prs, srtP l → nzP l → (∀ p ∈ l, keyB p.1 = true ∧ -1000000000 ≤ p.2 ∧ p.2 ≤ 1000000000) → ∀ a, StoreOk a → apartB a l = true → totTo (joinP a l) = totTo a + totTo l := by
    intro l
    induction l with
    | nil => intro _ _ _ a _ _; simp [join_nil, totTo]
    | cons p l ih =>
      intro hs hz hl a h ap
      obtain ⟨h1, h2⟩ := srtP_cons.1 hs
      have hp := hl p (by simp)
      have hp0 : valP a p.1 = 0 := by
        unfold apartB at ap; rw [List.all_eq_true] at ap; simpa using ap p (by simp)
      rw [join_cons, ih h2 (fun q hq => hz q (by simp [hq])) (fun q hq => hl q (by simp [hq])) _ (storeOk_with h hp.1 hp.2), tot_with h.srt hp0 h.nz, totTo]
      · omega
      · unfold apartB at ap ⊢
        rw [List.all_eq_true] at ap ⊢
        intro q hq
        rw [val_with h.srt, if_neg (blt_ne (h1 q hq))]
        exact ap q (by simp [hq])
  exact this b hb.srt hb.nz (fun p hp => ⟨hb.key p hp, (hb.val p hp).2⟩) a ha h
theorem scan_ok' {l : Prs} (h : StoreOk l) (f t : ByteArray) : StoreOk (scanP l f t) := storeOk_filter h _
theorem val_scan {l : Prs} (h : srtP l) (f t k : ByteArray) : valP (scanP l f t) k = if inB f t (k, valP l k) then valP l k else 0 := val_filter h _ k
/-- what lies ahead of a place, and from there on -/
theorem scan_cut {l : Prs} (h : srtP l) (at_ : ByteArray) (hne : at_.toList ≠ []) : scanP l ⟨#[]⟩ at_ ++ scanP l at_ ⟨#[]⟩ = l := by
  have e1 : ∀ p : ByteArray × Int, inB ⟨#[]⟩ at_ p = blt p.1 at_ := fun p => by
    have e0 : (ByteArray.mk #[]).toList = [] := by rw [toList_data]
    have : blt p.1 ⟨#[]⟩ = false := by unfold blt; rw [e0]; cases p.1.toList <;> rfl
    simp [inB, this, hne]
  have e2 : ∀ p : ByteArray × Int, inB at_ ⟨#[]⟩ p = !blt p.1 at_ := fun p => by
    have e0 : (ByteArray.mk #[]).toList = [] := by rw [toList_data]
    simp [inB, e0]
  unfold scanP
  rw [show inB ⟨#[]⟩ at_ = fun p => blt p.1 at_ from funext e1, show inB at_ ⟨#[]⟩ = fun p => !blt p.1 at_ from funext e2]
  induction l with
  | nil => rfl
  | cons p l ih =>
    obtain ⟨h1, h2⟩ := srtP_cons.1 h
    rw [List.filter_cons, List.filter_cons]
    cases hb : blt p.1 at_ with
    | true => simp; exact ih h2
    | false =>
      have : l.filter (fun p => blt p.1 at_) = [] := by
        rw [List.filter_eq_nil_iff]
        intro q hq hqa
        have := blt_trans (h1 q hq) hqa
        rw [hb] at this; cases this
      have e3 : l.filter (fun p => !blt p.1 at_) = l := by
        rw [List.filter_eq_self]
        intro q hq
        cases hqa : blt q.1 at_ with
        | false => rfl
        | true => have := blt_trans (h1 q hq) hqa; rw [hb] at this; cases this
      simp [this, e3]
theorem hit_val {l : Prs} (hs : srtP l) (hz : nzP l) {k : ByteArray} {i : Nat} (hc : cutAt (bltAt (keysP l) k) l.length i) : hitS (keysP l) k i = decide (valP l k ≠ 0) := by
  have hv := val_cut hs hc
  cases hh : hitS (keysP l) k i with
  | true =>
    have hi := hit_lt hh
    rw [keysP_len] at hi
    rw [dif_pos hi, if_pos hh] at hv
    rw [hv]
    exact (decide_eq_true (hz _ (List.getElem_mem hi))).symm
  | false =>
    rw [hh] at hv
    simp at hv
    simp [hv]
theorem keyB_size {k : ByteArray} (h : keyB k = true) : k.size ≤ 6 := by
  simp [keyB] at h; exact h.1.2
theorem store_small {l : Prs} (h : StoreOk l) : ∀ p ∈ l, p.1.size ≤ 9223372036854775807 := fun p hp => by have := keyB_size (h.key p hp); omega
end Go.Proofs.YtimchedebcoohaaGreatDoor

/- Contracts and lemmas for the proofs of this seat; each theorem states its own conditions. -/
namespace Go.Proofs.YtimchedebcoohaaGreatDoor
open Go.RowKit Go.Maps
/-! the document's Value, Store, Of -/
theorem rvalue_any (n : Int) (w : World) : Calls Tryz.prog 37 #[.int .i64 n] w fun e w' => e = .returned (.bool (valB n)) ∧ w' = w := by
  have WI := hid (rwithin_any n (-1000000000) 1000000000 w)
  have hv : (decide (-1000000000 ≤ n) && decide (n ≤ 1000000000)) = valB n := by rw [Bool.eq_iff_iff]; simp [valB]
  rw [hv] at WI
  have WI2 := hid WI.out
  clear WI hv
  go_enter Tryz.func37, Tryz.ntmps37
  go_wp2_with fail
  refine (WI2.out).mono ?_
  rintro e w' ⟨rfl, rfl⟩
  go_wp2
  go_ret
  exact ⟨rfl, rfl⟩
/-- what Of's map holds after k pairs -/
def ofF (l : Prs) : Nat → ByteArray → Option Int
  | 0 => fun _ => none
  | k + 1 => fun x => if x = (l.getD k (⟨#[]⟩, 0)).1 then some (l.getD k (⟨#[]⟩, 0)).2 else ofF l k x
theorem ofF_step (l : Prs) {k : Nat} (h : k < l.length) : ofF l (k + 1) = fun x => if x = l[k].1 then some l[k].2 else ofF l k x := by
  rw [ofF, show l.getD k (⟨#[]⟩, 0) = l[k] by simp [h]]
def PrsW (l : Prs) : Prop := ∀ p ∈ l, p.1.size ≤ maxLen ∧ -9223372036854775808 ≤ p.2 ∧ p.2 ≤ 9223372036854775807
def ORel (w : World) (l : Prs) (k : Nat) (wr : World) : Prop :=
  ∃ (D : DU), wr.ownsMap Tryz.prog 9 (plainElem Tryz.prog 3) w.heap.size k D ∧ MapF kS okS dI D (ofF l k) ∧ Ext w wr
theorem orel_put {w w3 : World} {l : Prs} {k : Nat} {D : DU} {key : ByteArray} {c : Int} (hF : MapF kS okS dI D (ofF l k)) (hst : ofF l (k + 1) = fun x => if x = key then some c else ofF l k x) (hk : key.size ≤ maxLen)
    (hown : w3.ownsMap Tryz.prog 9 (plainElem Tryz.prog 3) w.heap.size (k + 1) (D.put (kS key) (dI c))) (E : Ext w w3) : ORel w l (k + 1) w3 :=
  ⟨_, hown, by rw [hst]; exact hF.put kS_inj kS_is hk c, E⟩
set_option maxRecDepth 10000 in
set_option maxHeartbeats 1000000 in
theorem rof_any (v : Value) (l : Prs) (w : World) (hv : Seg w v 2 l.length (cP l)) (hw : PrsW l) (hlen : l.length ≤ 1000000) :
    Calls Tryz.prog 8 #[v] w fun e w' => ∃ b D, e = .returned (.map (some b)) ∧ b = w.heap.size ∧ w'.ownsMap Tryz.prog 9 (plainElem Tryz.prog 3) b l.length D ∧ MapF kS okS dI D (ofF l l.length) ∧ Ext w w' := by
  obtain ⟨a, c, rfl⟩ := seg_form hv
  have HV := hid hv
  clear hv
  have hmm := @run_makeMap Tryz.prog
  have b0 := World.ownsMap_made w Tryz.prog 9 (plainElem (H := Unit) Tryz.prog 3)
  have E0 := (Ext.refl w).alloc (.map #[] 0)
  go_enter Tryz.func8, Tryz.ntmps8
  go_wp2
  go_loopw [5, 9] (fun _ i wr => ∃ k : Nat, k ≤ l.length ∧ i = .int .i64 k ∧ ORel w l k wr) (fun _ i _ => l.length - (intOf i).toNat)
  case atStart => exact ⟨0, Nat.zero_le _, rfl, _, b0, MapF.empty, E0⟩
  case round =>
    clear b0 E0 hmm
    obtain ⟨k, hk, rfl, D, hown, hF, E⟩ := hrel
    by_cases hlt : k < l.length
    · obtain ⟨b, off, rfl, _, m1, m2, hc⟩ := seg_cells HV.out (by omega)
      unfold maxLen at m2
      have cc := seg_pair hc hlt
      have c0 := E.cell cc.1
      have c1 := E.cell cc.2
      obtain ⟨w1, w2, w3⟩ := hw _ (List.getElem_mem hlt)
      have hst := ofF_step l hlt
      generalize l[k] = p at c0 c1 w1 w2 w3 hst
      obtain ⟨key, z⟩ := p
      dsimp only at c0 c1 w1 w2 w3 hst
      have HST := hid hst
      clear hst hc cc
      have EA := (Ext.refl wr).alloc (.cells #[.string key, .int .i64 z] 55)
      have xb := blk2 (heap_alloc_new wr (.cells #[.string key, .int .i64 z] 55))
      have hown1 := ownsMap_ext hown EA
      have hwf : (Lit.int .i64 z).wf = true := WalkArith.wf_i64 (by omega)
      have hkey := WideMaps.keyOf_string_mk Tryz.underlying9 (P := Tryz.prog) (k := 9) (s := key) w1
      clear hown
      go_wp2_with (first
        | (at_mapUpdate; refine wpList_mapUpdate_own _ rfl _ _ _ 38 rfl 9 3 lawS Tryz.underlying38 _ w.heap.size k D rfl hown1 (by unfold maxLen; omega) _ _ (kS key) rfl rfl hkey (dI z) [] (plainElem_int Tryz.underlying3 hwf) ?_; intro w3 hown3 hg3))
      go_roundw
      case rel => exact ⟨k + 1, by omega, by go_num, orel_put hF HST.out w1 hown3 ((E.trans EA).grown hg3 (fun j hj => by injection hj with hj; omega))⟩
      case measure => simp [intOf] <;> omega
    · obtain rfl : k = l.length := by omega
      go_wp2
      go_ret
      exact ⟨_, D, rfl, rfl, hown, hF, E⟩
end Go.Proofs.YtimchedebcoohaaGreatDoor

/- Contracts and lemmas for the proofs of this seat; each theorem states its own conditions. -/
namespace Go.Proofs.YtimchedebcoohaaGreatDoor
open Go.RowKit Go.Deep
/-! what a row tells of a slice of pairs -/
theorem bulk_one {H : Type} (d : DataW H) : 1 ≤ Rows.uptoBulk d := by
  cases d with
  | lit l => cases l <;> simp [Rows.uptoBulk]
  | nil => simp [Rows.uptoBulk]
  | ptr d => simp [Rows.uptoBulk]
  | slice elems spare => simp [Rows.uptoBulk]
  | agg parts => simp [Rows.uptoBulk]
  | iface t d => simp [Rows.uptoBulk]
  | map entries => simp [Rows.uptoBulk]
  | held h => simp [Rows.uptoBulk]
theorem bulk_map {H : Type} {α : Type} {c : Nat} {f : α → DataW H} : ∀ {l : List α}, (∀ a ∈ l, c ≤ Rows.uptoBulk (f a)) → c * l.length ≤ Rows.uptoBulkAll (l.map f)
  | [], _ => by simp [Rows.uptoBulkAll]
  | a :: l, h => by
    have h1 := h a (by simp)
    have h2 := bulk_map (l := l) fun b hb => h b (by simp [hb])
    simp only [List.map_cons, Rows.uptoBulkAll, List.length_cons, Nat.mul_succ]
    omega
theorem pick_fun {α : Type} [Inhabited α] {p : Nat → α → Prop} {n : Nat} (h : ∀ i, i < n → ∃ a, p i a) : ∃ f : Nat → α, ∀ i, i < n → p i (f i) :=
  ⟨fun i => if hi : i < n then Classical.choose (h i hi) else default, fun i hi => by simp only [hi, dif_pos]; exact Classical.choose_spec (h i hi)⟩
theorem segP_of_trod {H : Type} {enc : TypeId × Value → H} {W : World} {base : Nat} {held : Bool} {fuel : Nat} {a : Option Addr} {len cap : Nat} {x : DataW H × List MemPlace}
    (h : DataW.trod enc Tryz.prog W base (fun _ => true) held fuel 26 [.slice a len cap] = some x) :
    ∃ l : Prs, Seg W (.slice a len cap) 2 l.length (cP l) ∧ PrsW l ∧ 3 * l.length + 1 ≤ Rows.uptoBulk x.1 := by
  rcases open_slice_pairs Tryz.underlying26 Tryz.underlying55 (by kernel_rfl) rfl rfl (by kernel_rfl) (by kernel_rfl) h with ⟨hcs, rfl⟩ | ⟨ad, len', cap', m, n, V0, V1, D0, D1, P0, P1, hcs, _, hl, hm, hmm, rfl, hx⟩
  · injection hcs with hcs _
    injection hcs with e1 e2 e3
    subst e1; subst e2; subst e3
    exact ⟨[], Seg.nil _ _, by simp [PrsW], by simp [Rows.uptoBulk]⟩
  · injection hcs with hcs _
    injection hcs with e1 e2 e3
    subst e1; subst e2; subst e3
    simp only [if_true] at hmm
    obtain ⟨f, hf⟩ := pick_fun (α := ByteArray × Int) (n := len) (p := fun i p => W.cell? (ad.add (i * 2)) = some (.string p.1) ∧ W.cell? (ad.add (i * 2 + 1)) = some (.int .i64 p.2) ∧ p.1.size ≤ maxLen ∧ (Lit.int .i64 p.2).wf = true) (fun i hi => by
      obtain ⟨h1, h2, h3, h4⟩ := hx i (by omega)
      obtain ⟨s, q1, _, q3⟩ := DataW.trod_string Tryz.underlying9 h3
      obtain ⟨z, r1, _, r3⟩ := DataW.trod_int Tryz.underlying3 h4
      injection q1 with q1 _
      injection r1 with r1 _
      exact ⟨(s, z), by rw [h1, q1], by rw [h2, r1], q3, r3⟩)
    refine ⟨(List.range len).map f, ⟨by rw [cP_len], some ad, cap, by simp, by simpa using hl, hm, fun hn => ?_⟩, ?_, ?_⟩
    · simp at hn
      have hs := cell_spot (hf 0 (by omega)).1
      obtain ⟨b, off, sp⟩ := ad
      have : sp = none := by simpa [Addr.add] using hs
      subst this
      refine ⟨b, off, rfl, fun j u hu => ?_⟩
      have hj := (List.getElem?_eq_some_iff.1 hu).1
      rw [cP_len] at hj
      simp at hj
      have hk : j / 2 < ((List.range len).map f).length := by simp; omega
      have ek : ((List.range len).map f)[j / 2] = f (j / 2) := by simp
      obtain ⟨g1, g2, _, _⟩ := hf (j / 2) (by omega)
      rw [addr_add] at g1 g2
      rcases Nat.mod_two_eq_zero_or_one j with e | e
      · have hj2 : j = j / 2 * 2 := by omega
        have c := cP_at0 _ _ hk
        rw [← hj2, hu, ek] at c
        injection c with c
        rw [c, ← g1, ← hj2]
      · have hj2 : j = j / 2 * 2 + 1 := by omega
        have c := cP_at1 _ _ hk
        rw [← hj2, hu, ek] at c
        injection c with c
        rw [c, ← g2, ← hj2]
    · intro p hp
      simp at hp
      obtain ⟨i, hi, rfl⟩ := hp
      obtain ⟨_, _, q1, q2⟩ := hf i hi
      have := bounds_i64 q2
      exact ⟨q1, this.1, this.2⟩
    · have hb := bulk_map (c := 3) (f := fun i => DataW.agg [D0 i, D1 i]) (l := List.range len) (fun i _ => by
        have h1 := bulk_one (D0 i)
        have h2 := bulk_one (D1 i)
        simp only [Rows.uptoBulk, Rows.uptoBulkAll]; omega)
      simp only [List.length_range] at hb
      simp only [List.length_map, List.length_range, Rows.uptoBulk]
      omega
end Go.Proofs.YtimchedebcoohaaGreatDoor
