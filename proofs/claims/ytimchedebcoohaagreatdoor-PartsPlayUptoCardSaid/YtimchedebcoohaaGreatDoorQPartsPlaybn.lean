/- Contracts and lemmas for the proof of PartsPlay; each theorem states its own conditions. -/
import Derived.Test.YtimchedebcoohaaGreatDoorQPartsPlayad
import Derived.Test.YtimchedebcoohaaGreatDoorQPartsPlayaj
import Derived.Test.YtimchedebcoohaaGreatDoorQPartsPlayaz
set_option linter.unusedVariables false
set_option linter.unusedSimpArgs false
/- Contracts and lemmas for the proofs of this seat; each theorem states its own conditions. -/
namespace Go.Proofs.YtimchedebcoohaaGreatDoor
open Go.RowKit

structure TP (w1 : World) (bx : Nat) (v1 v2 : Value) (C : List ByteArray) (O : List Int) (y1 : ByteArray) (y2 : Int) (L : Nat → Bool) (x : Nat → Value) (w' : World) : Prop where
  ext : Ext w1 w'
  new : w1.heap.size ≤ bx
  box : w'.heap[bx]? = some (.cells #[if L 11 then x 4 else v1, if L 13 then x 9 else v2] 25 (0, 0))
  na : L 3 = true → L 4 = false → ∃ b, x 3 = .slice (some ⟨b, 0, none⟩) 1 1 ∧ w'.heap[b]? = some (.cells #[.string y1] 9 (0, 0))
  oa : L 4 = false → w'.ownsRow w1.heap.size 9 1 v1 C.length (cS C)
  oa' : L 4 = true → (∃ a c, x 4 = .slice a (C.length + 1) c) ∧ w'.ownsRow w1.heap.size 9 1 (x 4) (C.length + 1) (cS C ++ [.string y1])
  nb : L 8 = true → L 9 = false → ∃ b, x 8 = .slice (some ⟨b, 0, none⟩) 1 1 ∧ w'.heap[b]? = some (.cells #[.int .i64 y2] 3 (0, 0)) ∧ (L 4 = false → v1.ownBlock ≠ some b) ∧ v2.ownBlock ≠ some b
  ob : L 9 = false → w'.ownsRow w1.heap.size 3 1 v2 O.length (cI O)
  ob' : L 9 = true → (∃ a c, x 9 = .slice a (O.length + 1) c) ∧ w'.ownsRow w1.heap.size 3 1 (x 9) (O.length + 1) (cI O ++ [.int .i64 y2])
theorem TP.big {w1 w' : World} {bx : Nat} {v1 v2 : Value} {C : List ByteArray} {O : List Int} {y1 : ByteArray} {y2 : Int} {L : Nat → Bool} {x : Nat → Value} (h : TP w1 bx v1 v2 C O y1 y2 L x w') : w1.heap.size ≤ w'.heap.size := h.ext.size'
theorem TP.quiet {w1 w' : World} {bx : Nat} {v1 v2 : Value} {C : List ByteArray} {O : List Int} {y1 : ByteArray} {y2 : Int} {L : Nat → Bool} {x : Nat → Value} (h : TP w1 bx v1 v2 C O y1 y2 L x w') (i : Nat) (v : Value)
    (hi : i ≠ 3 ∧ i ≠ 4 ∧ i ≠ 8 ∧ i ≠ 9 ∧ i ≠ 11 ∧ i ≠ 13) : TP w1 bx v1 v2 C O y1 y2 (upd L i true) (upd x i v) w' := by
  obtain ⟨hia, hja, hib, hjb, hsa, hsb⟩ := hi
  have e (j : Nat) (hj : i ≠ j) : upd L i true j = L j := upd_ne _ _ (Ne.symm hj)
  have e' (j : Nat) (hj : i ≠ j) : upd x i v j = x j := upd_ne _ _ (Ne.symm hj)
  refine ⟨h.ext, h.new, ?_, ?_, ?_, ?_, ?_, ?_, ?_⟩
  · rw [e _ hsa, e _ hsb, e' _ hja, e' _ hjb]; exact h.box
  · rw [e _ hia, e' _ hia, e _ hja]; exact h.na
  · rw [e _ hja]; exact h.oa
  · rw [e _ hja, e' _ hja]; exact h.oa'
  · rw [e _ hib, e' _ hib, e _ hjb, e _ hja]; exact h.nb
  · rw [e _ hjb]; exact h.ob
  · rw [e _ hjb, e' _ hjb]; exact h.ob'
theorem TP.box0 {w1 w' : World} {bx : Nat} {v1 v2 : Value} {C : List ByteArray} {O : List Int} {y1 : ByteArray} {y2 : Int} {L : Nat → Bool} {x : Nat → Value} (h : TP w1 bx v1 v2 C O y1 y2 L x w') (hsa : L 11 = false) (hsb : L 13 = false) : w'.heap[bx]? = some (.cells #[v1, v2] 25 (0, 0)) := by
  have := h.box; rw [hsa, hsb] at this; simpa using this
theorem TP.box1 {w1 w' : World} {bx : Nat} {v1 v2 : Value} {C : List ByteArray} {O : List Int} {y1 : ByteArray} {y2 : Int} {L : Nat → Bool} {x : Nat → Value} (h : TP w1 bx v1 v2 C O y1 y2 L x w') (hsa : L 11 = true) (hsb : L 13 = false) : w'.heap[bx]? = some (.cells #[x 4, v2] 25 (0, 0)) := by
  have := h.box; rw [hsa, hsb] at this; simpa using this
theorem TP.bsA {w1 w' : World} {bx : Nat} {v1 v2 : Value} {C : List ByteArray} {O : List Int} {y1 : ByteArray} {y2 : Int} {L : Nat → Bool} {x : Nat → Value} (h : TP w1 bx v1 v2 C O y1 y2 L x w') : TP w1 bx v1 v2 C O y1 y2 (upd L 3 true) (upd x 3 (.slice (some ⟨w'.heap.size, 0, none⟩) 1 1)) (w'.alloc (.cells #[.string y1] 9)) := by
  have k := (Ext.refl w').alloc (.cells #[.string y1] 9)
  refine ⟨h.ext.trans k, h.new, k.heap h.box, fun _ _ => ⟨_, rfl, heap_alloc_new _ _⟩, fun q => (h.oa q).alloc _, fun q => ⟨(h.oa' q).1, (h.oa' q).2.alloc _⟩, fun q q' => ?_, fun q => (h.ob q).alloc _, fun q => ⟨(h.ob' q).1, (h.ob' q).2.alloc _⟩⟩
  obtain ⟨b, q1, q2, q3, q4⟩ := h.nb q q'
  exact ⟨b, q1, k.heap q2, q3, q4⟩
theorem TP.bsB {w1 w' : World} {bx : Nat} {v1 v2 : Value} {C : List ByteArray} {O : List Int} {y1 : ByteArray} {y2 : Int} {L : Nat → Bool} {x : Nat → Value} (h : TP w1 bx v1 v2 C O y1 y2 L x w') (hjb : L 9 = false) : TP w1 bx v1 v2 C O y1 y2 (upd L 8 true) (upd x 8 (.slice (some ⟨w'.heap.size, 0, none⟩) 1 1)) (w'.alloc (.cells #[.int .i64 y2] 3)) := by
  have k := (Ext.refl w').alloc (.cells #[.int .i64 y2] 3)
  refine ⟨h.ext.trans k, h.new, k.heap h.box, fun q q' => ?_, fun q => (h.oa q).alloc _, fun q => ⟨(h.oa' q).1, (h.oa' q).2.alloc _⟩, fun _ _ => ⟨_, rfl, heap_alloc_new _ _, fun q e => ?_, fun e => ?_⟩, fun q => (h.ob q).alloc _, fun q => ⟨(h.ob' q).1, (h.ob' q).2.alloc _⟩⟩
  · obtain ⟨b, q1, q2⟩ := h.na q q'
    exact ⟨b, q1, k.heap q2⟩
  · have := ((h.oa q).lt _ e).2; omega
  · have := ((h.ob hjb).lt _ e).2; omega
theorem TP.apA {w1 w' : World} {bx : Nat} {v1 v2 : Value} {C : List ByteArray} {O : List Int} {y1 : ByteArray} {y2 : Int} {L : Nat → Bool} {x : Nat → Value} {w2 : World} {v' : Value} (h : TP w1 bx v1 v2 C O y1 y2 L x w') (hja : L 4 = false) (hjb : L 9 = false) (hsa : L 11 = false) (hsb : L 13 = false)
    (ho : w2.ownsRow w1.heap.size 9 1 v' (C.length + 1) (cS C ++ [.string y1])) (hg : w'.grownBy w2 v1.ownBlock) : TP w1 bx v1 v2 C O y1 y2 (upd L 4 true) (upd x 4 v') w2 := by
  have o1 := h.oa hja
  refine ⟨h.ext.grown hg (own_ge o1), h.new, ?_, fun _ q => absurd q (by simp [upd]), fun q => absurd q (by simp [upd]), fun _ => ⟨own_form ho, ho⟩, fun q q' => ?_, fun _ => grown_own hg (h.ob hjb) (own_own_ne (h.ob hjb) o1 (by decide)), fun q => absurd q (by simp [upd, hjb])⟩
  · have b := grown_heap hg (h.box0 hsa hsb) (own_ne o1 (h.box0 hsa hsb) (by decide))
    simpa [upd, hsa, hsb] using b
  · obtain ⟨b, q1, q2, q3, q4⟩ := h.nb (by simpa [upd] using q) hjb
    exact ⟨b, by simpa [upd] using q1, grown_heap hg q2 (q3 hja), fun q => absurd q (by simp [upd]), q4⟩
theorem TP.apB {w1 w' : World} {bx : Nat} {v1 v2 : Value} {C : List ByteArray} {O : List Int} {y1 : ByteArray} {y2 : Int} {L : Nat → Bool} {x : Nat → Value} {w2 : World} {v' : Value} (h : TP w1 bx v1 v2 C O y1 y2 L x w') (hja : L 4 = true) (hjb : L 9 = false) (hsa : L 11 = false) (hsb : L 13 = false)
    (ho : w2.ownsRow w1.heap.size 3 1 v' (O.length + 1) (cI O ++ [.int .i64 y2])) (hg : w'.grownBy w2 v2.ownBlock) : TP w1 bx v1 v2 C O y1 y2 (upd L 9 true) (upd x 9 v') w2 := by
  have o1 := h.ob hjb
  refine ⟨h.ext.grown hg (own_ge o1), h.new, ?_, fun _ q => absurd q (by simp [upd, hja]), fun q => absurd q (by simp [upd, hja]), fun _ => ⟨(h.oa' hja).1, grown_own hg (h.oa' hja).2 (own_own_ne (h.oa' hja).2 o1 (by decide))⟩, fun _ q => absurd q (by simp [upd]), fun q => absurd q (by simp [upd]), fun _ => ⟨own_form ho, ho⟩⟩
  have b := grown_heap hg (h.box0 hsa hsb) (own_ne o1 (h.box0 hsa hsb) (by decide))
  simpa [upd, hsa, hsb] using b
theorem TP.stA {w1 w' : World} {bx : Nat} {v1 v2 : Value} {C : List ByteArray} {O : List Int} {y1 : ByteArray} {y2 : Int} {L : Nat → Bool} {x : Nat → Value} (h : TP w1 bx v1 v2 C O y1 y2 L x w') (hja : L 4 = true) (hjb : L 9 = true) (hsa : L 11 = false) (hsb : L 13 = false) (v : Value) :
    TP w1 bx v1 v2 C O y1 y2 (upd L 11 true) (upd x 11 v) (w'.setCell ⟨bx, 0, none⟩ (x 4)) := by
  have b := h.box0 hsa hsb
  refine ⟨h.ext.setCell h.new _, h.new, ?_, fun _ q => absurd q (by simp [upd, hja]), fun q => absurd q (by simp [upd, hja]), fun _ => ⟨(h.oa' hja).1, own_set_other (h.oa' hja).2 (own_ne (h.oa' hja).2 b (by decide)) _⟩, fun _ q => absurd q (by simp [upd, hjb]), fun q => absurd q (by simp [upd, hjb]), fun _ => ⟨(h.ob' hjb).1, own_set_other (h.ob' hjb).2 (own_ne (h.ob' hjb).2 b (by decide)) _⟩⟩
  simp [upd, hsb, World.setCell, Array.getElem?_modify, b]
theorem TP.stB {w1 w' : World} {bx : Nat} {v1 v2 : Value} {C : List ByteArray} {O : List Int} {y1 : ByteArray} {y2 : Int} {L : Nat → Bool} {x : Nat → Value} (h : TP w1 bx v1 v2 C O y1 y2 L x w') (hja : L 4 = true) (hjb : L 9 = true) (hsa : L 11 = true) (hsb : L 13 = false) (v : Value) :
    TP w1 bx v1 v2 C O y1 y2 (upd L 13 true) (upd x 13 v) (w'.setCell ⟨bx, 1, none⟩ (x 9)) := by
  have b := h.box1 hsa hsb
  refine ⟨h.ext.setCell h.new _, h.new, ?_, fun _ q => absurd q (by simp [upd, hja]), fun q => absurd q (by simp [upd, hja]), fun _ => ⟨(h.oa' hja).1, own_set_other (h.oa' hja).2 (own_ne (h.oa' hja).2 b (by decide)) _⟩, fun _ q => absurd q (by simp [upd, hjb]), fun q => absurd q (by simp [upd, hjb]), fun _ => ⟨(h.ob' hjb).1, own_set_other (h.ob' hjb).2 (own_ne (h.ob' hjb).2 b (by decide)) _⟩⟩
  simp [upd, hsa, World.setCell, Array.getElem?_modify, b]

end Go.Proofs.YtimchedebcoohaaGreatDoor

/- Contracts and lemmas for the proofs of this seat; each theorem states its own conditions. -/
namespace Go.Proofs.YtimchedebcoohaaGreatDoor
/-! Plain, in plain lists -/
def lastO (O : List Int) : Int := O.getD (O.length - 1) 0
def pl (C : List ByteArray) (O : List Int) : Nat → List ByteArray × List Int
  | 0 => ([], [O.getD 0 0])
  | k + 1 => if O.getD (k + 1) 0 = lastO (pl C O k).2 then pl C O k else ((pl C O k).1 ++ [kAt C k], (pl C O k).2 ++ [O.getD (k + 1) 0])
theorem pl_len (C : List ByteArray) (O : List Int) : ∀ k, (pl C O k).2.length = (pl C O k).1.length + 1
  | 0 => rfl
  | k + 1 => by have := pl_len C O k; simp only [pl]; split <;> simp [this]
theorem pl_le (C : List ByteArray) (O : List Int) : ∀ k, (pl C O k).1.length ≤ k
  | 0 => by simp [pl]
  | k + 1 => by have := pl_le C O k; simp only [pl]; split <;> simp <;> omega
theorem lastO_snoc (O : List Int) (n : Int) : lastO (O ++ [n]) = n := by simp [lastO]
theorem lastO_single (n : Int) : lastO [n] = n := rfl
theorem pl_last (C : List ByteArray) (O : List Int) : ∀ k, lastO (pl C O k).2 = O.getD k 0
  | 0 => rfl
  | k + 1 => by
    simp only [pl]; split
    · rename_i h; exact h.symm
    · exact lastO_snoc _ _
theorem pl_mem (C : List ByteArray) (O : List Int) : ∀ k, k ≤ C.length → ∀ x ∈ (pl C O k).1, ∃ j, ∃ h : j < C.length, j < k ∧ x = C[j]
  | 0, _, x, hx => by simp [pl] at hx
  | k + 1, hk, x, hx => by
    have ih := pl_mem C O k (by omega)
    simp only [pl] at hx
    split at hx
    · obtain ⟨j, h, h1, h2⟩ := ih x hx; exact ⟨j, h, by omega, h2⟩
    · rw [List.mem_append] at hx
      rcases hx with hx | hx
      · obtain ⟨j, h, h1, h2⟩ := ih x hx; exact ⟨j, h, by omega, h2⟩
      · rw [List.mem_singleton, kAt_eq (by omega)] at hx
        exact ⟨k, by omega, by omega, hx⟩
theorem srt_lt {C : List ByteArray} (hs : srt C) {i j : Nat} (hi : i < C.length) (hj : j < C.length) (h : i < j) : blt C[i] C[j] = true := by
  have := hs i j h hj; rwa [kAt_eq hi, kAt_eq hj] at this
theorem pl_pw (C : List ByteArray) (O : List Int) (hs : srt C) : ∀ k, k ≤ C.length → (pl C O k).1.Pairwise fun a b => blt a b = true
  | 0, _ => by simp [pl]
  | k + 1, hk => by
    have ih := pl_pw C O hs k (by omega)
    simp only [pl]; split
    · exact ih
    · rw [List.pairwise_append]
      refine ⟨ih, by simp, fun a ha b hb => ?_⟩
      rw [List.mem_singleton, kAt_eq (by omega)] at hb
      obtain ⟨j, h, h1, h2⟩ := pl_mem C O k (by omega) a ha
      rw [h2, hb]; exact srt_lt hs _ _ h1
theorem pl_own (C : List ByteArray) (O : List Int) (hO : ∀ n ∈ O, 0 ≤ n ∧ n < 4) : ∀ k, k < O.length → ∀ n ∈ (pl C O k).2, 0 ≤ n ∧ n < 4
  | 0, hk, n, hn => by
    simp only [pl, List.mem_singleton] at hn
    rw [hn]
    have e : O.getD 0 0 = O[0] := by simp [hk]
    rw [e]; exact hO _ (List.getElem_mem hk)
  | k + 1, hk, n, hn => by
    simp only [pl] at hn
    split at hn
    · exact pl_own C O hO k (by omega) n hn
    · rw [List.mem_append] at hn
      rcases hn with hn | hn
      · exact pl_own C O hO k (by omega) n hn
      · rw [List.mem_singleton] at hn
        have e : O.getD (k + 1) 0 = O[k + 1] := by simp [hk]
        rw [hn, e]; exact hO _ (List.getElem_mem hk)
theorem cut_key {C : List ByteArray} (h : allTo (cutOk C) C.length) : ∀ x ∈ C, keyB x = true := by
  intro x hx
  obtain ⟨i, hi, rfl⟩ := List.mem_iff_getElem.1 hx
  have := h i hi
  simp [cutOk, kAt_eq hi] at this
  exact this.1
theorem pl_ok {C : List ByteArray} {O : List Int} (ok : MapOk C O) : MapOk (pl C O C.length).1 (pl C O C.length).2 :=
  ⟨by have := pl_le C O C.length; have := ok.few; omega, pl_len C O C.length,
   cutsOk_of (pl_pw C O ok.srt C.length (Nat.le_refl _)) (fun x hx => by
     obtain ⟨j, h, _, h2⟩ := pl_mem C O C.length (Nat.le_refl _) x hx; rw [h2]; exact cut_key ok.cut _ (List.getElem_mem h)),
   ownsOk_of (pl_own C O (mem_range_of ok.own) C.length (by have := ok.len; omega))⟩
theorem srt_of_pw {C : List ByteArray} (h : C.Pairwise fun a b => blt a b = true) : srt C := fun i j hij hj => by
  have := List.pairwise_iff_getElem.1 h i j (by omega) hj hij
  rwa [kAt_eq hj, kAt_eq (show i < C.length by omega)]
/-- one cut more, behind all -/
theorem whose_snoc {C : List ByteArray} {O : List Int} {c : ByteArray} {n : Int} (hs : srt (C ++ [c])) (hl : O.length = C.length + 1) (key : ByteArray) :
    whose (C ++ [c]) (O ++ [n]) key = if blt key c then whose C O key else n := by
  have hsC : srt C := fun i j hij hj => by
    have := hs i j hij (by simp; omega)
    simpa [kAt, List.getElem?_append_left (show i < C.length by omega), List.getElem?_append_left hj] using this
  have hk : ∀ j, j < C.length → kAt (C ++ [c]) j = kAt C j := fun j hj => by simp [kAt, List.getElem?_append_left hj]
  have hc : kAt (C ++ [c]) C.length = c := by simp [kAt]
  obtain ⟨h1, h2, h3⟩ := plc_cut hsC key
  cases hb : blt key c with
  | true =>
    have : plc (C ++ [c]) key = plc C key := by
      refine idx_spec _ _ _ ⟨by simp; omega, fun j hj => ?_, fun j hj hjn => ?_⟩
      · have := h2 j hj; simp only [leAt] at this ⊢; rw [hk j (by omega)]; exact this
      · rcases Nat.lt_or_ge j C.length with h | h
        · have := h3 j hj h; simp only [leAt] at this ⊢; rw [hk j h]; exact this
        · have : j = C.length := by simp at hjn; omega
          subst this; simp [leAt, hc, hb]
    rw [whose_plc, whose_plc, this, if_pos rfl]
    simp [List.getElem?_append_left (show plc C key < O.length by omega)]
  | false =>
    have : plc (C ++ [c]) key = C.length + 1 := by
      refine idx_spec _ _ _ ⟨by simp, fun j hj => ?_, fun j hj hjn => by simp at hjn; omega⟩
      rcases Nat.lt_or_ge j C.length with h | h
      · have := hs j C.length h (by simp)
        rw [hc] at this
        simp only [leAt, Bool.not_eq_true']
        exact ble_trans (blt_asymm this) hb
      · have : j = C.length := by omega
        subst this; simp [leAt, hc, hb]
    rw [whose_plc, this, if_neg (by simp)]
    simp [hl]
theorem take_snoc' {α : Type} (l : List α) (k : Nat) (h : k < l.length) : l.take (k + 1) = l.take k ++ [l[k]] := List.take_succ_eq_append_getElem h
theorem srt_take {C : List ByteArray} (hs : srt C) (k : Nat) : srt (C.take k) := fun i j hij hj => by
  have hj' : j < C.length := by rw [List.length_take] at hj; omega
  have hjk : j < k := by rw [List.length_take] at hj; omega
  have := hs i j hij hj'
  simpa [kAt, List.getElem?_take, hjk, show i < k by omega] using this
theorem whose_pl {C : List ByteArray} {O : List Int} (hs : srt C) (hl : O.length = C.length + 1) (key : ByteArray) : ∀ k, k ≤ C.length →
    whose (pl C O k).1 (pl C O k).2 key = whose (C.take k) (O.take (k + 1)) key
  | 0, _ => by
    have e : O.take 1 = [O.getD 0 0] := by
      cases O with
      | nil => simp at hl
      | cons a l => rfl
    simp [pl, e]
  | k + 1, hk => by
    have ih := whose_pl hs hl key k (by omega)
    have e1 := take_snoc' C k (by omega)
    have e2 := take_snoc' O (k + 1) (by omega)
    have eO : O.getD (k + 1) 0 = O[k + 1] := by simp [show k + 1 < O.length by omega]
    have hR := whose_snoc (C := C.take k) (O := O.take (k + 1)) (c := C[k]) (n := O[k + 1]) (by rw [← e1]; exact srt_take hs _) (by simp; omega) key
    rw [e1, e2, hR, ← ih]
    simp only [pl]
    split
    · rename_i h
      split
      · rfl
      · rename_i hb
        -- the key lies behind all cuts that were kept: its owner is the last one
        have : ∀ m, m ≤ k → blt key (C[k]'(by omega)) = false → whose (pl C O m).1 (pl C O m).2 key = O.getD m 0 := by
          intro m
          induction m with
          | zero => intro _ _; simp [pl, whose, idx]
          | succ m ihm =>
            intro hm hb'
            simp only [pl]
            split
            · rename_i hh
              rw [ihm (by omega) hb', ← pl_last C O m, ← hh]
            · have hs' : srt ((pl C O m).1 ++ [kAt C m]) := by
                have := pl_pw C O hs (m + 1) (by omega)
                simp only [pl] at this
                rw [if_neg (by assumption)] at this
                exact srt_of_pw this
              rw [whose_snoc hs' (pl_len C O m), if_neg]
              rw [kAt_eq (by omega)]
              have := ble_trans (blt_asymm (srt_lt hs (show m < C.length by omega) (show k < C.length by omega) (by omega))) hb'
              rw [this]; simp
        have hb' : blt key (C[k]'(by omega)) = false := by simpa using hb
        rw [this k (Nat.le_refl _) hb', ← pl_last C O k, ← h, eO]
    · have hs' : srt ((pl C O k).1 ++ [kAt C k]) := by
        have := pl_pw C O hs (k + 1) hk
        simp only [pl] at this
        rw [if_neg (by assumption)] at this
        exact srt_of_pw this
      rw [whose_snoc hs' (pl_len C O k), kAt_eq (by omega), eO]
theorem pl_whose {C : List ByteArray} {O : List Int} (ok : MapOk C O) (key : ByteArray) : whose (pl C O C.length).1 (pl C O C.length).2 key = whose C O key := by
  have := whose_pl ok.srt ok.len key C.length (Nat.le_refl _)
  rw [this, List.take_of_length_le (Nat.le_refl _), List.take_of_length_le (by have := ok.len; omega)]
/-- no neighbours of one owner -/
def apartO (O : List Int) : Prop := ∀ i, i + 1 < O.length → O.getD (i + 1) 0 ≠ O.getD i 0
theorem pl_apart (C : List ByteArray) (O : List Int) : ∀ k, apartO (pl C O k).2
  | 0 => fun i hi => by simp [pl] at hi
  | k + 1 => by
    have ih := pl_apart C O k
    simp only [pl]; split
    · exact ih
    · rename_i h
      intro i hi
      simp only [List.length_append, List.length_singleton] at hi
      rcases Nat.lt_or_ge (i + 1) (pl C O k).2.length with h' | h'
      · have := ih i h'
        simpa [List.getElem?_append_left h', List.getElem?_append_left (show i < (pl C O k).2.length by omega)] using this
      · have e : i + 1 = (pl C O k).2.length := by omega
        have e2 : i = (pl C O k).2.length - 1 := by omega
        have l1 : ((pl C O k).2 ++ [O.getD (k + 1) 0]).getD (i + 1) 0 = O.getD (k + 1) 0 := by rw [e]; simp
        have l2 : ((pl C O k).2 ++ [O.getD (k + 1) 0]).getD i 0 = lastO (pl C O k).2 := by
          rw [e2]; simp [lastO, List.getElem?_append_left (show (pl C O k).2.length - 1 < (pl C O k).2.length by omega)]
        rw [l1, l2]; exact h
theorem pl_same {C : List ByteArray} {O : List Int} (hl : O.length = C.length + 1) (ha : apartO O) : ∀ k, k ≤ C.length → pl C O k = (C.take k, O.take (k + 1))
  | 0, _ => by
    cases O with
    | nil => simp at hl
    | cons a l => simp [pl]
  | k + 1, hk => by
    have ih := pl_same hl ha k (by omega)
    have e1 := take_snoc' C k (by omega)
    have e2 := take_snoc' O (k + 1) (by omega)
    have h := ha k (by omega)
    have hlast := pl_last C O k
    simp only [pl]
    rw [if_neg (by rw [hlast]; exact h), ih, e1, e2, kAt_eq (by omega)]
    simp [show k + 1 < O.length by omega]
theorem pl_twice {C : List ByteArray} {O : List Int} (ok : MapOk C O) : pl (pl C O C.length).1 (pl C O C.length).2 (pl C O C.length).1.length = pl C O C.length := by
  have h := pl_same (pl_len C O C.length) (pl_apart C O C.length) _ (Nat.le_refl _)
  rw [h, List.take_of_length_le (Nat.le_refl _), List.take_of_length_le (by rw [pl_len]; exact Nat.le_refl _)]
theorem pl_small {C : List ByteArray} {O : List Int} (h : ∀ x ∈ C, x.size ≤ 9223372036854775807) : ∀ x ∈ (pl C O C.length).1, x.size ≤ 9223372036854775807 := fun x hx => by
  obtain ⟨j, hj, _, h2⟩ := pl_mem C O C.length (Nat.le_refl _) x hx
  rw [h2]; exact h _ (List.getElem_mem hj)
end Go.Proofs.YtimchedebcoohaaGreatDoor
