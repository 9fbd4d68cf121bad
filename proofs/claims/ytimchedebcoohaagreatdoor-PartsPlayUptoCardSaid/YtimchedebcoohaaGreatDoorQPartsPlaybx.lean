/- Contracts and lemmas for the proof of PartsPlay; each theorem states its own conditions. -/
import Derived.Test.YtimchedebcoohaaGreatDoorQPartsPlaybw
import Derived.Test.YtimchedebcoohaaGreatDoorQPartsPlaybu
import Derived.Test.YtimchedebcoohaaGreatDoorQPartsPlayak
import Derived.Test.YtimchedebcoohaaGreatDoorQPartsPlaybh
set_option linter.unusedVariables false
set_option linter.unusedSimpArgs false
/- Contracts and lemmas for the proofs of this seat; each theorem states its own conditions. -/
namespace Go.Proofs.YtimchedebcoohaaGreatDoor
open Go.RowKit
/-! ShardSays: plain laws, and facts of rows of rows -/
theorem cutE_ok {C : List ByteArray} {O : List Int} (h : mapErr C O = 0) (key : ByteArray) : cutE C O key = if keyB key = false then 3 else if hitS C key (cutAtI C key) = true then 5 else if C.length = 12 then 2 else 0 := by unfold cutE; rw [if_neg (by simp [h])]
theorem cutE_bad {C : List ByteArray} {O : List Int} (h : mapErr C O ≠ 0) (key : ByteArray) : cutE C O key = mapErr C O := by unfold cutE; rw [if_pos h]
theorem cutM_no {C : List ByteArray} {O : List Int} {key : ByteArray} (h : cutE C O key ≠ 0) : cutMC C O key = [] ∧ cutMO C O key = [] := by unfold cutMC cutMO; rw [if_neg h, if_neg h]; exact ⟨rfl, rfl⟩
theorem cutM_yes {C : List ByteArray} {O : List Int} {key : ByteArray} (h : cutE C O key = 0) : cutMC C O key = cutC C key (cutAtI C key) ∧ cutMO C O key = cutO O (cutAtI C key) := by unfold cutMC cutMO; rw [if_pos h, if_pos h]; exact ⟨rfl, rfl⟩
theorem giveM_no {C : List ByteArray} {O : List Int} {i n : Int} (h : giveE C O i n ≠ 0) : giveMC C O i n = [] ∧ giveMO C O i n = [] := by unfold giveMC giveMO; rw [if_neg h, if_neg h]; exact ⟨rfl, rfl⟩
theorem giveM_yes {C : List ByteArray} {O : List Int} {i n : Int} (h : giveE C O i n = 0) : giveMC C O i n = C ∧ giveMO C O i n = O.set i.toNat n := by unfold giveMC giveMO; rw [if_pos h, if_pos h]; exact ⟨rfl, rfl⟩
theorem giveE_bad {C : List ByteArray} {O : List Int} (h : mapErr C O ≠ 0) (i n : Int) : giveE C O i n = mapErr C O := by unfold giveE; rw [if_pos h]
def giveBad (O : List Int) (i n : Int) : Bool := decide (i < 0 ∨ (O.length : Int) ≤ i ∨ n < 0 ∨ 3 < n)
theorem giveBad_t {O : List Int} {i n : Int} (h : i < 0 ∨ (O.length : Int) ≤ i ∨ n < 0 ∨ 3 < n) : giveBad O i n = true := decide_eq_true h
theorem giveBad_f {O : List Int} {i n : Int} (h : ¬ (i < 0 ∨ (O.length : Int) ≤ i ∨ n < 0 ∨ 3 < n)) : giveBad O i n = false := decide_eq_false h
theorem giveE_ok {C : List ByteArray} {O : List Int} (h : mapErr C O = 0) (i n : Int) : giveE C O i n = if giveBad O i n = true then 1 else 0 := by
  unfold giveE giveBad
  rw [if_neg (by simp [h])]
  by_cases q : i < 0 ∨ (O.length : Int) ≤ i ∨ n < 0 ∨ 3 < n
  · rw [if_pos (by omega), if_pos (decide_eq_true q)]
  · rw [if_neg (by omega), if_neg (by simpa using q)]
theorem find_bad {C : List ByteArray} {O : List Int} (h : mapErr C O ≠ 0) (key : ByteArray) : findV C O key = 0 ∧ findE C O key = mapErr C O := by
  unfold findV findE; exact ⟨by rw [if_neg (fun q => h q.1)], by rw [if_pos h]⟩
theorem find_no {C : List ByteArray} {O : List Int} (h : mapErr C O = 0) {key : ByteArray} (hk : keyB key = false) : findV C O key = 0 ∧ findE C O key = 3 := by
  unfold findV findE; exact ⟨by rw [if_neg (fun q => by rw [hk] at q; exact absurd q.2 (by decide))], by rw [if_neg (by simp [h]), if_neg (by simp [hk])]⟩
theorem find_yes {C : List ByteArray} {O : List Int} (h : mapErr C O = 0) {key : ByteArray} (hk : keyB key = true) : findV C O key = whose C O key ∧ findE C O key = 0 := by
  unfold findV findE; exact ⟨by rw [if_pos ⟨h, hk⟩], by rw [if_neg (by simp [h]), if_pos hk]⟩
/-- where the key belongs -/
theorem cutAtI_is {C : List ByteArray} (hs : srt C) (key : ByteArray) : cutAt (bltAt C key) C.length (cutAtI C key) := by
  obtain ⟨i, hi⟩ := cut_ex _ _ (dropsB_blt hs key)
  have : cutAtI C key = i := idx_spec _ _ _ hi
  rw [this]; exact hi
theorem hit_iff {C : List ByteArray} (hs : srt C) (key : ByteArray) : hitS C key (cutAtI C key) = conS C key := by
  have hc := cutAtI_is hs key
  cases hh : hitS C key (cutAtI C key) with
  | true =>
    symm; apply conS_yes
    simp only [hitS, Bool.and_eq_true, decide_eq_true_eq] at hh
    rw [← toList_inj (show (kAt C (cutAtI C key)).toList = key.toList by simpa using hh.2), kAt_eq hh.1]; exact List.getElem_mem _
  | false =>
    symm; apply conS_no
    intro hm
    obtain ⟨j, hj, e⟩ := List.mem_iff_getElem.1 hm
    rcases Nat.lt_or_ge j (cutAtI C key) with h | h
    · have := hc.2.1 j h
      rw [bltAt_eq hj, e, blt_irrefl] at this; cases this
    · have := cut_above hs hc hh j h hj
      rw [kAt_eq hj, e, blt_irrefl] at this; cases this
theorem cutAtI_end {C : List ByteArray} (hs : srt C) {key : ByteArray} {k : Nat} (hk : k ≤ C.length) (h1 : ∀ j, j < k → bltAt C key j = true) (h2 : k < C.length → bltAt C key k = false) : cutAtI C key = k := by
  refine idx_spec _ _ _ ⟨hk, h1, fun j hj hjn => ?_⟩
  cases e : bltAt C key j with
  | false => rfl
  | true =>
    rcases Nat.eq_or_lt_of_le hj with q | q
    · subst q; rw [h2 hjn] at e; cases e
    · have := dropsB_blt hs key k j q hjn e
      rw [h2 (by omega)] at this; cases this
theorem cutO_two {O : List Int} {k : Nat} (hk : k < O.length) : cutO O k = O.take (k + 1) ++ O.drop k := by
  unfold cutO
  rw [List.take_succ_eq_append_getElem hk, show O.getD k 0 = O[k] by simp [hk]]
theorem set_three {O : List Int} {i : Nat} (n : Int) (hi : i < O.length) : O.take i ++ [n] ++ O.drop (i + 1) = O.set i n := by
  rw [List.set_eq_take_append_cons_drop, if_pos hi]; simp
/-- rows of rows, by what they hold -/
structure SegS (l : List ByteArray) (v : Value) (w : World) : Prop where
  seg : Seg w v 1 l.length (cS l)
structure SegI (l : List Int) (v : Value) (w : World) : Prop where
  seg : Seg w v 1 l.length (cI l)
theorem SegS.ext {l : List ByteArray} {v : Value} {w w' : World} (h : SegS l v w) (E : Ext w w') : SegS l v w' := ⟨h.seg.ext E⟩
theorem SegI.ext {l : List Int} {v : Value} {w w' : World} (h : SegI l v w) (E : Ext w w') : SegI l v w' := ⟨h.seg.ext E⟩
def Row3S (x y z : List ByteArray) (v : Value) (w : World) : Prop := ∃ b u1 u2 u3, v = .slice (some ⟨b, 0, none⟩) 3 3 ∧ w.heap[b]? = some (.cells #[u1, u2, u3] 22 (0, 0)) ∧ SegS x u1 w ∧ SegS y u2 w ∧ SegS z u3 w
def Row3I (x y z : List Int) (v : Value) (w : World) : Prop := ∃ b u1 u2 u3, v = .slice (some ⟨b, 0, none⟩) 3 3 ∧ w.heap[b]? = some (.cells #[u1, u2, u3] 23 (0, 0)) ∧ SegI x u1 w ∧ SegI y u2 w ∧ SegI z u3 w
def Row2I (x y : List Int) (v : Value) (w : World) : Prop := ∃ b u1 u2, v = .slice (some ⟨b, 0, none⟩) 2 2 ∧ w.heap[b]? = some (.cells #[u1, u2] 23 (0, 0)) ∧ SegI x u1 w ∧ SegI y u2 w
theorem segS_now {w0 w' : World} {l : List ByteArray} {v : Value} (h : Up w0 w' (SegS l v)) : SegS l v w' := by obtain ⟨u, _, g, k⟩ := h; exact k.ext g
theorem segI_now {w0 w' : World} {l : List Int} {v : Value} (h : Up w0 w' (SegI l v)) : SegI l v w' := by obtain ⟨u, _, g, k⟩ := h; exact k.ext g
theorem row3S_now {w0 w' : World} {x y z : List ByteArray} {v : Value} (h : Up w0 w' (Row3S x y z v)) : Row3S x y z v w' := by
  obtain ⟨u, _, g, b, u1, u2, u3, h1, h2, h3, h4, h5⟩ := h
  exact ⟨b, u1, u2, u3, h1, g.heap h2, h3.ext g, h4.ext g, h5.ext g⟩
theorem row3I_now {w0 w' : World} {x y z : List Int} {v : Value} (h : Up w0 w' (Row3I x y z v)) : Row3I x y z v w' := by
  obtain ⟨u, _, g, b, u1, u2, u3, h1, h2, h3, h4, h5⟩ := h
  exact ⟨b, u1, u2, u3, h1, g.heap h2, h3.ext g, h4.ext g, h5.ext g⟩
theorem row2I_now {w0 w' : World} {x y : List Int} {v : Value} (h : Up w0 w' (Row2I x y v)) : Row2I x y v w' := by
  obtain ⟨u, _, g, b, u1, u2, h1, h2, h3, h4⟩ := h
  exact ⟨b, u1, u2, h1, g.heap h2, h3.ext g, h4.ext g⟩
theorem row3S_new {w : World} {x y z : List ByteArray} {u1 u2 u3 : Value} (h1 : SegS x u1 w) (h2 : SegS y u2 w) (h3 : SegS z u3 w) : Row3S x y z (.slice (some ⟨w.heap.size, 0, none⟩) 3 3) (w.alloc (.cells #[u1, u2, u3] 22)) :=
  ⟨_, u1, u2, u3, rfl, heap_alloc_new _ _, h1.ext ((Ext.refl w).alloc _), h2.ext ((Ext.refl w).alloc _), h3.ext ((Ext.refl w).alloc _)⟩
theorem row3I_new {w : World} {x y z : List Int} {u1 u2 u3 : Value} (h1 : SegI x u1 w) (h2 : SegI y u2 w) (h3 : SegI z u3 w) : Row3I x y z (.slice (some ⟨w.heap.size, 0, none⟩) 3 3) (w.alloc (.cells #[u1, u2, u3] 23)) :=
  ⟨_, u1, u2, u3, rfl, heap_alloc_new _ _, h1.ext ((Ext.refl w).alloc _), h2.ext ((Ext.refl w).alloc _), h3.ext ((Ext.refl w).alloc _)⟩
theorem row2I_new {w : World} {x y : List Int} {u1 u2 : Value} (h1 : SegI x u1 w) (h2 : SegI y u2 w) : Row2I x y (.slice (some ⟨w.heap.size, 0, none⟩) 2 2) (w.alloc (.cells #[u1, u2] 23)) :=
  ⟨_, u1, u2, rfl, heap_alloc_new _ _, h1.ext ((Ext.refl w).alloc _), h2.ext ((Ext.refl w).alloc _)⟩
theorem segS_nil (w : World) {a : Option Addr} {c : Nat} (h : c ≤ maxLen) : SegS [] (.slice a 0 c) w := ⟨⟨by simp [cS], _, _, rfl, by simp, h, fun h => absurd h (by simp)⟩⟩
theorem segI_nil (w : World) {a : Option Addr} {c : Nat} (h : c ≤ maxLen) : SegI [] (.slice a 0 c) w := ⟨⟨by simp [cI], _, _, rfl, by simp, h, fun h => absurd h (by simp)⟩⟩
/-- parts and joins, closed to the walk -/
def tkS (l : List ByteArray) (k : Nat) : List ByteArray := l.take k
def dpS (l : List ByteArray) (k : Nat) : List ByteArray := l.drop k
def tkI (l : List Int) (k : Nat) : List Int := l.take k
def dpI (l : List Int) (k : Nat) : List Int := l.drop k
def ct3S (x y z : List ByteArray) : List ByteArray := x ++ y ++ z
def ct3I (x y z : List Int) : List Int := x ++ y ++ z
def ct2I (x y : List Int) : List Int := x ++ y
def oneS (k : ByteArray) : List ByteArray := [k]
def oneI (k : Int) : List Int := [k]
theorem segS_new (w : World) (k : ByteArray) : SegS (oneS k) (.slice (some ⟨w.heap.size, 0, none⟩) 1 1) (w.alloc (.cells #[.string k] 9)) := ⟨seg_one (heap_alloc_new w _)⟩
theorem segI_new (w : World) (k : Int) : SegI (oneI k) (.slice (some ⟨w.heap.size, 0, none⟩) 1 1) (w.alloc (.cells #[.int .i64 k] 3)) := ⟨seg_one (heap_alloc_new w _)⟩
theorem tkS_len (l : List ByteArray) (k : Nat) : (tkS l k).length ≤ l.length := by simp [tkS]; omega
theorem dpS_len (l : List ByteArray) (k : Nat) : (dpS l k).length ≤ l.length := by simp [dpS]
theorem tkI_len (l : List Int) (k : Nat) : (tkI l k).length ≤ l.length := by simp [tkI]; omega
theorem dpI_len (l : List Int) (k : Nat) : (dpI l k).length ≤ l.length := by simp [dpI]
theorem oneS_len (k : ByteArray) : (oneS k).length = 1 := rfl
theorem oneI_len (k : Int) : (oneI k).length = 1 := rfl
theorem segS_form {w : World} {v : Value} {l : List ByteArray} (h : SegS l v w) : ∃ a n c, v = .slice a n c := by obtain ⟨a, c, e⟩ := seg_form h.seg; exact ⟨a, _, c, e⟩
theorem segI_form {w : World} {v : Value} {l : List Int} (h : SegI l v w) : ∃ a n c, v = .slice a n c := by obtain ⟨a, c, e⟩ := seg_form h.seg; exact ⟨a, _, c, e⟩
theorem segS_take {w : World} {b off n c k : Nat} {l : List ByteArray} (h : SegS l (.slice (some ⟨b, off, none⟩) n c) w) (hn : n = l.length) (hk : k ≤ l.length) : SegS (tkS l k) (.slice (some ⟨b, off, none⟩) k c) w := by
  subst hn
  have e : (tkS l k).length = k := by unfold tkS; rw [List.length_take]; omega
  refine ⟨?_⟩; rw [e, show cS (tkS l k) = (cS l).take k by simp [cS, tkS]]; exact seg_take1 h.seg hk
theorem segI_take {w : World} {b off n c k : Nat} {l : List Int} (h : SegI l (.slice (some ⟨b, off, none⟩) n c) w) (hn : n = l.length) (hk : k ≤ l.length) : SegI (tkI l k) (.slice (some ⟨b, off, none⟩) k c) w := by
  subst hn
  have e : (tkI l k).length = k := by unfold tkI; rw [List.length_take]; omega
  refine ⟨?_⟩; rw [e, show cI (tkI l k) = (cI l).take k by simp [cI, tkI]]; exact seg_take1 h.seg hk
theorem segS_drop {w : World} {b off c k : Nat} {l : List ByteArray} (h : SegS l (.slice (some ⟨b, off, none⟩) l.length c) w) (hk : k ≤ l.length) : SegS (dpS l k) (.slice (some ⟨b, off + k, none⟩) (l.length - k) (c - k)) w := by
  have e : (dpS l k).length = l.length - k := by unfold dpS; rw [List.length_drop]
  refine ⟨?_⟩; rw [e, show cS (dpS l k) = (cS l).drop k by simp [cS, dpS]]; exact seg_drop1 h.seg hk
theorem segI_drop {w : World} {b off c k : Nat} {l : List Int} (h : SegI l (.slice (some ⟨b, off, none⟩) l.length c) w) (hk : k ≤ l.length) : SegI (dpI l k) (.slice (some ⟨b, off + k, none⟩) (l.length - k) (c - k)) w := by
  have e : (dpI l k).length = l.length - k := by unfold dpI; rw [List.length_drop]
  refine ⟨?_⟩; rw [e, show cI (dpI l k) = (cI l).drop k by simp [cI, dpI]]; exact seg_drop1 h.seg hk
theorem segS_end {w : World} {a : Option Addr} {n c k : Nat} {l : List ByteArray} (hk : l.length = k) (hn : n = 0) (hc : c ≤ maxLen) : SegS (dpS l k) (.slice a n c) w := by
  subst hn; unfold dpS; rw [List.drop_of_length_le (by omega)]; exact segS_nil w hc
theorem segI_end {w : World} {a : Option Addr} {n c k : Nat} {l : List Int} (hk : l.length = k) (hn : n = 0) (hc : c ≤ maxLen) : SegI (dpI l k) (.slice a n c) w := by
  subst hn; unfold dpI; rw [List.drop_of_length_le (by omega)]; exact segI_nil w hc
theorem segS_tk0 {w : World} {a : Option Addr} {n c : Nat} {l : List ByteArray} (hn : n = 0) (hc : c ≤ maxLen) : SegS (tkS l 0) (.slice a n c) w := by
  subst hn; exact segS_nil w hc
theorem segI_dp0 {w : World} {v : Value} {l : List Int} (h : SegI l v w) : SegI (dpI l 0) v w := by
  have e : dpI l 0 = l := by simp [dpI]
  rw [e]; exact h
theorem segS3_elim {G : Prop} {w : World} {l1 l2 l3 : List ByteArray} {v1 v2 v3 : Value} (h1 : SegS l1 v1 w) (h2 : SegS l2 v2 w) (h3 : SegS l3 v3 w)
    (k : ∀ a1 n1 c1 a2 n2 c2 a3 n3 c3, v1 = .slice a1 n1 c1 → v2 = .slice a2 n2 c2 → v3 = .slice a3 n3 c3 → Hid (SegS l1 (.slice a1 n1 c1) w ∧ SegS l2 (.slice a2 n2 c2) w ∧ SegS l3 (.slice a3 n3 c3) w) → G) : G := by
  obtain ⟨a1, n1, c1, rfl⟩ := segS_form h1
  obtain ⟨a2, n2, c2, rfl⟩ := segS_form h2
  obtain ⟨a3, n3, c3, rfl⟩ := segS_form h3
  exact k _ _ _ _ _ _ _ _ _ rfl rfl rfl (hid ⟨h1, h2, h3⟩)
theorem segI2_elim {G : Prop} {w : World} {l1 l2 : List Int} {v1 v2 : Value} (h1 : SegI l1 v1 w) (h2 : SegI l2 v2 w)
    (k : ∀ a1 n1 c1 a2 n2 c2, v1 = .slice a1 n1 c1 → v2 = .slice a2 n2 c2 → Hid (SegI l1 (.slice a1 n1 c1) w ∧ SegI l2 (.slice a2 n2 c2) w) → G) : G := by
  obtain ⟨a1, n1, c1, rfl⟩ := segI_form h1
  obtain ⟨a2, n2, c2, rfl⟩ := segI_form h2
  exact k _ _ _ _ _ _ rfl rfl (hid ⟨h1, h2⟩)
theorem segSI_elim {G : Prop} {w : World} {l1 : List ByteArray} {l2 : List Int} {v1 v2 : Value} (h1 : SegS l1 v1 w) (h2 : SegI l2 v2 w)
    (k : ∀ a1 n1 c1 a2 n2 c2, v1 = .slice a1 n1 c1 → v2 = .slice a2 n2 c2 → Hid (SegS l1 (.slice a1 n1 c1) w ∧ SegI l2 (.slice a2 n2 c2) w) → G) : G := by
  obtain ⟨a1, n1, c1, rfl⟩ := segS_form h1
  obtain ⟨a2, n2, c2, rfl⟩ := segI_form h2
  exact k _ _ _ _ _ _ rfl rfl (hid ⟨h1, h2⟩)
def SegSv (l : List ByteArray) (e : Ending) (w w' : World) : Prop := ∃ v', e = .returned v' ∧ SegS l v' w' ∧ Ext w w'
def SegIv (l : List Int) (e : Ending) (w w' : World) : Prop := ∃ v', e = .returned v' ∧ SegI l v' w' ∧ Ext w w'
theorem cat3S {v : Value} {x y z : List ByteArray} {w : World} (h : Row3S x y z v w) (hn : x.length + y.length + z.length ≤ 1000000000) :
    Calls Tryz.prog 20 #[v] w fun e w' => SegSv (ct3S x y z) e w w' := by
  obtain ⟨b, u1, u2, u3, rfl, h2, h3, h4, h5⟩ := h
  refine (concat3S b u1 u2 u3 x y z w h2 h3.seg h4.seg h5.seg hn).mono ?_
  rintro e w' ⟨v', rfl, ho, E⟩
  exact ⟨v', rfl, ⟨own_seg ho⟩, E⟩
theorem mapErr_nil : mapErr [] [] = 3 := by decide +kernel
end Go.Proofs.YtimchedebcoohaaGreatDoor
