/- Contracts and lemmas for the proof of PartsPlay; each theorem states its own conditions. -/
import Derived.Test.YtimchedebcoohaaGreatDoorQPartsPlaybh
import Derived.Test.YtimchedebcoohaaGreatDoorQPartsPlayaz
import Derived.Test.YtimchedebcoohaaGreatDoorQPartsPlayab
import Derived.Test.YtimchedebcoohaaGreatDoorQPartsPlaybn
import Derived.Test.YtimchedebcoohaaGreatDoorQPartsPlayad
import Derived.Test.YtimchedebcoohaaGreatDoorQPartsPlaybo
import Derived.Test.YtimchedebcoohaaGreatDoorQPartsPlayak
set_option linter.unusedVariables false
set_option linter.unusedSimpArgs false
/- Contracts and lemmas for the proofs of this seat; each theorem states its own conditions. -/
namespace Go.Proofs.YtimchedebcoohaaGreatDoor
open Go.RowKit Go.Shelf
/-- the list behind an insertion in place -/
theorem ins_place (cur : Array Value) (cs : List Value) (x : Value) (i n : Nat) (hn : cs.length = n) (hi : i ≤ n) (hc : n + 1 ≤ cur.size) (ht : cur.toList.take n = cs) :
    (putL (putL cur (0 + (i + 1)) (cs.drop i)) (0 + i) [x]).toList.take (n + 1) = cs.take i ++ [x] ++ cs.drop i := by
  have e1 : (cs.drop i).length = n - i := by simp [hn]
  have hl : cur.toList.length = cur.size := rfl
  have e2 := putL_eq (cs.drop i) cur (i + 1) (by omega)
  have e3 := putL_eq [x] (putL cur (i + 1) (cs.drop i)) i (by rw [putL_size]; simp; omega)
  have e4 : cur.toList.take i = cs.take i := by rw [← ht, List.take_take, Nat.min_eq_left hi]
  simp only [Nat.zero_add]
  rw [e3, e2]
  generalize cur.toList.drop (i + 1 + (cs.drop i).length) = R
  have e5 : (cur.toList.take (i + 1)).length = i + 1 := by rw [List.length_take]; omega
  have e6 : (cur.toList.take (i + 1)).take i = cs.take i := by rw [List.take_take, Nat.min_eq_left (by omega), e4]
  generalize cur.toList.take (i + 1) = A at e5 e6
  have h1 : (A ++ cs.drop i ++ R).take i = cs.take i := by rw [List.append_assoc, List.take_append_of_le_length (by omega), e6]
  have h2 : (A ++ cs.drop i ++ R).drop (i + [x].length) = cs.drop i ++ R := by
    rw [List.append_assoc, List.length_singleton, ← e5, List.drop_left]
  rw [h1, h2, ← List.append_assoc]
  have h3 : (cs.take i ++ [x] ++ cs.drop i).length = n + 1 := by simp; omega
  rw [← h3, List.take_left]
theorem ins_new (cur : Array Value) (cs : List Value) (x : Value) (i n : Nat) (hn : cs.length = n) (hi : i ≤ n) (hc : n + 1 ≤ cur.size) (ht : cur.toList.take i = cs.take i) :
    (putL (putL cur i [x]) (i + 1) (cs.drop i)).toList.take (n + 1) = cs.take i ++ [x] ++ cs.drop i := by
  have e1 : (cs.drop i).length = n - i := by simp [hn]
  have e2 := putL_eq [x] cur i (by simp; omega)
  have e3 := putL_eq (cs.drop i) (putL cur i [x]) (i + 1) (by rw [putL_size]; omega)
  rw [e3, e2, ht]
  generalize List.drop (i + 1 + (cs.drop i).length) _ = R
  have h1 : (cs.take i ++ [x] ++ cur.toList.drop (i + [x].length)).take (i + 1) = cs.take i ++ [x] := List.take_left' (by simp; omega)
  rw [h1]
  exact List.take_left' (by simp; omega)
theorem zero1_size (z : Value) (h : z.cells = #[z]) (n : Nat) : (Builtin.zeroCells z.cells n).size = n := by simp [Builtin.zeroCells, h]
end Go.Proofs.YtimchedebcoohaaGreatDoor

/- Contracts and lemmas for the proofs of this seat; each theorem states its own conditions. -/
namespace Go.Proofs.YtimchedebcoohaaGreatDoor
/-! a cut more, in plain lists -/
theorem getD_append_l {α : Type} (A B : List α) (d : α) {i : Nat} (h : i < A.length) : (A ++ B).getD i d = A.getD i d := by
  simp [List.getElem?_append_left h]
theorem getD_append_r {α : Type} (A B : List α) (d : α) {i : Nat} (h : A.length ≤ i) : (A ++ B).getD i d = B.getD (i - A.length) d := by
  simp [List.getElem?_append_right h]
theorem getD_take {α : Type} (A : List α) (d : α) {i n : Nat} (h : i < n) : (A.take n).getD i d = A.getD i d := by
  simp [List.getElem?_take, h]
theorem getD_drop {α : Type} (A : List α) (d : α) (i n : Nat) : (A.drop n).getD i d = A.getD (n + i) d := by
  simp [List.getElem?_drop]
/-- the new cuts and owners -/
def cutC (C : List ByteArray) (key : ByteArray) (i : Nat) : List ByteArray := C.take i ++ [key] ++ C.drop i
def cutO (O : List Int) (i : Nat) : List Int := O.take i ++ [O.getD i 0] ++ O.drop i
theorem cutC_len {C : List ByteArray} {key : ByteArray} {i : Nat} (hi : i ≤ C.length) : (cutC C key i).length = C.length + 1 := by
  simp only [cutC, List.length_append, List.length_take, List.length_drop, List.length_singleton]; omega
theorem cutO_len {O : List Int} {i : Nat} (hi : i ≤ O.length) : (cutO O i).length = O.length + 1 := by
  simp only [cutO, List.length_append, List.length_take, List.length_drop, List.length_singleton]; omega
theorem cutC_lo {C : List ByteArray} {key : ByteArray} {i j : Nat} (hi : i ≤ C.length) (h : j < i) : kAt (cutC C key i) j = kAt C j := by
  have hl : (C.take i).length = i := by rw [List.length_take]; omega
  unfold kAt cutC
  rw [List.append_assoc, getD_append_l _ _ _ (by omega), getD_take _ _ h]
theorem cutC_at {C : List ByteArray} {key : ByteArray} {i : Nat} (hi : i ≤ C.length) : kAt (cutC C key i) i = key := by
  have hl : (C.take i).length = i := by rw [List.length_take]; omega
  unfold kAt cutC
  rw [List.append_assoc, getD_append_r _ _ _ (by omega), hl]; simp
theorem cutC_hi {C : List ByteArray} {key : ByteArray} {i j : Nat} (hi : i ≤ C.length) (h : i ≤ j) : kAt (cutC C key i) (j + 1) = kAt C j := by
  have hl : (C.take i ++ [key]).length = i + 1 := by rw [List.length_append, List.length_take, List.length_singleton]; omega
  unfold kAt cutC
  rw [getD_append_r _ _ _ (by omega), hl, getD_drop]
  congr 1; omega
theorem cutO_lo {O : List Int} {i j : Nat} (hi : i ≤ O.length) (h : j ≤ i) : (cutO O i).getD j 0 = O.getD j 0 := by
  have hl : (O.take i).length = i := by rw [List.length_take]; omega
  unfold cutO
  rw [List.append_assoc]
  rcases Nat.lt_or_ge j i with k | k
  · rw [getD_append_l _ _ _ (by omega), getD_take _ _ k]
  · obtain rfl : j = i := by omega
    rw [getD_append_r _ _ _ (by omega), hl]; simp
theorem cutO_hi {O : List Int} {i j : Nat} (hi : i ≤ O.length) (h : i ≤ j) : (cutO O i).getD (j + 1) 0 = O.getD j 0 := by
  have hl : (O.take i ++ [O.getD i 0]).length = i + 1 := by rw [List.length_append, List.length_take, List.length_singleton]; omega
  unfold cutO
  rw [getD_append_r _ _ _ (by omega), hl, getD_drop]
  congr 1; omega
/-- the key belongs at i -/
theorem cut_above {C : List ByteArray} {key : ByteArray} {i : Nat} (hs : srt C) (hc : cutAt (bltAt C key) C.length i) (hh : hitS C key i = false) : ∀ j, i ≤ j → j < C.length → blt key (kAt C j) = true := by
  intro j hj hjn
  have a := hc.2.2 j hj hjn
  have b := cut_le hs hc
  rw [if_neg (by simp [hh])] at b
  have c := b.2.2 j hj hjn
  simpa [leAt] using c
theorem cutC_srt {C : List ByteArray} {key : ByteArray} {i : Nat} (hs : srt C) (hc : cutAt (bltAt C key) C.length i) (hh : hitS C key i = false) : srt (cutC C key i) := by
  have hi := hc.1
  refine srt_adj fun j hj => ?_
  rw [cutC_len hi] at hj
  rcases Nat.lt_trichotomy (j + 1) i with k | k | k
  · rw [cutC_lo hi (by omega), cutC_lo hi k]; exact hs j (j + 1) (by omega) (by omega)
  · subst k; rw [cutC_lo hi (by omega), cutC_at hi]; exact hc.2.1 j (by omega)
  · rcases Nat.eq_or_lt_of_le (show i ≤ j by omega) with e | e
    · subst e; rw [cutC_at hi, cutC_hi hi (Nat.le_refl _)]; exact cut_above hs hc hh _ (Nat.le_refl _) (by omega)
    · obtain ⟨m, rfl⟩ : ∃ m, j = m + 1 := ⟨j - 1, by omega⟩
      rw [cutC_hi hi (show i ≤ m by omega), cutC_hi hi (show i ≤ m + 1 by omega)]; exact hs m (m + 1) (by omega) (by omega)
theorem cut_ok {C : List ByteArray} {O : List Int} {key : ByteArray} {i : Nat} (ok : MapOk C O) (hk : keyB key = true) (hc : cutAt (bltAt C key) C.length i) (hh : hitS C key i = false) (hlt : C.length < 12) : MapOk (cutC C key i) (cutO O i) := by
  have hi := hc.1
  have hl := ok.len
  have hs := cutC_srt ok.srt hc hh
  refine ⟨by rw [cutC_len hi]; omega, by rw [cutC_len hi, cutO_len (by omega), hl], ?_, ownsOk_of fun n hn => ?_⟩
  · intro j hj
    have h1 : keyB (kAt (cutC C key i) j) = true := by
      rw [cutC_len hi] at hj
      rcases Nat.lt_trichotomy j i with k | k | k
      · rw [cutC_lo hi k, kAt_eq (show j < C.length by omega)]; exact cut_key ok.cut _ (List.getElem_mem _)
      · subst k; rw [cutC_at hi]; exact hk
      · obtain ⟨m, rfl⟩ : ∃ m, j = m + 1 := ⟨j - 1, by omega⟩
        rw [cutC_hi hi (show i ≤ m by omega), kAt_eq (show m < C.length by omega)]; exact cut_key ok.cut _ (List.getElem_mem _)
    cases j with
    | zero => simp [cutOk, h1]
    | succ j => simp [cutOk, h1, hs j (j + 1) (by omega) hj]
  · have hm := mem_range_of ok.own
    simp only [cutO, List.mem_append, List.mem_singleton] at hn
    rcases hn with (hn | hn) | hn
    · exact hm _ (List.mem_of_mem_take hn)
    · subst hn
      have e : O.getD i 0 = O[i] := by simp [show i < O.length by omega]
      rw [e]; exact hm _ (List.getElem_mem _)
    · exact hm _ (List.mem_of_mem_drop hn)
theorem cut_plc {C : List ByteArray} {key k : ByteArray} {i : Nat} (hs : srt C) (hc : cutAt (bltAt C key) C.length i) (hh : hitS C key i = false) :
    (blt k key = true ∧ plc C k ≤ i ∧ plc (cutC C key i) k = plc C k) ∨ (blt k key = false ∧ i ≤ plc C k ∧ plc (cutC C key i) k = plc C k + 1) := by
  have hi := hc.1
  have hp := plc_cut hs k
  obtain ⟨p1, p2, p3⟩ := hp
  cases hb : blt k key with
  | true =>
    have hle : plc C k ≤ i := by
      rcases Nat.lt_or_ge i (plc C k) with h | h
      · have a := p2 i h
        have b := cut_above hs hc hh i (Nat.le_refl _) (by omega)
        have := blt_trans hb b
        simp only [leAt, this] at a; cases a
      · exact h
    refine .inl ⟨rfl, hle, idx_spec _ _ _ ⟨by rw [cutC_len hi]; omega, fun j hj => ?_, fun j hj hjn => ?_⟩⟩
    · have := p2 j hj
      simp only [leAt] at this ⊢; rw [cutC_lo hi (by omega)]; exact this
    · rw [cutC_len hi] at hjn
      simp only [leAt]
      rcases Nat.lt_trichotomy j i with h | h | h
      · rw [cutC_lo hi h]; exact p3 j hj (by omega)
      · subst h; rw [cutC_at hi, hb]; rfl
      · obtain ⟨m, rfl⟩ : ∃ m, j = m + 1 := ⟨j - 1, by omega⟩
        rw [cutC_hi hi (show i ≤ m by omega)]
        exact p3 m (by omega) (by omega)
  | false =>
    have hge : i ≤ plc C k := by
      rcases Nat.lt_or_ge (plc C k) i with h | h
      · have a := p3 _ (Nat.le_refl _) (by omega)
        have b := hc.2.1 _ h
        simp only [bltAt] at b
        have := ble_trans (blt_asymm b) hb
        simp only [leAt, this] at a; cases a
      · exact h
    refine .inr ⟨rfl, hge, idx_spec _ _ _ ⟨by rw [cutC_len hi]; omega, fun j hj => ?_, fun j hj hjn => ?_⟩⟩
    · simp only [leAt]
      rcases Nat.lt_trichotomy j i with h | h | h
      · rw [cutC_lo hi h]; exact p2 j (by omega)
      · subst h; rw [cutC_at hi, hb]; rfl
      · obtain ⟨m, rfl⟩ : ∃ m, j = m + 1 := ⟨j - 1, by omega⟩
        rw [cutC_hi hi (show i ≤ m by omega)]
        exact p2 m (by omega)
    · rw [cutC_len hi] at hjn
      obtain ⟨m, rfl⟩ : ∃ m, j = m + 1 := ⟨j - 1, by omega⟩
      simp only [leAt]
      rw [cutC_hi hi (show i ≤ m by omega)]
      exact p3 m (by omega) (by omega)
theorem cut_whose {C : List ByteArray} {O : List Int} {key : ByteArray} {i : Nat} (ok : MapOk C O) (hc : cutAt (bltAt C key) C.length i) (hh : hitS C key i = false) (k : ByteArray) : whose (cutC C key i) (cutO O i) k = whose C O k := by
  have hl := ok.len
  have hi := hc.1
  rw [whose_plc, whose_plc]
  rcases cut_plc (k := k) ok.srt hc hh with ⟨_, h1, h2⟩ | ⟨_, h1, h2⟩
  · rw [h2, cutO_lo (by omega) h1]
  · rw [h2, cutO_hi (by omega) h1]
theorem cut_pl_lo {C : List ByteArray} {O : List Int} {key : ByteArray} {i : Nat} (hi : i ≤ C.length) (hl : O.length = C.length + 1) : ∀ k, k ≤ i → pl (cutC C key i) (cutO O i) k = pl C O k
  | 0, _ => by simp only [pl]; rw [cutO_lo (by omega) (Nat.zero_le _)]
  | k + 1, hk => by
    simp only [pl]
    rw [cut_pl_lo hi hl k (by omega), cutO_lo (by omega) hk, cutC_lo hi (by omega)]
theorem cut_pl_hi {C : List ByteArray} {O : List Int} {key : ByteArray} {i : Nat} (hi : i ≤ C.length) (hl : O.length = C.length + 1) : ∀ k, i ≤ k → k ≤ C.length → pl (cutC C key i) (cutO O i) (k + 1) = pl C O k := by
  intro k hk
  induction k with
  | zero =>
    intro _
    obtain rfl : i = 0 := by omega
    have a : (cutO O 0).getD (0 + 1) 0 = O.getD 0 0 := cutO_hi (by omega) (Nat.le_refl _)
    have b : (cutO O 0).getD 0 0 = O.getD 0 0 := cutO_lo (by omega) (Nat.le_refl _)
    have c : pl (cutC C key 0) (cutO O 0) 0 = pl C O 0 := by simp only [pl]; rw [b]
    show (if (cutO O 0).getD (0 + 1) 0 = lastO (pl (cutC C key 0) (cutO O 0) 0).2 then pl (cutC C key 0) (cutO O 0) 0 else _) = pl C O 0
    rw [c, a, if_pos (by rfl : O.getD 0 0 = lastO (pl C O 0).snd)]
  | succ k ih =>
    intro hkn
    rcases Nat.eq_or_lt_of_le hk with e | e
    · subst e
      have h := cut_pl_lo (key := key) hi hl (k + 1) (Nat.le_refl _)
      have hlast := pl_last C O (k + 1)
      rw [pl, h, cutO_hi (by omega) (Nat.le_refl _), hlast, if_pos rfl]
    · have h := ih (by omega) (by omega)
      rw [pl, h, cutO_hi (by omega) (show i ≤ k + 1 by omega), cutC_hi hi (show i ≤ k by omega)]
      simp only [pl]
theorem cut_pl {C : List ByteArray} {O : List Int} {key : ByteArray} {i : Nat} (ok : MapOk C O) (hi : i ≤ C.length) : pl (cutC C key i) (cutO O i) (cutC C key i).length = pl C O C.length := by
  rw [cutC_len hi]; exact cut_pl_hi hi ok.len _ hi (Nat.le_refl _)
theorem cut_small {C : List ByteArray} {key : ByteArray} {i : Nat} (h : ∀ x ∈ C, x.size ≤ 9223372036854775807) (hk : key.size ≤ 9223372036854775807) : ∀ x ∈ cutC C key i, x.size ≤ 9223372036854775807 := by
  intro x hx
  simp only [cutC, List.mem_append, List.mem_singleton] at hx
  rcases hx with (hx | hx) | hx
  · exact h _ (List.mem_of_mem_take hx)
  · subst hx; exact hk
  · exact h _ (List.mem_of_mem_drop hx)
end Go.Proofs.YtimchedebcoohaaGreatDoor

/- Contracts and lemmas for the proofs of this seat; each theorem states its own conditions. -/
namespace Go.Proofs.YtimchedebcoohaaGreatDoor
open Go.RowKit
/-- what shard.Cut answers at a good map: an error, or the map with one cut more -/
def CutRes (w w' : World) (e : Ending) (C : List ByteArray) (O : List Int) (key : ByteArray) (i : Nat) : Prop :=
  (e = .returned (.tuple #[nilMap, .int .i64 3]) ∧ keyB key = false) ∨
  (keyB key = true ∧ cutAt (bltAt C key) C.length i ∧
    ((e = .returned (.tuple #[nilMap, .int .i64 5]) ∧ hitS C key i = true) ∨
     (e = .returned (.tuple #[nilMap, .int .i64 2]) ∧ hitS C key i = false ∧ C.length = 12) ∨
     (hitS C key i = false ∧ C.length < 12 ∧ ∃ v', e = .returned (.tuple #[v', .int .i64 0]) ∧ OwnMap w' w.heap.size v' (cutC C key i) (cutO O i))))
theorem cS_cut (C : List ByteArray) (key : ByteArray) (i : Nat) : cS (cutC C key i) = (cS C).take i ++ [.string key] ++ (cS C).drop i := by simp [cS, cutC, List.map_take, List.map_drop]
theorem cI_cut (O : List Int) (i : Nat) : cI (cutO O i) = (cI O).take i ++ [.int .i64 (O.getD i 0)] ++ (cI O).drop i := by simp [cI, cutO, List.map_take, List.map_drop]
theorem own_map_base {w : World} {B B' : Nat} {v : Value} {C : List ByteArray} {O : List Int} (h : OwnMap w B v C O) (k : B' ≤ B) : OwnMap w B' v C O := by
  obtain ⟨c, o, h1, h2, h3⟩ := h
  exact ⟨c, o, h1, own_base h2 k, own_base h3 k⟩
theorem own_keep {w w' : World} {B e sz n : Nat} {v : Value} {xs : List Value} (h : w.ownsRow B e sz v n xs) (hk : ∀ k, k < w.heap.size → v.ownBlock = some k → w'.heap[k]? = w.heap[k]?) : w'.ownsRow B e sz v n xs := by
  refine ⟨h.1, ?_⟩
  have hl := h.lt
  rcases h.2 with hn | ⟨g, cap, cur, rfl, hb, hg, rest⟩
  · exact .inl hn
  · exact .inr ⟨g, cap, cur, rfl, hb, (hk g (hl g rfl).2 rfl).trans hg, rest⟩
end Go.Proofs.YtimchedebcoohaaGreatDoor

/- Contracts and lemmas for the proofs of this seat; each theorem states its own conditions. -/
namespace Go.Proofs.YtimchedebcoohaaGreatDoor
open Go.RowKit
theorem cut_ex (p : Nat → Bool) (n : Nat) (hd : dropsB p n) : ∃ i, cutAt p n i := by
  have key : ∀ m, m ≤ n → (∃ i, cutAt p n i) ∨ ∀ j, j < m → p j = true := by
    intro m
    induction m with
    | zero => intro _; right; intro j hj; omega
    | succ m ih =>
      intro hm
      rcases ih (by omega) with h | h
      · exact .inl h
      · cases hb : p m with
        | true => right; intro j hj; rcases Nat.lt_succ_iff_lt_or_eq.1 hj with h' | h'
                  · exact h j h'
                  · subst h'; exact hb
        | false =>
          left
          refine ⟨m, by omega, h, fun j hj hjn => ?_⟩
          cases hb' : p j with
          | false => rfl
          | true =>
            rcases Nat.eq_or_lt_of_le hj with h' | h'
            · subst h'; rw [hb] at hb'; cases hb'
            · have := hd m j h' hjn hb'; rw [hb] at this; cases this
  rcases key n (Nat.le_refl _) with h | h
  · exact h
  · exact ⟨n, Nat.le_refl _, h, fun j hj hjn => by omega⟩
end Go.Proofs.YtimchedebcoohaaGreatDoor

/- Contracts and lemmas for the proofs of this seat; each theorem states its own conditions. -/
namespace Go.Proofs.YtimchedebcoohaaGreatDoor
open Go.RowKit
/-! shard.Cut, shard.Give at whatever is handed in -/
def cutAtI (C : List ByteArray) (key : ByteArray) : Nat := idx (bltAt C key) C.length
def cutE (C : List ByteArray) (O : List Int) (key : ByteArray) : Int :=
  if mapErr C O ≠ 0 then mapErr C O else if keyB key = false then 3 else if hitS C key (cutAtI C key) = true then 5 else if C.length = 12 then 2 else 0
def cutMC (C : List ByteArray) (O : List Int) (key : ByteArray) : List ByteArray := if cutE C O key = 0 then cutC C key (cutAtI C key) else []
def cutMO (C : List ByteArray) (O : List Int) (key : ByteArray) : List Int := if cutE C O key = 0 then cutO O (cutAtI C key) else []
def giveMC (C : List ByteArray) (O : List Int) (i n : Int) : List ByteArray := if giveE C O i n = 0 then C else []
def giveMO (C : List ByteArray) (O : List Int) (i n : Int) : List Int := if giveE C O i n = 0 then O.set i.toNat n else []
end Go.Proofs.YtimchedebcoohaaGreatDoor
