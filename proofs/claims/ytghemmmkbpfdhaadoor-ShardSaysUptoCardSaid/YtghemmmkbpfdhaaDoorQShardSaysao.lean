/- Contracts and lemmas for the proof of ShardSays; each theorem states its own conditions. -/
import Derived.Test.YtghemmmkbpfdhaaDoorQShardSaysan
import Derived.Test.YtghemmmkbpfdhaaDoorQShardSaysab
set_option linter.unusedVariables false
set_option linter.unusedSimpArgs false
/- Contracts and lemmas for the proofs of this seat; each theorem states its own conditions. -/
namespace Go.Proofs.YtghemmmkbpfdhaaDoor
open Go.RowKit Go.Shelf
/-- the list behind an insertion in place -/
theorem ins_place (cur : Array Value) (cs : List Value) (x : Value) (i n : Nat) (hn : cs.length = n) (hi : i ≤ n) (hc : n + 1 ≤ cur.size) (ht : cur.toList.take n = cs) :
    (putL (putL cur (0 + (i + 1)) (cs.drop i)) (0 + i) [x]).toList.take (n + 1) = cs.take i ++ [x] ++ cs.drop i := by
  have e1 : (cs.drop i).length = n - i := by simp [hn]
  have hl : cur.toList.length = cur.size := rfl
  have e2 := putL_eq (cs.drop i) cur (i + 1) (by omega)
  have e3 := putL_eq [x] (putL cur (i + 1) (cs.drop i)) i (by rw [putL_size]; simp; omega)
  have e4 : cur.toList.take i = cs.take i := by rw [← ht, List.take_take, Nat.min_eq_left hi]
  simp only [Nat.zero_add]
  rw [e3, e2]
  generalize cur.toList.drop (i + 1 + (cs.drop i).length) = R
  have e5 : (cur.toList.take (i + 1)).length = i + 1 := by rw [List.length_take]; omega
  have e6 : (cur.toList.take (i + 1)).take i = cs.take i := by rw [List.take_take, Nat.min_eq_left (by omega), e4]
  generalize cur.toList.take (i + 1) = A at e5 e6
  have h1 : (A ++ cs.drop i ++ R).take i = cs.take i := by rw [List.append_assoc, List.take_append_of_le_length (by omega), e6]
  have h2 : (A ++ cs.drop i ++ R).drop (i + [x].length) = cs.drop i ++ R := by
    rw [List.append_assoc, List.length_singleton, ← e5, List.drop_left]
  rw [h1, h2, ← List.append_assoc]
  have h3 : (cs.take i ++ [x] ++ cs.drop i).length = n + 1 := by simp; omega
  rw [← h3, List.take_left]
theorem ins_new (cur : Array Value) (cs : List Value) (x : Value) (i n : Nat) (hn : cs.length = n) (hi : i ≤ n) (hc : n + 1 ≤ cur.size) (ht : cur.toList.take i = cs.take i) :
    (putL (putL cur i [x]) (i + 1) (cs.drop i)).toList.take (n + 1) = cs.take i ++ [x] ++ cs.drop i := by
  have e1 : (cs.drop i).length = n - i := by simp [hn]
  have e2 := putL_eq [x] cur i (by simp; omega)
  have e3 := putL_eq (cs.drop i) (putL cur i [x]) (i + 1) (by rw [putL_size]; omega)
  rw [e3, e2, ht]
  generalize List.drop (i + 1 + (cs.drop i).length) _ = R
  have h1 : (cs.take i ++ [x] ++ cur.toList.drop (i + [x].length)).take (i + 1) = cs.take i ++ [x] := List.take_left' (by simp; omega)
  rw [h1]
  exact List.take_left' (by simp; omega)
theorem zero1_size (z : Value) (h : z.cells = #[z]) (n : Nat) : (Builtin.zeroCells z.cells n).size = n := by simp [Builtin.zeroCells, h]
set_option maxHeartbeats 1000000 in
theorem insS_any (B c : Nat) (cs : List Value) (x : Value) (i vb : Nat) (w : World) (a : Option Addr)
    (h : w.ownsRow B 9 1 (.slice a cs.length c) cs.length cs) (hv : w.heap[vb]? = some (.cells #[x] 9 (0, 0))) (hne : (Value.slice a cs.length c).ownBlock ≠ some vb)
    (hB : B ≤ w.heap.size) (hi : i ≤ cs.length) (hl : cs.length ≤ 1000) (h1 : ∀ v ∈ cs, v.oneCell' = true) (hx : x.oneCell' = true) :
    Calls Tryd.prog 66 #[.slice a cs.length c, .int .i64 i, .slice (some ⟨vb, 0, none⟩) 1 1] w fun e w' =>
      ∃ a' c', e = .returned (.slice a' (cs.length + 1) c') ∧ w'.ownsRow B 9 1 (.slice a' (cs.length + 1) c') (cs.length + 1) (cs.take i ++ [x] ++ cs.drop i) ∧ Below B w w' ∧ ∀ k, k < w.heap.size → (Value.slice a cs.length c).ownBlock ≠ some k → w'.heap[k]? = w.heap[k]? := by
  have hlen : (cs.take i ++ [x] ++ cs.drop i).length = (cs.length + 1) * 1 := by simp; omega
  have hvs : ∀ j v, [x][j]? = some v → w.cell? ⟨vb, 0 + j, none⟩ = some v := by
    intro j v hj
    cases j with
    | zero => simp at hj; subst hj; simp [World.cell?, hv]
    | succ j => simp at hj
  have h1x : ∀ v ∈ [x], v.oneCell' = true := by simpa using hx
  have hm := fun k => grownCap_le_maxLen w (cs.length + 1) k 9 (by unfold maxLen; omega)
  have hg := fun k => grownCap_ge w (cs.length + 1) k 9
  obtain ⟨_, ⟨hq, hn⟩ | ⟨g, cap, cur, hq, hgB, hcur, hc1, hc2, hsz, htk⟩⟩ := h
  · injection hq with hq1 hq2 hq3
    subst hq1; subst hq3
    obtain rfl := List.eq_nil_of_length_eq_zero hn
    obtain rfl : i = 0 := by simpa using hi
    refine (Any2.slices_Insert_string_end_grow lays2n22 none 0 0 vb 0 1 1 [] [x] w (by omega) (by omega) (by omega) (by omega) rfl rfl (fun _ => rfl) (fun _ h => by cases h) hvs h1x).mono ?_
    rintro e w' ⟨rfl, rfl⟩
    refine ⟨_, _, rfl, ⟨hlen, .inr ⟨w.heap.size, _, _, rfl, hB, heap_alloc_new _ _, hg 0, hm 0, ?_, ?_⟩⟩, ?_⟩
    · rw [Array.size_append, zero1_size (.string ⟨#[]⟩) rfl, Nat.mul_one]
      exact Nat.add_sub_cancel' (hg 0)
    · simp
    · exact ⟨Below.mono ((Ext.refl w).drew.alloc _) hB, fun k hk _ => Below.block ((Ext.refl w).drew.alloc _) k hk⟩
  · injection hq with hq1 hq2 hq3
    subst hq1; subst hq3
    have hcell : ∀ j, w.cell? ⟨g, 0 + j, none⟩ = cur[j]? := by intro j; simp [World.cell?, hcur]
    have hfz : ∀ j, w.frozen? ⟨g, 0 + j, none⟩ = false := by intro j; simp [World.frozen?, hcur]
    have hcs : ∀ j v, cs[j]? = some v → w.cell? ⟨g, 0 + j, none⟩ = some v := by
      intro j v hj
      rw [hcell, ← Array.getElem?_toList]
      rw [← htk, List.getElem?_take] at hj
      split at hj
      · exact hj
      · cases hj
    have hsome : ∀ j, j < cur.size → (w.cell? ⟨g, 0 + j, none⟩).isSome = true := by intro j hj; rw [hcell]; simp [hj]
    have hgv : vb ≠ g := fun e => hne (by simp [Value.ownBlock, e])
    have hsa : w.shape? vb = some (9, 1) := by simp [World.shape?, hv]
    have hsb : w.shape? g = some (9, cur.size) := by simp [World.shape?, hcur]
    have hfa : w.frozen? ⟨vb, 0, none⟩ = false := by simp [World.frozen?, hv]
    have hfe : w.frozen? ⟨vb, 1, none⟩ = false := by simp [World.frozen?, hv]
    have htk' : cur.toList.take cs.length = cs := by rw [Nat.mul_one] at htk; exact htk
    have hc2' := hc2
    unfold maxLen at hc2'
    by_cases hr : cs.length + 1 ≤ c
    · by_cases hin : i < cs.length
      · refine (Any2.slices_Insert_string_shift lays2n22 g 0 cs.length c i vb 0 1 1 cs [x] w hin (by omega) hr (by omega) hgv rfl rfl hcs (fun j hj => hsome j (by omega)) (fun j _ => hfz j) hvs h1 h1x _ _ _ _ hsa hsb (by omega) hfa hfe).mono ?_
        rintro e w' ⟨rfl, rfl⟩
        refine ⟨_, _, rfl, ⟨hlen, .inr ⟨g, c, _, rfl, hgB, setCells_heap _ _ _ _ _ _ _ (setCells_heap _ _ _ _ _ _ _ hcur), hr, hc2, by rw [putL_size, putL_size]; exact hsz, ?_⟩⟩, ?_⟩
        · rw [Nat.mul_one]; exact ins_place cur cs x i _ rfl hi (by omega) htk'
        · exact ⟨ext_setCells hgB _ _ _ (ext_setCells hgB _ _ _ (Below.mono (Ext.refl w).drew hB)), fun k _ hne' => (setCells_other (fun e => hne' (by simp [Value.ownBlock, e])) _ _ _).trans (setCells_other (fun e => hne' (by simp [Value.ownBlock, e])) _ _ _)⟩
      · obtain rfl : i = cs.length := by omega
        refine (Any2.slices_Insert_string_end_room lays2n22 g 0 cs.length c vb 0 1 1 [x] w (by omega) hr (by omega) rfl (fun j hj => by rw [Nat.add_assoc]; exact hsome _ (by omega)) (fun j _ => by rw [Nat.add_assoc]; exact hfz _) hvs h1x).mono ?_
        rintro e w' ⟨rfl, rfl⟩
        refine ⟨_, _, rfl, ⟨hlen, .inr ⟨g, c, _, rfl, hgB, setCells_heap _ _ _ _ _ _ _ hcur, hr, hc2, by rw [putL_size]; exact hsz, ?_⟩⟩, ?_⟩
        · have := ins_place cur cs x cs.length _ rfl hi (by omega) htk'
          rw [List.drop_of_length_le (Nat.le_refl _), putL] at this
          rw [Nat.mul_one, this, List.drop_of_length_le (Nat.le_refl _)]
        · exact ⟨ext_setCells hgB _ _ _ (Below.mono (Ext.refl w) hB), fun k _ hne' => setCells_other (fun e => hne' (by simp [Value.ownBlock, e])) _ _ _⟩
    · by_cases hin : i < cs.length
      · refine (Any2.slices_Insert_string_grow lays2n22 g 0 cs.length c i vb 0 1 1 cs [x] w hin (by omega) hc1 (by omega) (by omega) rfl rfl hcs hvs h1 h1x).mono ?_
        rintro e w' ⟨rfl, rfl⟩
        have hO : ∀ (t : TypeId) (O : Array Value), (w.alloc (.cells O t)).drew.heap[w.heap.size]? = some (.cells O t (0, 0)) := fun t O => heap_alloc_new w (.cells O t)
        refine ⟨_, _, rfl, ⟨hlen, .inr ⟨w.heap.size, _, _, rfl, hB, setCells_heap _ _ _ _ _ _ _ (setCells_heap _ _ _ _ _ _ _ (hO _ _)), hg c, hm c, ?_, ?_⟩⟩, ?_⟩
        · rw [putL_size, putL_size, Array.size_append, Array.size_append, zero1_size (.string ⟨#[]⟩) rfl, zero1_size (.string ⟨#[]⟩) rfl, Nat.mul_one, List.size_toArray, List.length_take, Nat.min_eq_left hi, Nat.add_sub_cancel' (by omega)]
          exact Nat.add_sub_cancel' (hg c)
        · rw [Nat.mul_one]
          refine ins_new _ cs x i _ rfl hi ?_ ?_
          · rw [Array.size_append, Array.size_append, zero1_size (.string ⟨#[]⟩) rfl, zero1_size (.string ⟨#[]⟩) rfl, List.size_toArray, List.length_take, Nat.min_eq_left hi, Nat.add_sub_cancel' (by omega)]
            exact Nat.le_add_right _ _
          · rw [Array.toList_append, Array.toList_append, List.append_assoc]
            exact List.take_left' (by simp; omega)
        · refine ⟨ext_setCells hB _ _ _ ?_, fun k hk _ => (setCells_other (by omega) _ _ _).trans ((setCells_other (by omega) _ _ _).trans (Below.block ((Ext.refl w).alloc _) k hk))⟩
          have q := ext_setCells (B := B) (b := w.heap.size) hB [x] i (w.alloc (.cells ((cs.take i).toArray ++ Builtin.zeroCells (Value.string ⟨#[]⟩).cells (cs.length + 1 - i) ++ Builtin.zeroCells (Value.string ⟨#[]⟩).cells (grownCap w (cs.length + 1) c (lays2n22_ren.t 9) - (cs.length + 1))) (lays2n22_ren.t 9))).drew (Below.mono ((Ext.refl w).alloc _).drew hB)
          exact Below.trans q ⟨rfl, rfl, rfl, Nat.le_refl _, fun _ _ => rfl⟩
      · obtain rfl : i = cs.length := by omega
        refine (Any2.slices_Insert_string_end_grow lays2n22 (some ⟨g, 0, none⟩) cs.length c vb 0 1 1 cs [x] w (by omega) hc1 (by omega) (by omega) rfl rfl (fun h => by cases h) (fun a h j v hj => by injection h with h; subst h; rw [Addr.add_lit]; exact hcs j v hj) hvs h1x).mono ?_
        rintro e w' ⟨rfl, rfl⟩
        refine ⟨_, _, rfl, ⟨hlen, .inr ⟨w.heap.size, _, _, rfl, hB, heap_alloc_new _ _, hg c, hm c, ?_, ?_⟩⟩, ?_⟩
        · rw [Array.size_append, zero1_size (.string ⟨#[]⟩) rfl, Nat.mul_one, List.size_toArray, List.length_append, List.length_singleton]
          exact Nat.add_sub_cancel' (hg c)
        · rw [Nat.mul_one, List.take_length, List.drop_length, List.append_nil, Array.toList_append]
          exact List.take_left' (by simp)
        · exact ⟨Below.mono ((Ext.refl w).drew.alloc _) hB, fun k hk _ => Below.block ((Ext.refl w).drew.alloc _) k hk⟩
set_option maxHeartbeats 1000000 in
theorem insI_any (B c : Nat) (cs : List Value) (x : Value) (i vb : Nat) (w : World) (a : Option Addr)
    (h : w.ownsRow B 3 1 (.slice a cs.length c) cs.length cs) (hv : w.heap[vb]? = some (.cells #[x] 3 (0, 0))) (hne : (Value.slice a cs.length c).ownBlock ≠ some vb)
    (hB : B ≤ w.heap.size) (hi : i ≤ cs.length) (hl : cs.length ≤ 1000) (h1 : ∀ v ∈ cs, v.oneCell' = true) (hx : x.oneCell' = true) :
    Calls Tryd.prog 67 #[.slice a cs.length c, .int .i64 i, .slice (some ⟨vb, 0, none⟩) 1 1] w fun e w' =>
      ∃ a' c', e = .returned (.slice a' (cs.length + 1) c') ∧ w'.ownsRow B 3 1 (.slice a' (cs.length + 1) c') (cs.length + 1) (cs.take i ++ [x] ++ cs.drop i) ∧ Below B w w' ∧ ∀ k, k < w.heap.size → (Value.slice a cs.length c).ownBlock ≠ some k → w'.heap[k]? = w.heap[k]? := by
  have hlen : (cs.take i ++ [x] ++ cs.drop i).length = (cs.length + 1) * 1 := by simp; omega
  have hvs : ∀ j v, [x][j]? = some v → w.cell? ⟨vb, 0 + j, none⟩ = some v := by
    intro j v hj
    cases j with
    | zero => simp at hj; subst hj; simp [World.cell?, hv]
    | succ j => simp at hj
  have h1x : ∀ v ∈ [x], v.oneCell' = true := by simpa using hx
  have hm := fun k => grownCap_le_maxLen w (cs.length + 1) k 3 (by unfold maxLen; omega)
  have hg := fun k => grownCap_ge w (cs.length + 1) k 3
  obtain ⟨_, ⟨hq, hn⟩ | ⟨g, cap, cur, hq, hgB, hcur, hc1, hc2, hsz, htk⟩⟩ := h
  · injection hq with hq1 hq2 hq3
    subst hq1; subst hq3
    obtain rfl := List.eq_nil_of_length_eq_zero hn
    obtain rfl : i = 0 := by simpa using hi
    refine (Any2.slices_Insert_int_end_grow lays2n21 none 0 0 vb 0 1 1 [] [x] w (by omega) (by omega) (by omega) (by omega) rfl rfl (fun _ => rfl) (fun _ h => by cases h) hvs h1x).mono ?_
    rintro e w' ⟨rfl, rfl⟩
    refine ⟨_, _, rfl, ⟨hlen, .inr ⟨w.heap.size, _, _, rfl, hB, heap_alloc_new _ _, hg 0, hm 0, ?_, ?_⟩⟩, ?_⟩
    · rw [Array.size_append, zero1_size (.int .i64 0) rfl, Nat.mul_one]
      exact Nat.add_sub_cancel' (hg 0)
    · simp
    · exact ⟨Below.mono ((Ext.refl w).drew.alloc _) hB, fun k hk _ => Below.block ((Ext.refl w).drew.alloc _) k hk⟩
  · injection hq with hq1 hq2 hq3
    subst hq1; subst hq3
    have hcell : ∀ j, w.cell? ⟨g, 0 + j, none⟩ = cur[j]? := by intro j; simp [World.cell?, hcur]
    have hfz : ∀ j, w.frozen? ⟨g, 0 + j, none⟩ = false := by intro j; simp [World.frozen?, hcur]
    have hcs : ∀ j v, cs[j]? = some v → w.cell? ⟨g, 0 + j, none⟩ = some v := by
      intro j v hj
      rw [hcell, ← Array.getElem?_toList]
      rw [← htk, List.getElem?_take] at hj
      split at hj
      · exact hj
      · cases hj
    have hsome : ∀ j, j < cur.size → (w.cell? ⟨g, 0 + j, none⟩).isSome = true := by intro j hj; rw [hcell]; simp [hj]
    have hgv : vb ≠ g := fun e => hne (by simp [Value.ownBlock, e])
    have hsa : w.shape? vb = some (3, 1) := by simp [World.shape?, hv]
    have hsb : w.shape? g = some (3, cur.size) := by simp [World.shape?, hcur]
    have hfa : w.frozen? ⟨vb, 0, none⟩ = false := by simp [World.frozen?, hv]
    have hfe : w.frozen? ⟨vb, 1, none⟩ = false := by simp [World.frozen?, hv]
    have htk' : cur.toList.take cs.length = cs := by rw [Nat.mul_one] at htk; exact htk
    have hc2' := hc2
    unfold maxLen at hc2'
    by_cases hr : cs.length + 1 ≤ c
    · by_cases hin : i < cs.length
      · refine (Any2.slices_Insert_int_shift lays2n21 g 0 cs.length c i vb 0 1 1 cs [x] w hin (by omega) hr (by omega) hgv rfl rfl hcs (fun j hj => hsome j (by omega)) (fun j _ => hfz j) hvs h1 h1x _ _ _ _ hsa hsb (by omega) hfa hfe).mono ?_
        rintro e w' ⟨rfl, rfl⟩
        refine ⟨_, _, rfl, ⟨hlen, .inr ⟨g, c, _, rfl, hgB, setCells_heap _ _ _ _ _ _ _ (setCells_heap _ _ _ _ _ _ _ hcur), hr, hc2, by rw [putL_size, putL_size]; exact hsz, ?_⟩⟩, ?_⟩
        · rw [Nat.mul_one]; exact ins_place cur cs x i _ rfl hi (by omega) htk'
        · exact ⟨ext_setCells hgB _ _ _ (ext_setCells hgB _ _ _ (Below.mono (Ext.refl w).drew hB)), fun k _ hne' => (setCells_other (fun e => hne' (by simp [Value.ownBlock, e])) _ _ _).trans (setCells_other (fun e => hne' (by simp [Value.ownBlock, e])) _ _ _)⟩
      · obtain rfl : i = cs.length := by omega
        refine (Any2.slices_Insert_int_end_room lays2n21 g 0 cs.length c vb 0 1 1 [x] w (by omega) hr (by omega) rfl (fun j hj => by rw [Nat.add_assoc]; exact hsome _ (by omega)) (fun j _ => by rw [Nat.add_assoc]; exact hfz _) hvs h1x).mono ?_
        rintro e w' ⟨rfl, rfl⟩
        refine ⟨_, _, rfl, ⟨hlen, .inr ⟨g, c, _, rfl, hgB, setCells_heap _ _ _ _ _ _ _ hcur, hr, hc2, by rw [putL_size]; exact hsz, ?_⟩⟩, ?_⟩
        · have := ins_place cur cs x cs.length _ rfl hi (by omega) htk'
          rw [List.drop_of_length_le (Nat.le_refl _), putL] at this
          rw [Nat.mul_one, this, List.drop_of_length_le (Nat.le_refl _)]
        · exact ⟨ext_setCells hgB _ _ _ (Below.mono (Ext.refl w) hB), fun k _ hne' => setCells_other (fun e => hne' (by simp [Value.ownBlock, e])) _ _ _⟩
    · by_cases hin : i < cs.length
      · refine (Any2.slices_Insert_int_grow lays2n21 g 0 cs.length c i vb 0 1 1 cs [x] w hin (by omega) hc1 (by omega) (by omega) rfl rfl hcs hvs h1 h1x).mono ?_
        rintro e w' ⟨rfl, rfl⟩
        have hO : ∀ (t : TypeId) (O : Array Value), (w.alloc (.cells O t)).drew.heap[w.heap.size]? = some (.cells O t (0, 0)) := fun t O => heap_alloc_new w (.cells O t)
        refine ⟨_, _, rfl, ⟨hlen, .inr ⟨w.heap.size, _, _, rfl, hB, setCells_heap _ _ _ _ _ _ _ (setCells_heap _ _ _ _ _ _ _ (hO _ _)), hg c, hm c, ?_, ?_⟩⟩, ?_⟩
        · rw [putL_size, putL_size, Array.size_append, Array.size_append, zero1_size (.int .i64 0) rfl, zero1_size (.int .i64 0) rfl, Nat.mul_one, List.size_toArray, List.length_take, Nat.min_eq_left hi, Nat.add_sub_cancel' (by omega)]
          exact Nat.add_sub_cancel' (hg c)
        · rw [Nat.mul_one]
          refine ins_new _ cs x i _ rfl hi ?_ ?_
          · rw [Array.size_append, Array.size_append, zero1_size (.int .i64 0) rfl, zero1_size (.int .i64 0) rfl, List.size_toArray, List.length_take, Nat.min_eq_left hi, Nat.add_sub_cancel' (by omega)]
            exact Nat.le_add_right _ _
          · rw [Array.toList_append, Array.toList_append, List.append_assoc]
            exact List.take_left' (by simp; omega)
        · refine ⟨ext_setCells hB _ _ _ ?_, fun k hk _ => (setCells_other (by omega) _ _ _).trans ((setCells_other (by omega) _ _ _).trans (Below.block ((Ext.refl w).alloc _) k hk))⟩
          have q := ext_setCells (B := B) (b := w.heap.size) hB [x] i (w.alloc (.cells ((cs.take i).toArray ++ Builtin.zeroCells (Value.int .i64 0).cells (cs.length + 1 - i) ++ Builtin.zeroCells (Value.int .i64 0).cells (grownCap w (cs.length + 1) c (lays2n21_ren.t 3) - (cs.length + 1))) (lays2n21_ren.t 3))).drew (Below.mono ((Ext.refl w).alloc _).drew hB)
          exact Below.trans q ⟨rfl, rfl, rfl, Nat.le_refl _, fun _ _ => rfl⟩
      · obtain rfl : i = cs.length := by omega
        refine (Any2.slices_Insert_int_end_grow lays2n21 (some ⟨g, 0, none⟩) cs.length c vb 0 1 1 cs [x] w (by omega) hc1 (by omega) (by omega) rfl rfl (fun h => by cases h) (fun a h j v hj => by injection h with h; subst h; rw [Addr.add_lit]; exact hcs j v hj) hvs h1x).mono ?_
        rintro e w' ⟨rfl, rfl⟩
        refine ⟨_, _, rfl, ⟨hlen, .inr ⟨w.heap.size, _, _, rfl, hB, heap_alloc_new _ _, hg c, hm c, ?_, ?_⟩⟩, ?_⟩
        · rw [Array.size_append, zero1_size (.int .i64 0) rfl, Nat.mul_one, List.size_toArray, List.length_append, List.length_singleton]
          exact Nat.add_sub_cancel' (hg c)
        · rw [Nat.mul_one, List.take_length, List.drop_length, List.append_nil, Array.toList_append]
          exact List.take_left' (by simp)
        · exact ⟨Below.mono ((Ext.refl w).drew.alloc _) hB, fun k hk _ => Below.block ((Ext.refl w).drew.alloc _) k hk⟩
end Go.Proofs.YtghemmmkbpfdhaaDoor
