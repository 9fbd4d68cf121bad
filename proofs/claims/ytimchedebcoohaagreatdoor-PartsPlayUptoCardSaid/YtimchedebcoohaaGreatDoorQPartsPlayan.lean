/- Contracts and lemmas for the proof of PartsPlay; each theorem states its own conditions. -/
import Derived.Test.YtimchedebcoohaaGreatDoorQPartsPlayam
import Derived.Test.YtimchedebcoohaaGreatDoorQPartsPlayaf
import Derived.Test.YtimchedebcoohaaGreatDoorQPartsPlayai
set_option linter.unusedVariables false
set_option linter.unusedSimpArgs false
/- Contracts and lemmas for the proofs of this seat; each theorem states its own conditions. -/
namespace Go.Proofs.YtimchedebcoohaaGreatDoor
open Go.RowKit
theorem insP_any (B c : Nat) (a : Option Addr) (l : Prs) (i : Nat) (k : ByteArray) (n : Int) (vb : Nat) (w : World) (h : w.ownsRow B 55 2 (.slice a l.length c) l.length (cP l)) (hB : B ≤ w.heap.size) (hi : i ≤ l.length)
    (hv : w.heap[vb]? = some (.cells #[.string k, .int .i64 n] 55 (0, 0))) (hne : (Value.slice a l.length c).ownBlock ≠ some vb) (hlen : l.length ≤ 1000000) :
    Calls Tryz.prog 64 #[.slice a l.length c, .int .i64 i, .slice (some ⟨vb, 0, none⟩) 1 1] w fun e w' =>
      ∃ v', e = .returned v' ∧ Seg w' v' 2 (l.length + 1) (cP (l.take i ++ [(k, n)] ++ l.drop i)) ∧ Below B w w' := by
  by_cases hil : i < l.length
  · obtain ⟨g, cur, rfl, h1, h2, h3, h4, h5, h6, h7⟩ := own_row h (by omega)
    have hg : vb ≠ g := fun e => hne (by simp [Value.ownBlock, e])
    by_cases hr : l.length + 1 ≤ c
    · exact insP_room B c g l i k n vb w cur h3 h1 hr h5 h6 h7 hil hv hg hB hlen
    · exact insP_grow B c g l i k n vb w cur h3 h4 (by omega) h5 h6 h7 hil hv hB hlen
  · obtain rfl : i = l.length := by omega
    have := insP_end B c a l k n vb w h hB hv hlen
    rw [List.take_of_length_le (Nat.le_refl _), List.drop_of_length_le (Nat.le_refl _), List.append_nil]
    exact this
theorem cP_set (l : Prs) (i : Nat) (hi : i < l.length) (n : Int) : (cP l).set (i * 2 + 1) (.int .i64 n) = cP (l.take i ++ [(l[i].1, n)] ++ l.drop (i + 1)) := by
  induction l generalizing i with
  | nil => simp at hi
  | cons p l ih =>
    cases i with
    | zero => simp [cP]
    | succ i =>
      have := ih i (by simpa using hi)
      rw [show (i + 1) * 2 + 1 = i * 2 + 1 + 1 + 1 from by omega]
      simp only [cP, List.flatMap_cons, List.cons_append, List.nil_append, List.set_cons_succ, List.take_succ_cons, List.getElem_cons_succ, List.drop_succ_cons] at this ⊢
      rw [this]
theorem own_store {w : World} {B c : Nat} {a : Option Addr} {l : Prs} (h : w.ownsRow B 55 2 (.slice a l.length c) l.length (cP l)) (i : Nat) (hi : i < l.length) (n : Int) :
    ∃ g, a = some ⟨g, 0, none⟩ ∧ B ≤ g ∧ g < w.heap.size ∧ l.length ≤ c ∧ c ≤ maxLen ∧ (∃ u, w.cell? ⟨g, i * 2 + 1, none⟩ = some u) ∧ w.frozen? ⟨g, i * 2 + 1, none⟩ = false ∧
      (w.setCell ⟨g, i * 2 + 1, none⟩ (.int .i64 n)).ownsRow B 55 2 (.slice (some ⟨g, 0, none⟩) l.length c) l.length (cP (l.take i ++ [(l[i].1, n)] ++ l.drop (i + 1))) := by
  obtain ⟨g, cur, rfl, h1, h2, h3, h4, h5, h6, h7⟩ := own_row h (by omega)
  have hlt : i * 2 + 1 < cur.length := by omega
  have hset : w.setCell ⟨g, i * 2 + 1, none⟩ (.int .i64 n) = w.setRow g (cur.set (i * 2 + 1) (.int .i64 n)).toArray := by
    rw [setCell_eq_setRow w g (i * 2 + 1) cur.toArray 55 (0, 0) _ h3]; simp
  refine ⟨g, rfl, h1, h2, h4, h5, ⟨cur[i * 2 + 1], h3.cell (by simp [hlt])⟩, by unfold RowB at h3; simp [World.frozen?, h3], ?_⟩
  rw [hset]
  refine own_of_row (h3.set _) h1 h4 h5 (by simpa using h6) ?_ ?_
  · rw [cP_len, List.length_append, List.length_append, List.length_take, List.length_drop]; simp; omega
  · rw [← cP_set l i hi, List.take_set, h7]
set_option maxRecDepth 100000 in
set_option maxHeartbeats 1000000 in
theorem with_any (v : Value) (l : Prs) (key : ByteArray) (n : Int) (w : World) (hv : Seg w v 2 l.length (cP l)) (hs : srtP l) (hlen : l.length ≤ 1000000) :
    Calls Tryz.prog 39 #[v, .string key, .int .i64 n] w fun e w' => ∃ v', e = .returned v' ∧ w'.ownsRow w.heap.size 55 2 v' (withP l key n).length (cP (withP l key n)) ∧ Ext w w' := by
  go_enter Tryz.func39, Tryz.ntmps39
  go_wp2_with fail
  refine (sfind_any _ l key _ hv hs (by omega)).mono ?_
  rintro e w1 ⟨i, hc, rfl, E1⟩
  have hw := with_cut (n := n) hs hc
  have hi := hc.1
  have HC := hid hc
  clear hc
  go_wp2_with fail
  refine (clone_Pair _ _ _ _ (hv.ext E1) (cP_one _) (by omega)).mono ?_
  rintro e w2 ⟨a, c, rfl, ho, E2⟩
  cases hh : hitS (keysP l) key i with
  | true =>
    have hil := hit_lt hh
    rw [keysP_len] at hil
    have hk : l[i].1 = key := by
      rw [hitS_eq (by rw [keysP_len]; exact hil), keysP_get] at hh
      exact toList_inj (by simpa using hh)
    have HW := hid (hw.1 hh)
    have HK := hid hk
    clear hw hk
    by_cases hn : n = 0
    · have hn' : (n == 0) = true := by simp [hn]
      have HN := hid hn
      clear hn
      obtain ⟨g, cur, rfl, h1, h2, h3, h4, h5, h6, h7⟩ := own_row ho (by omega)
      go_wp2_with fail
      refine (delP_any w1.heap.size c g l i _ cur h3 h1 h4 h5 h6 h7 hil hlen).mono ?_
      rintro e w3 ⟨v3, rfl, hsg, hB3⟩
      go_wp2_with fail
      refine (clone_Pair _ _ _ _ hsg (cP_one _) (by omega)).mono ?_
      rintro e w4 ⟨a4, c4, rfl, ho4, E4⟩
      go_wp2
      go_ret
      have hE : withP l key n = l.take i ++ l.drop (i + 1) := by rw [HW.out, if_pos HN.out, List.append_nil]
      have hL : (withP l key n).length = l.length - 1 := by rw [hE, List.length_append, List.length_take, List.length_drop]; omega
      have hE3 : Ext w1 w3 := Below.trans E2 hB3
      refine ⟨_, rfl, ?_, E1.trans (hE3.trans E4)⟩
      rw [hL, hE]
      exact own_base ho4 (by have := E1.size'; have := hE3.size'; omega)
    · have hn' : (n == 0) = false := by simp [hn]
      have HN := hid hn
      clear hn
      obtain ⟨g, rfl, h1, h2, h3, h4, ⟨u, h5⟩, h6, h7⟩ := own_store ho i hil n
      unfold maxLen at h4
      have q1 : (0 : Int) ≤ (i : Int) := by omega
      have q2 : (i : Int) < (l.length : Int) := by omega
      have hE3 := E2.setCell (p := ⟨g, i * 2 + 1, none⟩) h1 (.int .i64 n)
      go_wp2
      go_ret
      have hE : withP l key n = l.take i ++ [(l[i].1, n)] ++ l.drop (i + 1) := by rw [HW.out, if_neg HN.out, HK.out]
      have hL : (withP l key n).length = l.length := by rw [hE]; simp; omega
      refine ⟨_, rfl, ?_, E1.trans hE3⟩
      rw [hL, hE]
      exact own_base h7 (by have := E1.size'; omega)
  | false =>
    have HW := hid (hw.2 hh)
    clear hw
    by_cases hn : n = 0
    · have hn' : (n == 0) = true := by simp [hn]
      have HN := hid hn
      clear hn
      go_wp2
      go_ret
      have hE : withP l key n = l := by rw [HW.out, if_pos HN.out, List.append_nil, List.take_append_drop]
      refine ⟨_, rfl, ?_, E1.trans E2⟩
      rw [hE]
      exact own_base ho (by have := E1.size'; omega)
    · have hn' : (n == 0) = false := by simp [hn]
      have HN := hid hn
      clear hn
      have hvb := heap_alloc_new w2 (.cells #[.string key, .int .i64 n] 55)
      have hlt := ho.lt
      go_wp2_with fail
      refine (insP_any w1.heap.size c a l i key n w2.heap.size _ (ho.alloc _) (by have := E2.size'; simp; omega) hi hvb (fun e => by have := (hlt _ e).2; omega) hlen).mono ?_
      rintro e w3 ⟨v3, rfl, hsg, hB3⟩
      go_wp2_with fail
      refine (clone_Pair _ _ _ _ hsg (cP_one _) (by omega)).mono ?_
      rintro e w4 ⟨a4, c4, rfl, ho4, E4⟩
      go_wp2
      go_ret
      have hE : withP l key n = l.take i ++ [(key, n)] ++ l.drop i := by rw [HW.out, if_neg HN.out]
      have hL : (withP l key n).length = l.length + 1 := by rw [hE]; simp; omega
      have hE3 : Ext w1 w3 := Below.trans (E2.alloc _) hB3
      refine ⟨_, rfl, ?_, E1.trans (hE3.trans E4)⟩
      rw [hL, hE]
      exact own_base ho4 (by have := E1.size'; have := hE3.size'; omega)
end Go.Proofs.YtimchedebcoohaaGreatDoor

/- Contracts and lemmas for the proofs of this seat; each theorem states its own conditions. -/
namespace Go.Proofs.YtimchedebcoohaaGreatDoor
open Go.RowKit
def getE (l : Prs) (key : ByteArray) : Int := if storeErr l ≠ 0 then storeErr l else if keyB key then 0 else 3
def getV (l : Prs) (key : ByteArray) : Int := if storeErr l = 0 ∧ keyB key = true then valP l key else 0
def putE (l : Prs) (key : ByteArray) (n : Int) : Int := if storeErr l ≠ 0 then storeErr l else if keyB key = false then 3 else if valB n then 0 else 1
end Go.Proofs.YtimchedebcoohaaGreatDoor

/- Contracts and lemmas for the proofs of this seat; each theorem states its own conditions. -/
namespace Go.Proofs.YtimchedebcoohaaGreatDoor
open Go.RowKit
/-! Scan, Total -/
def inB (f t : ByteArray) (p : ByteArray × Int) : Bool := !(blt p.1 f) && (t.toList.isEmpty || blt p.1 t)
def scanP (l : Prs) (f t : ByteArray) : Prs := l.filter (inB f t)
theorem scan_step {l : Prs} {f t : ByteArray} {k : Nat} (hk : k < l.length) : scanP (l.take (k + 1)) f t = scanP (l.take k) f t ++ (if inB f t l[k] then [l[k]] else []) := by
  unfold scanP
  rw [List.take_succ_eq_append_getElem hk, List.filter_append]
  congr 1
  rw [List.filter_cons]; rfl
theorem scan_len (l : Prs) (f t : ByteArray) (k : Nat) : (scanP (l.take k) f t).length ≤ k := by
  have := List.length_filter_le (inB f t) (l.take k)
  rw [List.length_take] at this
  unfold scanP; omega
theorem cP_one1 (p : ByteArray × Int) : cP [p] = [.string p.1, .int .i64 p.2] := by simp [cP]
/-- the total, as Go adds it -/
def totTo : Prs → Int
  | [] => 0
  | p :: l => p.2 + totTo l
theorem tot_app (l m : Prs) : totTo (l ++ m) = totTo l + totTo m := by
  induction l with
  | nil => simp [totTo]
  | cons p l ih => simp only [List.cons_append, totTo, ih]; omega
theorem tot_step {l : Prs} {k : Nat} (hk : k < l.length) : totTo (l.take (k + 1)) = totTo (l.take k) + l[k].2 := by
  rw [List.take_succ_eq_append_getElem hk, tot_app]; simp [totTo]
theorem tot_bd {l : Prs} (h : ∀ p ∈ l, -1000000000 ≤ p.2 ∧ p.2 ≤ 1000000000) : ∀ k, k ≤ l.length → -1000000000 * (k : Int) ≤ totTo (l.take k) ∧ totTo (l.take k) ≤ 1000000000 * (k : Int)
  | 0, _ => by simp [totTo]
  | k + 1, hk => by
    have ih := tot_bd h k (by omega)
    have := h l[k] (List.getElem_mem (by omega))
    rw [tot_step (by omega)]
    omega
def totE (l : Prs) : Int := storeErr l
end Go.Proofs.YtimchedebcoohaaGreatDoor

/- Contracts and lemmas for the proofs of this seat; each theorem states its own conditions. -/
namespace Go.Proofs.YtimchedebcoohaaGreatDoor
open Go.RowKit Go.Shelf Go.Lib Go.Sort
/-! sort.Slice at pairs -/
def encP (p : ByteArray × Int) : List Value := [.string p.1, .int .i64 p.2]
def ltP (a b : ByteArray × Int) : Bool := blt a.1 b.1
theorem swo_ltP : SWO ltP := ⟨fun _ => blt_irrefl _, fun _ _ _ h k => blt_trans h k, fun x y z h k => by
  cases hx : ltP x z with
  | false => rfl
  | true =>
    unfold ltP at h k hx
    rcases blt_of_not h with e | e
    · rw [e] at hx; rw [hx] at k; cases k
    · have := blt_trans e hx; rw [this] at k; cases k⟩
theorem flat_cP (d : Array (ByteArray × Int)) : (flatK encP 2 d).toList = cP d.toList := by
  apply List.ext_getElem?
  intro t
  by_cases ht : t < d.size * 2
  · have h := get_flatK encP 2 d t ht
    have hs : t < (flatK encP 2 d).size := by rw [size_flatK]; exact ht
    rw [getElem!_pos _ t hs] at h
    rw [List.getElem?_eq_getElem (by simpa using hs), Array.getElem_toList, h]
    have hq : t / 2 < d.toList.length := by simp; omega
    have hd : d[t / 2]! = d.toList[t / 2] := by rw [getElem!_pos d (t / 2) (by simpa using hq)]; simp
    rw [hd]
    obtain ⟨c0, c1⟩ := cP_at d.toList (t / 2) hq
    generalize hu : t / 2 = u at *
    rcases Nat.mod_two_eq_zero_or_one t with h0 | h0
    · obtain rfl : t = u * 2 := by omega
      rw [c0, h0]; simp [encP]
    · obtain rfl : t = u * 2 + 1 := by omega
      rw [c1, h0]; simp [encP]
  · rw [List.getElem?_eq_none (by simp; omega), List.getElem?_eq_none (by rw [cP_len]; simp; omega)]
theorem row_put {w : World} {g : Nat} {e : TypeId} {cur : List Value} (h : RowB w g e cur) (F : Array Value) (hF : F.size ≤ cur.length) : RowB (putRow id w g 0 F) g e (F.toList ++ cur.drop F.size) := by
  unfold RowB at *
  unfold putRow mapBlock
  simp only [Array.getElem?_modify, h, if_true, Option.map_some, onCells]
  congr 2
  apply Array.ext_getElem?
  intro k
  simp only [putCells, Array.getElem?_mapIdx, List.getElem?_toArray, List.getElem?_append, Array.length_toList, List.getElem?_drop, Array.getElem?_toList]
  by_cases hk : k < F.size
  · rw [if_pos hk, List.getElem?_eq_getElem (by omega)]
    simp [hk]
  · rw [if_neg hk, show F.size + (k - F.size) = k by omega]
    cases cur[k]? with
    | none => rfl
    | some u => simp [hk]
theorem put_other (w : World) (g : Nat) (F : Array Value) {k : Nat} (hk : k ≠ g) : (putRow id w g 0 F).heap[k]? = w.heap[k]? := by
  unfold putRow mapBlock
  simp [Array.getElem?_modify, Ne.symm hk]
theorem put_size (w : World) (g : Nat) (F : Array Value) : (putRow id w g 0 F).heap.size = w.heap.size := by
  unfold putRow mapBlock
  simp
theorem put_grown (w : World) (g : Nat) (F : Array Value) (n : Nat) (os : Array Obj) : w.grownBy (grow (putRow id (Sort.ahead w n) g 0 F) os) (some g) := by
  refine ⟨rfl, rfl, rfl, ?_, fun k hk hne => ?_⟩
  · rw [size_grow, put_size]; exact Nat.le_add_right _ _
  · have hk' : k < (putRow id (Sort.ahead w n) g 0 F).heap.size := by rw [put_size]; exact hk
    rw [heap_grow_old _ _ hk', put_other _ _ _ (fun e => hne (by rw [e]))]
    rfl
theorem grow_ext (w : World) (os : Array Obj) : Ext w (grow w os) := ⟨rfl, rfl, rfl, by rw [size_grow]; exact Nat.le_add_right _ _, fun _ hk => heap_grow_old _ _ hk⟩
theorem holds_row {w : World} {g : Nat} {e : TypeId} {cur : List Value} (h : RowB w g e cur) (d : Array (ByteArray × Int)) (ht : cur.take (d.size * 2) = cP d.toList) (hl : d.size * 2 ≤ cur.length) : HoldsK encP 2 w g 0 d := by
  intro j hj
  rw [size_flatK] at hj
  have hs : j < (flatK encP 2 d).size := by rw [size_flatK]; exact hj
  have e1 : (cP d.toList)[j]? = some ((flatK encP 2 d)[j]!) := by
    rw [← flat_cP, getElem!_pos _ j hs, List.getElem?_eq_getElem (by simpa using hs)]; simp
  rw [← ht, List.getElem?_take, if_pos hj] at e1
  refine ⟨by rw [Nat.zero_add]; exact h.cell e1, ?_⟩
  unfold RowB at h
  simp [World.frozen?, h]
noncomputable def slTI : TypeInfo := (Tryz.prog.info? 26).get (by kernel_rfl)
noncomputable def slTE : TypeInfo := (Tryz.prog.info? 55).get (by kernel_rfl)
theorem slK (n : Nat) (h2 : 2 ≤ n) : Lib.swapperK n slTE 25 = 9 := by
  have a : slTE.hasPointers = true := by kernel_rfl
  have b : slTE.bytes = 24 := by kernel_rfl
  have c : (n == 0) = false := by simp; omega
  have d : (n == 1) = false := by simp; omega
  simp [Lib.swapperK, a, b, c, d]
set_option maxHeartbeats 2000000 in
theorem listLess (blk off c Bs size : Nat) (W : World) (G : Nat → ByteArray) (hs : W.cell? ⟨Bs, 0, none⟩ = some (.slice (some ⟨blk, off, none⟩) size c))
    (hc : ∀ t, t < size → W.cell? ⟨blk, off + t * 2, none⟩ = some (.string (G t))) (i j : Nat) (hi : i < size) (hj : j < size) (_hsz : size < 4611686018427387904) :
    Calls Tryz.prog 44 #[.int .i64 i, .int .i64 j, .pointer (some ⟨Bs, 0, none⟩)] W fun e w' => e = .returned (.bool (blt (G i) (G j))) ∧ ∃ q, w' = W.drewN q := by
  have ci := hc i hi
  have cj := hc j hj
  clear hc
  go_enter Tryz.func44, Tryz.ntmps44
  go_wp2
  go_quiet (fail)
  go_wp2
  go_ret
  exact ⟨rfl, nq, rfl⟩
theorem sortP_two (blk c Bs : Nat) (d : Array (ByteArray × Int)) (h2 : 2 ≤ d.size) (hsz : d.size < 4611686018427387904) (w : World) (hH : HoldsK encP 2 w blk 0 d) (hblk : blk < w.heap.size)
    (hBs : w.cell? ⟨Bs, 0, none⟩ = some (.slice (some ⟨blk, 0, none⟩) d.size c)) (hB1 : Bs < w.heap.size) (hB2 : Bs ≠ blk) :
    Calls Tryz.prog 43 #[.iface 26 (.slice (some ⟨blk, 0, none⟩) d.size c), .func (.func 44) #[] #[.pointer (some ⟨Bs, 0, none⟩)]] w fun e w' =>
      e = .returned (.tuple #[]) ∧ ∃ d' n os, PermIn 0 d.size d d' ∧ SortedIn ltP 0 d.size d' ∧ w' = grow (putRowK encP 2 (Sort.ahead w n) blk 0 d') os := by
  have hless : LessReadsK Tryz.prog 44 #[.pointer (some ⟨Bs, 0, none⟩)] encP 2 ltP blk 0 d.size w := by
    intro m os dk hs i j hi hj
    have e : sortWorldK encP 2 w blk 0 m dk os = putRowK encP 2 (grow (Sort.ahead w m) os) blk 0 dk := by
      unfold sortWorldK; rw [putRowK_grow _ _ (Sort.ahead w m) _ blk 0 _ hblk]
    have hHg : HoldsK encP 2 (grow (Sort.ahead w m) os) blk 0 d := holdsK_grow _ _ _ _ blk 0 d hblk (holdsK_ahead _ _ _ _ _ _ _ hH)
    refine listLess blk 0 c Bs d.size _ (fun t => dk[t]!.1) ?_ (fun t ht => ?_) i j hi hj (by omega)
    · rw [e, cell?_putRowK_other _ _ _ blk 0 dk _ (by exact hB2), cell?_grow _ _ _ (by exact hB1)]; exact hBs
    · rw [e]; exact ((holdsK_putRowK _ _ _ blk 0 d dk hHg hs).cell (i := t) (c := 0) (by omega) (by omega)).1
  exact Any.sort_Slice_cells_sorted laysGg6 26 55 slTI slTE (by kernel_rfl) (by kernel_rfl) (by kernel_rfl) (by kernel_rfl) 25 (fun _ => by kernel_rfl) encP 2 (fun _ => rfl) (by kernel_rfl) (fun _ => by kernel_rfl)
    (fun x v hv => by simp [encP] at hv; rcases hv with rfl | rfl <;> rfl) ltP swo_ltP 44 _
    (enters_of Tryz.func44 (by kernel_rfl) rfl) blk 0 c d h2 hsz 99 (by rw [slK _ h2]; kernel_rfl) false
    (fun args W => run_callFunc_extern Tryz.func99 (by kernel_rfl) (by kernel_rfl) (by kernel_rfl) (e := Extern.ReflectliteSwapper.swap false) (by kernel_rfl) args W) w hless hH hblk
theorem sortP_any (B c Bs : Nat) (a : Option Addr) (l : Prs) (w : World) (h : w.ownsRow B 55 2 (.slice a l.length c) l.length (cP l)) (hn : l.length < 1000000000)
    (hBs : w.cell? ⟨Bs, 0, none⟩ = some (.slice a l.length c)) (hne : (Value.slice a l.length c).ownBlock ≠ some Bs) :
    Calls Tryz.prog 43 #[.iface 26 (.slice a l.length c), .func (.func 44) #[] #[.pointer (some ⟨Bs, 0, none⟩)]] w fun e w' =>
      e = .returned (.tuple #[]) ∧ ∃ l' : Prs, l'.length = l.length ∧ l'.Perm l ∧ l'.Pairwise (fun p q => blt q.1 p.1 = false) ∧ w'.ownsRow B 55 2 (.slice a l.length c) l.length (cP l') ∧ w.grownBy w' (Value.slice a l.length c).ownBlock := by
  by_cases h2 : 2 ≤ l.length
  · obtain ⟨g, cur, rfl, h3, h4, hrow, h5, h6, h7, h8⟩ := own_row h (by omega)
    have hB1 := World.block_lt_of_cell? w _ hBs
    have hB2 : Bs ≠ g := fun e => hne (by simp [Value.ownBlock, e])
    have hH := holds_row hrow l.toArray (by simpa using h8) (by simp; omega)
    refine (sortP_two g c Bs l.toArray (by simpa using h2) (by simp; omega) w hH h4 (by simpa using hBs) hB1 hB2).mono ?_
    rintro e w' ⟨rfl, d', n, os, ⟨p1, p2, p3⟩, hso, rfl⟩
    have hds : d'.size = l.length := by simpa using p1
    refine ⟨rfl, d'.toList, by simpa using hds, ?_, ?_, ?_, put_grown _ _ _ _ _⟩
    · have e1 : d'.extract 0 l.toArray.size = d' := by rw [List.size_toArray, ← hds]; exact Array.extract_size
      have e2 : l.toArray.extract 0 l.toArray.size = l.toArray := Array.extract_size
      rw [e1, e2] at p3
      simpa using p3
    · rw [List.pairwise_iff_getElem]
      intro i j hi hj hij
      have := hso i j (Nat.zero_le _) hij (by simpa [hds] using hj)
      rw [getElem!_pos d' i (by simpa using hi), getElem!_pos d' j (by simpa using hj)] at this
      exact this
    · have hF : (flatK encP 2 d').size ≤ cur.length := by rw [size_flatK, hds]; omega
      have hr := row_put (w := Sort.ahead w n) (e := 55) (cur := cur) hrow (flatK encP 2 d') hF
      have hr' : RowB (grow (putRowK encP 2 (Sort.ahead w n) g 0 d') os) g 55 ((flatK encP 2 d').toList ++ cur.drop (flatK encP 2 d').size) := by
        unfold RowB at hr ⊢
        rw [heap_grow_old _ _ (by exact (Array.getElem?_eq_some_iff.1 hr).1)]
        exact hr
      refine own_of_row hr' h3 h5 h6 ?_ ?_ ?_
      · simp only [List.length_append, Array.length_toList, List.length_drop]; omega
      · rw [cP_len]; simp [hds]
      · rw [List.take_left' (by simp [hds]), flat_cP]
  · have key : ∀ f, Tryz.prog.funcs.findIdx? (·.name == "internal/reflectlite" ++ ".Swapper$" ++ toString (Lib.swapperK l.length slTE 25)) = some f → Calls Tryz.prog 43 #[.iface 26 (.slice a l.length c), .func (.func 44) #[] #[.pointer (some ⟨Bs, 0, none⟩)]] w fun e w' => e = .returned (.tuple #[]) ∧ ∃ os, w' = grow w os :=
      fun f hf => Any.sort_Slice_tiny laysGg6 26 55 slTI slTE (by kernel_rfl) (by kernel_rfl) (by kernel_rfl) (by kernel_rfl) 25 (fun _ => by kernel_rfl) a l.length c (by omega) f hf _ _ _ w
    have hk : ∃ f, Tryz.prog.funcs.findIdx? (·.name == "internal/reflectlite" ++ ".Swapper$" ++ toString (Lib.swapperK l.length slTE 25)) = some f := by
      rcases (show l.length = 0 ∨ l.length = 1 by omega) with e | e
      · rw [e]; exact ⟨91, by kernel_rfl⟩
      · rw [e]; exact ⟨92, by kernel_rfl⟩
    obtain ⟨f, hf⟩ := hk
    refine (key f hf).mono ?_
    rintro e w' ⟨rfl, os, rfl⟩
    have E := grow_ext w os
    refine ⟨rfl, l, rfl, List.Perm.refl _, ?_, own_ext h E, ⟨E.os, E.tape, E.output, E.size', fun k hk _ => Below.block E k hk⟩⟩
    rcases l with _ | ⟨p, _ | ⟨q, l⟩⟩
    · exact List.Pairwise.nil
    · simp
    · simp at h2
/-- what was gathered, in order -/
theorem gath_end {f : ByteArray → Option Int} {left : Lit → Bool} {l l' : Prs} (hG : Gath f left l) (hl : ∀ k, left k = false) (hp : l'.Perm l) (hs : l'.Pairwise (fun p q => blt q.1 p.1 = false)) (hF : ∀ k a, f k = some a → okS k) :
    srtP l' ∧ nzP l' ∧ ∀ k, valP l' k = (f k).getD 0 := by
  obtain ⟨h1, h2, h3⟩ := hG
  have hmem : ∀ p, p ∈ l' ↔ f p.1 = some p.2 ∧ p.2 ≠ 0 := fun p => by
    rw [hp.mem_iff]
    constructor
    · intro h
      have := (h3 p.1 p.2 (h2 p h)).1 h
      exact ⟨this.1, this.2.1⟩
    · rintro ⟨e, e2⟩
      exact (h3 p.1 p.2 (hF _ _ e)).2 ⟨e, e2, hl _⟩
  have hnd : (l'.map (·.1)).Nodup := (hp.map (·.1)).nodup_iff.2 h1
  have hsrt : srtP l' := by
    rw [List.Nodup, List.pairwise_map] at hnd
    have := List.Pairwise.and hnd hs
    refine this.imp ?_
    rintro p q ⟨a, b⟩
    rcases blt_of_not b with e | e
    · exact absurd e.symm a
    · exact e
  have hnz : nzP l' := fun p hp' => ((hmem p).1 hp').2
  refine ⟨hsrt, hnz, fun k => ?_⟩
  by_cases hv : valP l' k = 0
  · rw [hv]
    cases hf : f k with
    | none => rfl
    | some c =>
      by_cases hc : c = 0
      · subst hc; rfl
      · have := (mem_valP hsrt hnz).1 ((hmem (k, c)).2 ⟨hf, hc⟩)
        rw [hv] at this
        exact absurd this.1.symm hc
  · have := (hmem _).1 (valP_ne hv)
    rw [this.1]; rfl
end Go.Proofs.YtimchedebcoohaaGreatDoor
