/- Contracts and lemmas for the proof of TopPlan; each theorem states its own conditions. -/
import Derived.Test.YtimchedebcoohaaGreatQTopPlanap
import Derived.Test.YtimchedebcoohaaGreatQTopPlanak
import Derived.Test.YtimchedebcoohaaGreatQTopPlanah
import Derived.OneCell
set_option linter.unusedVariables false
set_option linter.unusedSimpArgs false
/- Contracts and lemmas for the proofs of this seat; each theorem states its own conditions. -/
namespace Go.Proofs.YtimchedebcoohaaGreat
open Go.RowKit Go.Shelf Go.Lib Go.Sort
/-! sort.Slice at pairs -/
def encP (p : ByteArray × Int) : List Value := [.string p.1, .int .i64 p.2]
def ltP (a b : ByteArray × Int) : Bool := blt a.1 b.1
theorem swo_ltP : SWO ltP := ⟨fun _ => blt_irrefl _, fun _ _ _ h k => blt_trans h k, fun x y z h k => by
  cases hx : ltP x z with
  | false => rfl
  | true =>
    unfold ltP at h k hx
    rcases blt_of_not h with e | e
    · rw [e] at hx; rw [hx] at k; cases k
    · have := blt_trans e hx; rw [this] at k; cases k⟩
theorem flat_cP (d : Array (ByteArray × Int)) : (flatK encP 2 d).toList = cP d.toList := by
  apply List.ext_getElem?
  intro t
  by_cases ht : t < d.size * 2
  · have h := get_flatK encP 2 d t ht
    have hs : t < (flatK encP 2 d).size := by rw [size_flatK]; exact ht
    rw [getElem!_pos _ t hs] at h
    rw [List.getElem?_eq_getElem (by simpa using hs), Array.getElem_toList, h]
    have hq : t / 2 < d.toList.length := by simp; omega
    have hd : d[t / 2]! = d.toList[t / 2] := by rw [getElem!_pos d (t / 2) (by simpa using hq)]; simp
    rw [hd]
    obtain ⟨c0, c1⟩ := cP_at d.toList (t / 2) hq
    generalize hu : t / 2 = u at *
    rcases Nat.mod_two_eq_zero_or_one t with h0 | h0
    · obtain rfl : t = u * 2 := by omega
      rw [c0, h0]; simp [encP]
    · obtain rfl : t = u * 2 + 1 := by omega
      rw [c1, h0]; simp [encP]
  · rw [List.getElem?_eq_none (by simp; omega), List.getElem?_eq_none (by rw [cP_len]; simp; omega)]
theorem row_put {w : World} {g : Nat} {e : TypeId} {cur : List Value} (h : RowB w g e cur) (F : Array Value) (hF : F.size ≤ cur.length) : RowB (putRow id w g 0 F) g e (F.toList ++ cur.drop F.size) := by
  unfold RowB at *
  unfold putRow mapBlock
  simp only [Array.getElem?_modify, h, if_true, Option.map_some, onCells]
  congr 2
  apply Array.ext_getElem?
  intro k
  simp only [putCells, Array.getElem?_mapIdx, List.getElem?_toArray, List.getElem?_append, Array.length_toList, List.getElem?_drop, Array.getElem?_toList]
  by_cases hk : k < F.size
  · rw [if_pos hk, List.getElem?_eq_getElem (by omega)]
    simp [hk]
  · rw [if_neg hk, show F.size + (k - F.size) = k by omega]
    cases cur[k]? with
    | none => rfl
    | some u => simp [hk]
theorem put_other (w : World) (g : Nat) (F : Array Value) {k : Nat} (hk : k ≠ g) : (putRow id w g 0 F).heap[k]? = w.heap[k]? := by
  unfold putRow mapBlock
  simp [Array.getElem?_modify, Ne.symm hk]
theorem put_size (w : World) (g : Nat) (F : Array Value) : (putRow id w g 0 F).heap.size = w.heap.size := by
  unfold putRow mapBlock
  simp
theorem put_grown (w : World) (g : Nat) (F : Array Value) (n : Nat) (os : Array Obj) : w.grownBy (grow (putRow id (Sort.ahead w n) g 0 F) os) (some g) := by
  refine ⟨rfl, rfl, rfl, ?_, fun k hk hne => ?_⟩
  · rw [size_grow, put_size]; exact Nat.le_add_right _ _
  · have hk' : k < (putRow id (Sort.ahead w n) g 0 F).heap.size := by rw [put_size]; exact hk
    rw [heap_grow_old _ _ hk', put_other _ _ _ (fun e => hne (by rw [e]))]
    rfl
theorem grow_ext (w : World) (os : Array Obj) : Ext w (grow w os) := ⟨rfl, rfl, rfl, by rw [size_grow]; exact Nat.le_add_right _ _, fun _ hk => heap_grow_old _ _ hk⟩
theorem holds_row {w : World} {g : Nat} {e : TypeId} {cur : List Value} (h : RowB w g e cur) (d : Array (ByteArray × Int)) (ht : cur.take (d.size * 2) = cP d.toList) (hl : d.size * 2 ≤ cur.length) : HoldsK encP 2 w g 0 d := by
  intro j hj
  rw [size_flatK] at hj
  have hs : j < (flatK encP 2 d).size := by rw [size_flatK]; exact hj
  have e1 : (cP d.toList)[j]? = some ((flatK encP 2 d)[j]!) := by
    rw [← flat_cP, getElem!_pos _ j hs, List.getElem?_eq_getElem (by simpa using hs)]; simp
  rw [← ht, List.getElem?_take, if_pos hj] at e1
  refine ⟨by rw [Nat.zero_add]; exact h.cell e1, ?_⟩
  unfold RowB at h
  simp [World.frozen?, h]
noncomputable def slTI : TypeInfo := (Tryz.prog.info? 22).get (by kernel_rfl)
noncomputable def slTE : TypeInfo := (Tryz.prog.info? 33).get (by kernel_rfl)
theorem slK (n : Nat) (h2 : 2 ≤ n) : Lib.swapperK n slTE 25 = 9 := by
  have a : slTE.hasPointers = true := by kernel_rfl
  have b : slTE.bytes = 24 := by kernel_rfl
  have c : (n == 0) = false := by simp; omega
  have d : (n == 1) = false := by simp; omega
  simp [Lib.swapperK, a, b, c, d]
set_option maxHeartbeats 2000000 in
theorem listLess (blk off c Bs size : Nat) (W : World) (G : Nat → ByteArray) (hs : W.cell? ⟨Bs, 0, none⟩ = some (.slice (some ⟨blk, off, none⟩) size c))
    (hc : ∀ t, t < size → W.cell? ⟨blk, off + t * 2, none⟩ = some (.string (G t))) (i j : Nat) (hi : i < size) (hj : j < size) (_hsz : size < 4611686018427387904) :
    Calls Tryz.prog 115 #[.int .i64 i, .int .i64 j, .pointer (some ⟨Bs, 0, none⟩)] W fun e w' => e = .returned (.bool (blt (G i) (G j))) ∧ ∃ q, w' = W.drewN q := by
  have ci := hc i hi
  have cj := hc j hj
  clear hc
  go_enter Tryz.func115, Tryz.ntmps115
  go_wp2
  go_quiet (fail)
  go_wp2
  go_ret
  exact ⟨rfl, nq, rfl⟩
theorem sortP_two (blk c Bs : Nat) (d : Array (ByteArray × Int)) (h2 : 2 ≤ d.size) (hsz : d.size < 4611686018427387904) (w : World) (hH : HoldsK encP 2 w blk 0 d) (hblk : blk < w.heap.size)
    (hBs : w.cell? ⟨Bs, 0, none⟩ = some (.slice (some ⟨blk, 0, none⟩) d.size c)) (hB1 : Bs < w.heap.size) (hB2 : Bs ≠ blk) :
    Calls Tryz.prog 114 #[.iface 22 (.slice (some ⟨blk, 0, none⟩) d.size c), .func (.func 115) #[] #[.pointer (some ⟨Bs, 0, none⟩)]] w fun e w' =>
      e = .returned (.tuple #[]) ∧ ∃ d' n os, PermIn 0 d.size d d' ∧ SortedIn ltP 0 d.size d' ∧ w' = grow (putRowK encP 2 (Sort.ahead w n) blk 0 d') os := by
  have hless : LessReadsK Tryz.prog 115 #[.pointer (some ⟨Bs, 0, none⟩)] encP 2 ltP blk 0 d.size w := by
    intro m os dk hs i j hi hj
    have e : sortWorldK encP 2 w blk 0 m dk os = putRowK encP 2 (grow (Sort.ahead w m) os) blk 0 dk := by
      unfold sortWorldK; rw [putRowK_grow _ _ (Sort.ahead w m) _ blk 0 _ hblk]
    have hHg : HoldsK encP 2 (grow (Sort.ahead w m) os) blk 0 d := holdsK_grow _ _ _ _ blk 0 d hblk (holdsK_ahead _ _ _ _ _ _ _ hH)
    refine listLess blk 0 c Bs d.size _ (fun t => dk[t]!.1) ?_ (fun t ht => ?_) i j hi hj (by omega)
    · rw [e, cell?_putRowK_other _ _ _ blk 0 dk _ (by exact hB2), cell?_grow _ _ _ (by exact hB1)]; exact hBs
    · rw [e]; exact ((holdsK_putRowK _ _ _ blk 0 d dk hHg hs).cell (i := t) (c := 0) (by omega) (by omega)).1
  exact Any.sort_Slice_cells_sorted laysGg6 22 33 slTI slTE (by kernel_rfl) (by kernel_rfl) (by kernel_rfl) (by kernel_rfl) 25 (fun _ => by kernel_rfl) encP 2 (fun _ => rfl) (by kernel_rfl) (fun _ => by kernel_rfl)
    (fun x v hv => by simp [encP] at hv; rcases hv with rfl | rfl <;> rfl) ltP swo_ltP 115 _
    (enters_of Tryz.func115 (by kernel_rfl) rfl) blk 0 c d h2 hsz 163 (by rw [slK _ h2]; kernel_rfl) false
    (fun args W => run_callFunc_extern Tryz.func163 (by kernel_rfl) (by kernel_rfl) (by kernel_rfl) (e := Extern.ReflectliteSwapper.swap false) (by kernel_rfl) args W) w hless hH hblk
theorem sortP_any (B c Bs : Nat) (a : Option Addr) (l : Prs) (w : World) (h : w.ownsRow B 33 2 (.slice a l.length c) l.length (cP l)) (hn : l.length < 1000000000)
    (hBs : w.cell? ⟨Bs, 0, none⟩ = some (.slice a l.length c)) (hne : (Value.slice a l.length c).ownBlock ≠ some Bs) :
    Calls Tryz.prog 114 #[.iface 22 (.slice a l.length c), .func (.func 115) #[] #[.pointer (some ⟨Bs, 0, none⟩)]] w fun e w' =>
      e = .returned (.tuple #[]) ∧ ∃ l' : Prs, l'.length = l.length ∧ l'.Perm l ∧ l'.Pairwise (fun p q => blt q.1 p.1 = false) ∧ w'.ownsRow B 33 2 (.slice a l.length c) l.length (cP l') ∧ w.grownBy w' (Value.slice a l.length c).ownBlock := by
  by_cases h2 : 2 ≤ l.length
  · obtain ⟨g, cur, rfl, h3, h4, hrow, h5, h6, h7, h8⟩ := own_row h (by omega)
    have hB1 := World.block_lt_of_cell? w _ hBs
    have hB2 : Bs ≠ g := fun e => hne (by simp [Value.ownBlock, e])
    have hH := holds_row hrow l.toArray (by simpa using h8) (by simp; omega)
    refine (sortP_two g c Bs l.toArray (by simpa using h2) (by simp; omega) w hH h4 (by simpa using hBs) hB1 hB2).mono ?_
    rintro e w' ⟨rfl, d', n, os, ⟨p1, p2, p3⟩, hso, rfl⟩
    have hds : d'.size = l.length := by simpa using p1
    refine ⟨rfl, d'.toList, by simpa using hds, ?_, ?_, ?_, put_grown _ _ _ _ _⟩
    · have e1 : d'.extract 0 l.toArray.size = d' := by rw [List.size_toArray, ← hds]; exact Array.extract_size
      have e2 : l.toArray.extract 0 l.toArray.size = l.toArray := Array.extract_size
      rw [e1, e2] at p3
      simpa using p3
    · rw [List.pairwise_iff_getElem]
      intro i j hi hj hij
      have := hso i j (Nat.zero_le _) hij (by simpa [hds] using hj)
      rw [getElem!_pos d' i (by simpa using hi), getElem!_pos d' j (by simpa using hj)] at this
      exact this
    · have hF : (flatK encP 2 d').size ≤ cur.length := by rw [size_flatK, hds]; omega
      have hr := row_put (w := Sort.ahead w n) (e := 33) (cur := cur) hrow (flatK encP 2 d') hF
      have hr' : RowB (grow (putRowK encP 2 (Sort.ahead w n) g 0 d') os) g 33 ((flatK encP 2 d').toList ++ cur.drop (flatK encP 2 d').size) := by
        unfold RowB at hr ⊢
        rw [heap_grow_old _ _ (by exact (Array.getElem?_eq_some_iff.1 hr).1)]
        exact hr
      refine own_of_row hr' h3 h5 h6 ?_ ?_ ?_
      · simp only [List.length_append, Array.length_toList, List.length_drop]; omega
      · rw [cP_len]; simp [hds]
      · rw [List.take_left' (by simp [hds]), flat_cP]
  · have key : ∀ f, Tryz.prog.funcs.findIdx? (·.name == "internal/reflectlite" ++ ".Swapper$" ++ toString (Lib.swapperK l.length slTE 25)) = some f → Calls Tryz.prog 114 #[.iface 22 (.slice a l.length c), .func (.func 115) #[] #[.pointer (some ⟨Bs, 0, none⟩)]] w fun e w' => e = .returned (.tuple #[]) ∧ ∃ os, w' = grow w os :=
      fun f hf => Any.sort_Slice_tiny laysGg6 22 33 slTI slTE (by kernel_rfl) (by kernel_rfl) (by kernel_rfl) (by kernel_rfl) 25 (fun _ => by kernel_rfl) a l.length c (by omega) f hf _ _ _ w
    have hk : ∃ f, Tryz.prog.funcs.findIdx? (·.name == "internal/reflectlite" ++ ".Swapper$" ++ toString (Lib.swapperK l.length slTE 25)) = some f := by
      rcases (show l.length = 0 ∨ l.length = 1 by omega) with e | e
      · rw [e]; exact ⟨155, by kernel_rfl⟩
      · rw [e]; exact ⟨156, by kernel_rfl⟩
    obtain ⟨f, hf⟩ := hk
    refine (key f hf).mono ?_
    rintro e w' ⟨rfl, os, rfl⟩
    have E := grow_ext w os
    refine ⟨rfl, l, rfl, List.Perm.refl _, ?_, own_ext h E, ⟨E.os, E.tape, E.output, E.size', fun k hk _ => Below.block E k hk⟩⟩
    rcases l with _ | ⟨p, _ | ⟨q, l⟩⟩
    · exact List.Pairwise.nil
    · simp
    · simp at h2
/-- what was gathered, in order -/
theorem gath_end {f : ByteArray → Option Int} {left : Lit → Bool} {l l' : Prs} (hG : Gath f left l) (hl : ∀ k, left k = false) (hp : l'.Perm l) (hs : l'.Pairwise (fun p q => blt q.1 p.1 = false)) (hF : ∀ k a, f k = some a → okS k) :
    srtP l' ∧ nzP l' ∧ ∀ k, valP l' k = (f k).getD 0 := by
  obtain ⟨h1, h2, h3⟩ := hG
  have hmem : ∀ p, p ∈ l' ↔ f p.1 = some p.2 ∧ p.2 ≠ 0 := fun p => by
    rw [hp.mem_iff]
    constructor
    · intro h
      have := (h3 p.1 p.2 (h2 p h)).1 h
      exact ⟨this.1, this.2.1⟩
    · rintro ⟨e, e2⟩
      exact (h3 p.1 p.2 (hF _ _ e)).2 ⟨e, e2, hl _⟩
  have hnd : (l'.map (·.1)).Nodup := (hp.map (·.1)).nodup_iff.2 h1
  have hsrt : srtP l' := by
    rw [List.Nodup, List.pairwise_map] at hnd
    have := List.Pairwise.and hnd hs
    refine this.imp ?_
    rintro p q ⟨a, b⟩
    rcases blt_of_not b with e | e
    · exact absurd e.symm a
    · exact e
  have hnz : nzP l' := fun p hp' => ((hmem p).1 hp').2
  refine ⟨hsrt, hnz, fun k => ?_⟩
  by_cases hv : valP l' k = 0
  · rw [hv]
    cases hf : f k with
    | none => rfl
    | some c =>
      by_cases hc : c = 0
      · subst hc; rfl
      · have := (mem_valP hsrt hnz).1 ((hmem (k, c)).2 ⟨hf, hc⟩)
        rw [hv] at this
        exact absurd this.1.symm hc
  · have := (hmem _).1 (valP_ne hv)
    rw [this.1]; rfl
end Go.Proofs.YtimchedebcoohaaGreat

/- Contracts and lemmas for the proofs of this seat; each theorem states its own conditions. -/
namespace Go.Proofs.YtimchedebcoohaaGreat
open Go.RowKit Go.Maps
/-! roref.List -/
theorem lawS : Keyed Tryz.prog 9 := string_keyed Tryz.underlying9
theorem set_grown (w : World) (p : Addr) (u : Value) : w.grownBy (w.setCell p u) (some p.block) :=
  ⟨rfl, rfl, rfl, by simp, fun k _ hne => Below.heap_setCell _ _ _ _ (fun e => hne (by rw [e]))⟩
theorem ext_of_grown {w w' : World} (h : w.grownBy w' none) : Ext w w' := ⟨h.os, h.tape, h.output, h.size, fun k hk => h.block k hk (by simp)⟩
/-- where List's loop stands -/
def LRel (w : World) (b n : Nat) (D : DU) (f : ByteArray → Option Int) (wr : World) : Prop :=
  ∃ (left : Lit → Bool) (cnt : Nat) (l : Prs) (v : Value), wr.ranges Tryz.prog 9 (plainElem Tryz.prog 3) b (w.heap.size + 1) n D left cnt ∧ Gath f left l ∧ l.length + cnt ≤ n ∧
    wr.heap[w.heap.size]? = some (.cells #[v] 22 (0, 0)) ∧ wr.ownsRow (w.heap.size + 2) 33 2 v l.length (cP l) ∧ Ext w wr
set_option maxRecDepth 10000 in
set_option maxHeartbeats 1000000 in
theorem rlist_any (b n : Nat) (D : DU) (f : ByteArray → Option Int) (w : World) (hown : w.ownsMap Tryz.prog 9 (plainElem Tryz.prog 3) b n D) (hF : MapF kS okS dI D f) (hn : n ≤ 100000000) :
    Calls Tryz.prog 85 #[.map (some b)] w fun e w' => ∃ v' l, e = .returned v' ∧ srtP l ∧ nzP l ∧ (∀ k, valP l k = (f k).getD 0) ∧ l.length ≤ n ∧ w'.ownsRow w.heap.size 33 2 v' l.length (cP l) ∧ Ext w w' := by
  have hsz := own_size hown
  have hbl := hown.lt
  have b0 := heap_alloc_new w (.cells #[.slice none 0 0] 22)
  have E0 := (Ext.refl w).alloc (.cells #[.slice none 0 0] 22)
  have hown0 := ownsMap_ext hown E0
  go_enter Tryz.func85, Tryz.ntmps85
  go_wp2_with (first
    | (at_range; refine wpList_range_own _ rfl _ 152 rfl 9 3 lawS Tryz.underlying152 _ b n _ rfl hown0 ?_; intro w0 hrg0 hg0 hs0; simp only [World.size_alloc] at hrg0 ⊢)
    | go_in)
  go_frame
  have E1 := E0.trans (ext_of_grown hg0)
  go_loopw [4, 5] (fun _ _ wr => LRel w b n D f wr) (fun _ _ wr => wr.rangeLeft b (w.heap.size + 1))
  case atStart =>
    refine ⟨_, _, [], .slice none 0 0, by simpa using hrg0, gath_start hF, by simpa using hsz, grown_heap hg0 b0 (by simp), World.ownsRow_nil _ _ _ _, E1⟩
  case round =>
    obtain ⟨left, cnt, l, v, hrg, hG, hlc, hbx, ho, E⟩ := hrel
    go_wp2_with (first
      | (at_next; refine wpList_next_si _ rfl _ rfl 9 3 lawS Tryz.underlying9 Tryz.underlying3 b (w.heap.size + 1) n D f hF _ _ rfl hrg ?_ ?_)
      | go_in)
    · intro hl0
      obtain ⟨ao, co, rfl⟩ := own_form ho
      have c1 := cell_of_one hbx
      have hne : (Value.slice ao l.length co).ownBlock ≠ some w.heap.size := fun e => by have := own_ge ho _ e; omega
      go_wp2_with fail
      refine (sortP_any (w.heap.size + 2) co w.heap.size ao l _ ho (by omega) c1 hne).mono ?_
      rintro e w2 ⟨rfl, l', hl', hp, hs, ho2, hg2⟩
      have hb2 := grown_heap hg2 hbx hne
      have c2 := cell_of_one hb2
      have hge := own_ge ho
      have E2 : Ext w w2 := E.grown hg2 (fun k hk => by have := hge k hk; omega)
      obtain ⟨r1, r2, r3⟩ := gath_end hG hl0 hp hs hF.2.1
      go_wp2
      go_ret
      exact ⟨_, l', rfl, r1, r2, r3, by omega, by rw [hl']; exact own_base ho2 (by omega), E2⟩
    · intro x c w1 cnt1 hwx hwc hlx hfx hrg1 hlt hg1 hs1 hen
      have hge := own_ge ho
      have E1' : Ext w w1 := E.grown hg1 (fun k hk => by injection hk with hk; omega)
      have hb1 := grown_heap hg1 hbx (by simp)
      have hne : v.ownBlock ≠ some (w.heap.size + 1) := fun e => by have := hge _ e; omega
      have ho1 := grown_own hg1 ho (.inr hne)
      by_cases hc : c = 0
      · subst hc
        have hG' := gath_drop hG hwx hlx hfx
        have HG := hid hG'
        clear hG hG'
        go_wp2
        go_roundw
        case rel => exact ⟨_, cnt1, l, v, hrg1, HG.out, by omega, hb1, ho1, E1'⟩
        case measure => rw [hrg1.left_eq, hrg.left_eq]; exact hlt
      · have hG' := gath_keep hG hwx hlx hfx hc
        have hc' : (c != 0) = true := by simp [hc]
        have HG := hid hG'
        clear hG hG' hc
        obtain ⟨ao, co, rfl⟩ := own_form ho
        have c1 := cell_of_one hb1
        have f1 := free_of_one hb1
        have hb1a := ((Ext.refl w1).alloc (.cells #[.string x, .int .i64 c] 33)).heap hb1
        have bn := heap_alloc_new w1 (.cells #[.string x, .int .i64 c] 33)
        have hsv : Seg (w1.alloc (.cells #[.string x, .int .i64 c] 33)) (.slice (some ⟨w1.heap.size, 0, none⟩) 1 1) 2 1 [.string x, .int .i64 c] :=
          ⟨rfl, _, _, rfl, Nat.le_refl _, by simp [maxLen], fun _ => ⟨w1.heap.size, 0, rfl, fun j u hu => by have := seg_vb bn j u hu; rwa [addr_add] at this⟩⟩
        have hrg1a := hrg1.alloc (.cells #[.string x, .int .i64 c] 33)
        have E1a := E1'.alloc (.cells #[.string x, .int .i64 c] 33)
        have hB : w.heap.size + 2 ≤ (w1.alloc (.cells #[.string x, .int .i64 c] 33)).heap.size := by have := hrg1.lt; simp; omega
        have hne2 : (Value.slice ao l.length co).ownBlock ≠ some w.heap.size := fun e => by have := hge _ e; omega
        have hne3 : (Value.slice ao l.length co).ownBlock ≠ some b := fun e => by have := hge _ e; omega
        clear bn hs1
        go_wp2_with (first | (at_builtin; refine (wpList_app rfl _ _ 22 rfl (w.heap.size + 2) 33 (.agg #[.string ⟨#[]⟩, .int .i64 0]) 2 24 Tryz.underlying22 infoP rfl (by decide) _ l.length (cP l) rfl (ho1.alloc _) (.slice (some ⟨w1.heap.size, 0, none⟩) 1 1) 1 [.string x, .int .i64 c] rfl hsv (kv_one _ _) (by omega) (by unfold maxLen; omega) hB ?_); intro v' w4 ho' hg; obtain ⟨a4, c4', rfl⟩ := own_form ho'; have hb4 := grown_heap hg hb1a hne2; have c4 := cell_of_one hb4; have f4 := free_of_one hb4))
        go_roundw
        case rel =>
          have hrg4 := hrg1a.kept hg (fun e => hne3 e.symm) (fun e => hne e.symm)
          have hrg5 := hrg4.kept (set_grown w4 ⟨w.heap.size, 0, none⟩ (.slice a4 (l.length + 1) c4')) (by simp; omega) (by simp)
          have E4 : Ext w w4 := E1a.grown hg (fun k hk => by have := hge k hk; omega)
          refine ⟨_, cnt1, l ++ [(x, c)], _, hrg5, HG.out, by simp; omega, one_setCell hb4, ?_, E4.setCell (Nat.le_refl _) _⟩
          have := own_set_far ho' (p := ⟨w.heap.size, 0, none⟩) (u := .slice a4 (l.length + 1) c4') (by simp)
          rw [List.length_append, cP_app, cP_one1]
          exact this
        case measure =>
          have hrg4 := hrg1a.kept hg (fun e => hne3 e.symm) (fun e => hne e.symm)
          have hrg5 := hrg4.kept (set_grown w4 ⟨w.heap.size, 0, none⟩ (.slice a4 (l.length + 1) c4')) (by simp; omega) (by simp)
          rw [hrg5.left_eq, hrg.left_eq]; exact hlt
end Go.Proofs.YtimchedebcoohaaGreat

/- Contracts and lemmas for the proofs of this seat; each theorem states its own conditions. -/
namespace Go.Proofs.YtimchedebcoohaaGreat
open Go.RowKit
/-! what slices.DeleteFunc's walk leans on -/
theorem grown_of_ext {w w' : World} (h : Ext w w') {row : Option Nat} : w.grownBy w' row := ⟨h.os, h.tape, h.output, h.size', fun i hi _ => Below.block h i hi⟩
theorem row_grown (w : World) (g : Nat) (cs : Array Value) : w.grownBy (w.setRow g cs) (some g) := by
  have hB := below_setRow (Below.refl 0 w) (Nat.zero_le g) cs
  exact ⟨hB.os, hB.tape, hB.output, hB.size, fun k _ hne => setRow_other w g k _ (fun e => hne (by rw [e]))⟩
theorem own_cell_set {w : World} {B e sz n c g i : Nat} {xs : List Value} (h : w.ownsRow B e sz (.slice (some ⟨g, 0, none⟩) n c) n xs) (hi : i < xs.length) (u : Value) : (w.setCell ⟨g, i, none⟩ u).ownsRow B e sz (.slice (some ⟨g, 0, none⟩) n c) n (xs.set i u) := by
  obtain ⟨h0, h1⟩ := h
  rcases h1 with ⟨h1, _⟩ | ⟨g', cap, cur, h1, h2, h3, h4, h5, h6, h7⟩
  · cases h1
  · injection h1 with e1 _ e3
    injection e1 with e1; injection e1 with e1
    subst e1; subst e3
    refine ⟨by simpa using h0, .inr ⟨g, c, cur.setIfInBounds i u, rfl, h2, ?_, h4, h5, by simpa using h6, ?_⟩⟩
    · simp [World.setCell, Array.getElem?_modify, h3]
    · show (cur.setIfInBounds i u).toList.take (n * sz) = xs.set i u
      rw [← h7]
      rw [Array.toList_setIfInBounds, List.take_set]
theorem own_free {w : World} {B e sz n c g : Nat} {xs : List Value} (h : w.ownsRow B e sz (.slice (some ⟨g, 0, none⟩) n c) n xs) (i : Nat) : w.frozen? ⟨g, i, none⟩ = false := by
  obtain ⟨cur, hc⟩ := own_heap h
  simp [World.frozen?, hc]
theorem own_cell_at {w : World} {B e sz n c g i : Nat} {xs : List Value} (h : w.ownsRow B e sz (.slice (some ⟨g, 0, none⟩) n c) n xs) (hi : i < xs.length) : ∃ u, w.cell? ⟨g, i, none⟩ = some u := by
  have hn : 0 < n := by
    rcases Nat.eq_zero_or_pos n with e | e
    · have := h.1; rw [e] at this; omega
    · exact e
  obtain ⟨_, _, he, _, _, _, hc⟩ := seg_cells (own_seg h) hn
  injection he with he; injection he with he1 he2
  subst he1; subst he2
  have := hc i xs[i] (List.getElem?_eq_getElem hi)
  rw [Nat.zero_add] at this
  exact ⟨_, this⟩
/-- two stores into one's own row, side by side -/
theorem own_two {w : World} {B e sz n c g i : Nat} {xs : List Value} (h : w.ownsRow B e sz (.slice (some ⟨g, 0, none⟩) n c) n xs) (hi : i + 1 < xs.length) (u : Value) :
    (∃ z, w.cell? ⟨g, i, none⟩ = some z) ∧ w.frozen? ⟨g, i, none⟩ = false ∧ (∃ z, (w.setCell ⟨g, i, none⟩ u).cell? ⟨g, i + 1, none⟩ = some z) ∧ (w.setCell ⟨g, i, none⟩ u).frozen? ⟨g, i + 1, none⟩ = false := by
  have h2 := own_cell_set h (i := i) (by omega) u
  exact ⟨own_cell_at h (by omega), own_free h i, own_cell_at h2 (by rw [List.length_set]; omega), own_free h2 (i + 1)⟩
theorem first_of {α : Type} {p : α → Bool} {L : List α} (h : ¬ ∀ x ∈ L, p x = false) : ∃ i, ∃ (hi : i < L.length), (∀ j (h : j < i), p (L[j]'(by omega)) = false) ∧ p L[i] = true := by
  induction L with
  | nil => exact absurd (by simp) h
  | cons x L ih =>
    cases hx : p x with
    | true => exact ⟨0, by simp, fun j hj => by omega, by simpa using hx⟩
    | false =>
      obtain ⟨i, hi, h1, h2⟩ := ih fun hh => h fun y hy => by
        rcases List.mem_cons.1 hy with e | e
        · rw [e]; exact hx
        · exact hh y e
      refine ⟨i + 1, by simpa using hi, fun j hj => ?_, by simpa using h2⟩
      cases j with
      | zero => simpa using hx
      | succ j => simpa using h1 j (by omega)
theorem first_fil {α : Type} {p : α → Bool} {L : List α} {i : Nat} (hi : i < L.length) (hlo : ∀ j (h : j < i), p (L[j]'(by omega)) = false) (hp : p L[i] = true) :
    ((L.take (i + 1)).filter fun x => !p x).length = i ∧ ((L.take (i + 1)).filter fun x => !p x) ++ [L[i]] ++ L.drop (i + 1) = L := by
  have e : ((L.take (i + 1)).filter fun x => !p x) = L.take i := by
    rw [List.take_succ_eq_append_getElem hi, List.filter_append]
    have e1 : (L.take i).filter (fun x => !p x) = L.take i := List.filter_eq_self.2 fun x hx => by
      obtain ⟨j, hj, rfl⟩ := List.mem_iff_getElem.1 hx
      simp only [List.length_take] at hj
      rw [List.getElem_take]
      simp [hlo j (by omega)]
    rw [e1]; simp [hp]
  rw [e]
  refine ⟨by rw [List.length_take]; omega, ?_⟩
  rw [List.append_assoc, List.singleton_append, ← List.drop_eq_getElem_cons hi, List.take_append_drop]
theorem del_step {α : Type} {p : α → Bool} {L mid : List α} {i j : Nat} (hj : j < L.length) (hf : ((L.take j).filter fun x => !p x).length = i) (hm : i + mid.length = j) (hij : i < j) :
    (p L[j] = true → ∃ mid', ((L.take (j + 1)).filter fun x => !p x).length = i ∧ i + mid'.length = j + 1 ∧ ((L.take (j + 1)).filter fun x => !p x) ++ mid' ++ L.drop (j + 1) = ((L.take j).filter fun x => !p x) ++ mid ++ L.drop j) ∧
    (p L[j] = false → ∃ mid', ((L.take (j + 1)).filter fun x => !p x).length = i + 1 ∧ i + 1 + mid'.length = j + 1 ∧ ((L.take (j + 1)).filter fun x => !p x) ++ mid' ++ L.drop (j + 1) = (((L.take j).filter fun x => !p x) ++ mid ++ L.drop j).set i L[j]) := by
  have e1 : (L.take (j + 1)).filter (fun x => !p x) = (L.take j).filter (fun x => !p x) ++ [L[j]].filter (fun x => !p x) := by
    rw [List.take_succ_eq_append_getElem hj, List.filter_append]
  have e2 := List.drop_eq_getElem_cons hj
  generalize (L.take j).filter (fun x => !p x) = A at hf e1
  generalize L[j] = x at e1 e2
  refine ⟨fun h => ⟨mid ++ [x], ?_, by simp; omega, ?_⟩, fun h => ?_⟩
  · rw [e1]; simp [h, hf]
  · rw [e1, e2]; simp [h]
  · obtain ⟨m0, rest, rfl⟩ : ∃ m0 rest, mid = m0 :: rest := by
      cases mid with
      | nil => simp at hm; omega
      | cons m0 rest => exact ⟨m0, rest, rfl⟩
    refine ⟨rest ++ [x], ?_, by simp at hm ⊢; omega, ?_⟩
    · rw [e1]; simp [h, hf]
    · rw [e1, e2, List.append_assoc A (m0 :: rest), List.set_append, if_neg (by omega), hf, Nat.sub_self]
      simp [h]
end Go.Proofs.YtimchedebcoohaaGreat
