/- Contracts and lemmas for the proof of PartsPlay; each theorem states its own conditions. -/
import Derived.Test.YtimchedebcoohaaGreatDoorQPartsPlaybp
import Derived.Test.YtimchedebcoohaaGreatDoorQPartsPlaybg
import Derived.Test.YtimchedebcoohaaGreatDoorQPartsPlayav
set_option linter.unusedVariables false
set_option linter.unusedSimpArgs false
/- Contracts and lemmas for the proofs of this seat; each theorem states its own conditions. -/
namespace Go.Proofs.YtimchedebcoohaaGreatDoor
open Go.RowKit Go.Maps
/-! the document's Touches -/
/-- a set of texts, as a map to true -/
def setF (L : List ByteArray) : ByteArray → Option Bool := fun x => if memB L x = true then some true else none
theorem setF_put {D : DU} {L : List ByteArray} {k : ByteArray} (h : MapF kS okS dB D (setF L)) (hk : okS k) : MapF kS okS dB (D.put (kS k) (dB true)) (setF (L ++ [k])) := by
  have := h.put kS_inj kS_is hk true
  refine (show (fun x => if x = k then some true else setF L x) = setF (L ++ [k]) from ?_) ▸ this
  funext x
  unfold setF
  by_cases e : x = k
  · simp [e, memB]
  · have e' : ¬ k = x := fun h => e h.symm
    have q : memB (L ++ [k]) x = memB L x := by simp [memB, e']
    rw [q]; simp [e]
theorem plainElem_bool {P : Program} {e : TypeId} (he : P.underlying e = some .bool) (b : Bool) : plainElem (H := Unit) P e (.bool b) = some (dB b, []) := by
  unfold plainElem
  rw [he]
  rfl
/-- two sets in memory -/
def TRel (w : World) (b c : Nat) (R W : List ByteArray) (wr : World) : Prop :=
  ∃ (D F : DU), wr.ownsMap Tryz.prog 9 (plainElem Tryz.prog 4) b R.length D ∧ MapF kS okS dB D (setF R) ∧ wr.ownsMap Tryz.prog 9 (plainElem Tryz.prog 4) c W.length F ∧ MapF kS okS dB F (setF W) ∧ Ext w wr
theorem TRel.ext {w w1 w2 : World} {b c : Nat} {R W : List ByteArray} (h : TRel w b c R W w1) (E : Ext w1 w2) : TRel w b c R W w2 := by
  obtain ⟨D, F, h1, h2, h3, h4, h5⟩ := h
  exact ⟨D, F, ownsMap_ext h1 E, h2, ownsMap_ext h3 E, h4, h5.trans E⟩
theorem TRel.lt {w w1 : World} {b c : Nat} {R W : List ByteArray} (h : TRel w b c R W w1) : b < w1.heap.size ∧ c < w1.heap.size := by
  obtain ⟨D, F, h1, h2, h3, h4, h5⟩ := h
  exact ⟨h1.lt, h3.lt⟩
theorem TRel.start (w w0 : World) (E : Ext w w0) : TRel w w0.heap.size (w0.heap.size + 1) [] [] ((w0.alloc (.map #[] 0)).alloc (.map #[] 0)) := by
  have h1 := (World.ownsMap_made w0 Tryz.prog 9 (plainElem (H := Unit) Tryz.prog 4)).alloc (.map #[] 0)
  have h2 := World.ownsMap_made (w0.alloc (.map #[] 0)) Tryz.prog 9 (plainElem (H := Unit) Tryz.prog 4)
  have e : setF [] = fun _ => none := by funext x; simp [setF, memB]
  exact ⟨.map [], .map [], h1, e ▸ MapF.empty, by simpa using h2, e ▸ MapF.empty, (E.alloc _).alloc _⟩
theorem ksz {k : ByteArray} (h : keyB k = true) : okS k := by
  have := keyB_size h
  unfold okS maxLen; omega
section
variable {ops : Array Oper} {rest : List Oper} {o : Oper} {a : Act} {Q : Exit → Act → World → Prop}
/-- one more in the first set -/
theorem wpList_setR {w0 w : World} {b c : Nat} {R W : List ByteArray} (hT : TRel w0 b c R W w) (hb : w0.heap.size ≤ b) (hne : b ≠ c) (hn : R.length < 1000) (hg : o.guard = none) (m x y : Operand) (t : TypeId) (hop : o.op = Op.mapUpdate t m x y)
    (ht : Tryz.prog.underlying t = some (.map 9 4)) (hm : a.eval m = .map (some b)) (k : ByteArray) (hk : keyB k = true) (hx : a.eval x = .string k) (hy : a.eval y = .bool true)
    (hK : ∀ w', TRel w0 b c (R ++ [k]) W w' → w.grownBy w' (some b) → wpList Tryz.prog ops Q rest (a.put o.dst undef) w') : wpList Tryz.prog ops Q (o :: rest) a w := by
  obtain ⟨D, F, h1, h2, h3, h4, h5⟩ := hT
  refine wpList_mapUpdate_own w hg m x y t hop 9 4 lawS ht _ b R.length D hm h1 (by unfold maxLen; omega) _ _ (kS k) hx hy (WideMaps.keyOf_string_mk Tryz.underlying9 (P := Tryz.prog) (k := 9) (s := k) (ksz hk)) (dB true) [] (plainElem_bool Tryz.underlying4 true) fun w' hown hgr => ?_
  exact hK w' ⟨_, F, by simpa using hown, setF_put h2 (ksz hk), h3.kept hgr (by simpa using Ne.symm hne), h4, h5.grown hgr (fun j hj => by injection hj with hj; omega)⟩ hgr
/-- one more in the second -/
theorem wpList_setW {w0 w : World} {b c : Nat} {R W : List ByteArray} (hT : TRel w0 b c R W w) (hb : w0.heap.size ≤ c) (hne : b ≠ c) (hn : W.length < 1000) (hg : o.guard = none) (m x y : Operand) (t : TypeId) (hop : o.op = Op.mapUpdate t m x y)
    (ht : Tryz.prog.underlying t = some (.map 9 4)) (hm : a.eval m = .map (some c)) (k : ByteArray) (hk : keyB k = true) (hx : a.eval x = .string k) (hy : a.eval y = .bool true)
    (hK : ∀ w', TRel w0 b c R (W ++ [k]) w' → w.grownBy w' (some c) → wpList Tryz.prog ops Q rest (a.put o.dst undef) w') : wpList Tryz.prog ops Q (o :: rest) a w := by
  obtain ⟨D, F, h1, h2, h3, h4, h5⟩ := hT
  refine wpList_mapUpdate_own w hg m x y t hop 9 4 lawS ht _ c W.length F hm h3 (by unfold maxLen; omega) _ _ (kS k) hx hy (WideMaps.keyOf_string_mk Tryz.underlying9 (P := Tryz.prog) (k := 9) (s := k) (ksz hk)) (dB true) [] (plainElem_bool Tryz.underlying4 true) fun w' hown hgr => ?_
  exact hK w' ⟨D, _, h1.kept hgr (by simpa using hne), h2, by simpa using hown, setF_put h4 (ksz hk), h5.grown hgr (fun j hj => by injection hj with hj; omega)⟩ hgr
end
set_option maxRecDepth 10000 in
set_option maxHeartbeats 4000000 in
theorem touches_any (v : Value) (d : Ops) (w : World) (hv : Seg w v 4 d.length (cO d)) (hd : DeedOk d) :
    Calls Tryz.prog 19 #[.agg #[v]] w fun e w' => ∃ b c, e = .returned (.tuple #[.map (some b), .map (some c)]) ∧ w.heap.size ≤ b ∧ w.heap.size ≤ c ∧ TRel w b c (rds d) (wrs d) w' := by
  have hd8 := hd.hi
  obtain ⟨a, c, rfl⟩ := seg_form hv
  have HV := hid hv
  clear hv
  have hmm := @run_makeMap Tryz.prog
  have xa := heap_alloc_new w (.cells #[.slice a d.length c] 43)
  have EA0 := (Ext.refl w).alloc (.cells #[.slice a d.length c] 43)
  have T0 := TRel.start w _ EA0
  have ya := cell_of_one xa
  have ya2 := (EA0.trans ((Ext.refl _).alloc (.map #[] 0)))
  have yc := ((Ext.refl (w.alloc (.cells #[.slice a d.length c] 43))).alloc (.map #[] 0)).alloc (.map #[] 0)
  have yb := yc.cell ya
  have hsw : (w.alloc (.cells #[.slice a d.length c] 43)).heap.size = w.heap.size + 1 := by simp
  rw [hsw] at T0
  clear xa ya ya2 yc hsw
  go_enter Tryz.func19, Tryz.ntmps19
  go_wp2
  clear yb
  go_loopw [7, 13] (fun _ iv wr => ∃ k : Nat, k ≤ d.length ∧ iv = .int .i64 k ∧ TRel w (w.heap.size + 1) (w.heap.size + 1 + 1) (rds (d.take k)) (wrs (d.take k)) wr) (fun _ iv _ => d.length - (intOf iv).toNat)
  case atStart => exact ⟨0, Nat.zero_le _, rfl, T0⟩
  case round =>
    clear T0 EA0 hmm
    obtain ⟨wo, rfl⟩ : ∃ wo : World, wo = wr := ⟨_, rfl⟩
    obtain ⟨k, hk, rfl, hT⟩ := hrel
    by_cases hlt : k < d.length
    · obtain ⟨b, off, rfl, _, m1, m2, hc⟩ := seg_cells HV.out (by omega)
      unfold maxLen at m2
      obtain ⟨q0, q1, q2, q3⟩ := seg_op hc hlt
      have E : Ext w wo := by obtain ⟨_, _, _, _, _, _, E⟩ := hT; exact E
      have c0 := E.cell q0
      have c1 := E.cell q1
      have c2 := E.cell q2
      have c3 := E.cell q3
      obtain ⟨t1, t2⟩ := rds_take hlt
      obtain ⟨l1, l2⟩ := rds_len d k
      have oo := hd.ops d[k] (List.getElem_mem hlt)
      clear hc q0 q1 q2 q3 E
      generalize rds (d.take k) = R at hT t1 l1
      generalize wrs (d.take k) = Ws at hT t2 l2
      generalize d[k] = o at c0 c1 c2 c3 t1 t2 oo
      obtain ⟨kd, key, fr, n⟩ := o
      dsimp only at c0 c1 c2 c3
      have kk : keyB key = true := oo.key
      have kfr := oo.from_
      dsimp only at kfr
      have hkd := kinds oo
      dsimp only at hkd
      have T1 := hid t1
      have T2 := hid t2
      clear t1 t2 oo
      have EA := (Ext.refl wo).alloc (.cells #[.int .i64 kd, .string key, .string fr, .int .i64 n] 90)
      have xb := heap_alloc_new wo (.cells #[.int .i64 kd, .string key, .string fr, .int .i64 n] 90)
      have y0 := blk4 xb
      have hT0 := hT.ext EA
      have hlb := hT.lt
      clear hT EA
      rcases hkd with rfl | rfl | rfl | rfl | rfl
      · clear kfr
        go_wp2_with (at_mapUpdate; (first | (refine wpList_setW hT0 (by omega) (by omega) (by first | omega | (simp; omega)) rfl _ _ _ 59 rfl Tryz.underlying59 rfl key kk rfl rfl ?_)); intro w1 hT1 hg1; replace xb := grown_heap hg1 xb (by intro q; injection q with q; omega); have y1 := blk4 xb; clear hT0 hg1; have hT0 := hT1; clear hT1)
        go_roundw
        case rel => exact ⟨k + 1, by omega, by go_num, by rw [T1.out, T2.out]; simpa [rdO, wrO] using hT0⟩
        case measure => simp [intOf] <;> omega
      · clear kfr
        go_wp2_with (at_mapUpdate; (first | (refine wpList_setR hT0 (by omega) (by omega) (by first | omega | (simp; omega)) rfl _ _ _ 59 rfl Tryz.underlying59 rfl key kk rfl rfl ?_) | (refine wpList_setW hT0 (by omega) (by omega) (by first | omega | (simp; omega)) rfl _ _ _ 59 rfl Tryz.underlying59 rfl key kk rfl rfl ?_)); intro w1 hT1 hg1; replace xb := grown_heap hg1 xb (by intro q; injection q with q; omega); have y1 := blk4 xb; clear hT0 hg1; have hT0 := hT1; clear hT1)
        go_roundw
        case rel => exact ⟨k + 1, by omega, by go_num, by rw [T1.out, T2.out]; simpa [rdO, wrO] using hT0⟩
        case measure => simp [intOf] <;> omega
      · have kf := (kfr (by omega)).1
        clear kfr
        go_wp2_with (at_mapUpdate; (first | (refine wpList_setR hT0 (by omega) (by omega) (by first | omega | (simp; omega)) rfl _ _ _ 59 rfl Tryz.underlying59 rfl fr kf rfl rfl ?_) | (refine wpList_setW hT0 (by omega) (by omega) (by first | omega | (simp; omega)) rfl _ _ _ 59 rfl Tryz.underlying59 rfl key kk rfl rfl ?_)); intro w1 hT1 hg1; replace xb := grown_heap hg1 xb (by intro q; injection q with q; omega); have y1 := blk4 xb; clear hT0 hg1; have hT0 := hT1; clear hT1)
        go_roundw
        case rel => exact ⟨k + 1, by omega, by go_num, by rw [T1.out, T2.out]; simpa [rdO, wrO] using hT0⟩
        case measure => simp [intOf] <;> omega
      · clear kfr
        go_wp2_with (at_mapUpdate; (first | (refine wpList_setR hT0 (by omega) (by omega) (by first | omega | (simp; omega)) rfl _ _ _ 59 rfl Tryz.underlying59 rfl key kk rfl rfl ?_)); intro w1 hT1 hg1; replace xb := grown_heap hg1 xb (by intro q; injection q with q; omega); have y1 := blk4 xb; clear hT0 hg1; have hT0 := hT1; clear hT1)
        go_roundw
        case rel => exact ⟨k + 1, by omega, by go_num, by rw [T1.out, T2.out]; simpa [rdO, wrO] using hT0⟩
        case measure => simp [intOf] <;> omega
      · have kf := (kfr (by omega)).1
        clear kfr
        go_wp2_with (at_mapUpdate; (first | (refine wpList_setR hT0 (by omega) (by omega) (by first | omega | (simp; omega)) rfl _ _ _ 59 rfl Tryz.underlying59 rfl key kk rfl rfl ?_) | (refine wpList_setR hT0 (by omega) (by omega) (by first | omega | (simp; omega)) rfl _ _ _ 59 rfl Tryz.underlying59 rfl fr kf rfl rfl ?_) | (refine wpList_setW hT0 (by omega) (by omega) (by first | omega | (simp; omega)) rfl _ _ _ 59 rfl Tryz.underlying59 rfl key kk rfl rfl ?_) | (refine wpList_setW hT0 (by omega) (by omega) (by first | omega | (simp; omega)) rfl _ _ _ 59 rfl Tryz.underlying59 rfl fr kf rfl rfl ?_)); intro w1 hT1 hg1; replace xb := grown_heap hg1 xb (by intro q; injection q with q; omega); have y1 := blk4 xb; clear hT0 hg1; have hT0 := hT1; clear hT1)
        go_roundw
        case rel => exact ⟨k + 1, by omega, by go_num, by rw [T1.out, T2.out]; simpa [rdO, wrO] using hT0⟩
        case measure => simp [intOf] <;> omega
    · obtain rfl : k = d.length := by omega
      rw [List.take_length] at hT
      go_wp2
      go_ret2
      exact ⟨_, _, rfl, by omega, by omega, hT⟩
end Go.Proofs.YtimchedebcoohaaGreatDoor
