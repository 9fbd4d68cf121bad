/- Contracts and lemmas for the proof of MergeOrder; each theorem states its own conditions. -/
import Derived.Test.YtijcckhkofkenaaQMergeOrderbo
import Derived.Test.YtijcckhkofkenaaQMergeOrderbm
import Derived.BigQuiet
set_option linter.unusedVariables false
set_option linter.unusedSimpArgs false
/- Contracts and lemmas for the proofs of this seat; each theorem states its own conditions. -/
namespace Go.Proofs.Ytijcckhkofkenaa
open Go.RowKit
/-! roref.SameEntry, slices.EqualFunc at entries -/
def sameEB (x y : Ent) : Bool := decide (x.im = y.im) && decide (x.ops = y.ops) && sameB x.cuts y.cuts x.own y.own
theorem sameEB_refl (x : Ent) : sameEB x x = true := by simp [sameEB, sameB]
set_option maxRecDepth 100000 in
set_option maxHeartbeats 2000000 in
theorem sameDeed_any (v u : Value) (d d' : Ops) (w : World) (h : Seg w v 4 d.length (cO d)) (h' : Seg w u 4 d'.length (cO d')) :
    Calls Try.prog 80 #[.agg #[v], .agg #[u]] w fun e w' => e = .returned (.bool (decide (d = d'))) ∧ Ext w w' := by
  have E2 := ((Ext.refl w).alloc (.cells #[v] 52)).alloc (.cells #[u] 52)
  have b0 := cell_of_one (heap_1 w (.cells #[v] 52) (.cells #[u] 52))
  have b1 := cell_of_one (heap_2 w (.cells #[v] 52) (.cells #[u] 52))
  have Q := hid (equal_Op v u d d' _ (h.ext E2) (h'.ext E2))
  go_enter Try.func80, Try.ntmps80
  go_wp2_with fail
  refine (Q.out).mono ?_
  rintro e w1 ⟨rfl, n, rfl⟩
  go_wp2
  go_ret
  exact ⟨rfl, E2.drewN n⟩
set_option maxRecDepth 100000 in
set_option maxHeartbeats 4000000 in
theorem sameEntry_any (e e' : EV) (x x' : Ent) (w : World) (h : EntSeg w e x) (h' : EntSeg w e' x') :
    Calls Try.prog 37 #[evV e, evV e'] w fun r w' => r = .returned (.bool (sameEB x x')) ∧ Ext w w' := by
  obtain ⟨v1, b, v2, v3⟩ := e
  obtain ⟨u1, b', u2, u3⟩ := e'
  obtain ⟨h1, hb, h2, h3⟩ := h
  obtain ⟨h1', hb', h2', h3'⟩ := h'
  dsimp only at h1 hb h2 h3 h1' hb' h2' h3'
  have E2 := ((Ext.refl w).alloc (.cells #[v1, .bool b, v2, v3] 54)).alloc (.cells #[u1, .bool b', u2, u3] 54)
  have k0 := blk4 (heap_1 w (.cells #[v1, .bool b, v2, v3] 54) (.cells #[u1, .bool b', u2, u3] 54))
  have k1 := blk4 (heap_2 w (.cells #[v1, .bool b, v2, v3] 54) (.cells #[u1, .bool b', u2, u3] 54))
  have D := hid (sameDeed_any v1 u1 x.ops x'.ops _ (h1.ext E2) (h1'.ext E2))
  have M := hid (fun w' (E : Ext w w') => sameMap_any (.agg #[v2, v3]) (.agg #[u2, u3]) x.cuts x'.cuts x.own x'.own w' ⟨v2, v3, rfl, h2.ext E, h3.ext E⟩ ⟨u2, u3, rfl, h2'.ext E, h3'.ext E⟩)
  have hS : sameEB x x' = (decide (b = b') && decide (x.ops = x'.ops) && sameB x.cuts x'.cuts x.own x'.own) := by rw [hb, hb']; rfl
  rw [hS]
  clear h1 h2 h3 h1' h2' h3' hb hb' hS
  generalize decide (x.ops = x'.ops) = c at D ⊢
  generalize sameB x.cuts x'.cuts x.own x'.own = d at M ⊢
  show Calls _ _ #[.agg #[v1, .bool b, v2, v3], .agg #[u1, .bool b', u2, u3]] _ _
  by_cases hbb : b = b'
  · subst hbb
    have qb : (b == b) = true := by simp
    have qd : decide (b = b) = true := by simp
    rw [qd]
    go_enter Try.func37, Try.ntmps37
    go_wp2_with fail
    refine (D.out).mono ?_
    rintro r w1 ⟨rfl, E1⟩
    replace k0 := blk4 (E1.heap (heap_1 w (.cells #[v1, .bool b, v2, v3] 54) (.cells #[u1, .bool b, u2, u3] 54)))
    replace k1 := blk4 (E1.heap (heap_2 w (.cells #[v1, .bool b, v2, v3] 54) (.cells #[u1, .bool b, u2, u3] 54)))
    cases c with
    | true =>
      go_wp2_with fail
      refine (M.out _ (E2.trans E1)).mono ?_
      rintro r w2 ⟨rfl, E3⟩
      go_wp2
      go_ret
      exact ⟨rB (by simp), (E2.trans E1).trans E3⟩
    | false =>
      go_wp2
      go_ret
      exact ⟨rB (by simp), E2.trans E1⟩
  · have qb : (b == b') = false := by simpa using hbb
    have qd : decide (b = b') = false := by simpa using hbb
    rw [qd]
    clear hbb
    go_enter Try.func37, Try.ntmps37
    go_wp2
    go_ret
    exact ⟨rB (by simp), E2⟩
/-- a slice that reads as entries -/
def EntsSeg (w : World) (v : Value) (X : List Ent) : Prop := ∃ es : List EV, es.length = X.length ∧ Seg w v 4 X.length (cEn es) ∧ ∀ (j : Nat) (e : EV) (x : Ent), es[j]? = some e → X[j]? = some x → EntSeg w e x
theorem EntsSeg.ext {w w' : World} {v : Value} {X : List Ent} (h : EntsSeg w v X) (E : Ext w w') : EntsSeg w' v X := by
  obtain ⟨es, h1, h2, h3⟩ := h
  exact ⟨es, h1, h2.ext E, fun j e x a b => (h3 j e x a b).ext E⟩
theorem EntsSeg.form {w : World} {v : Value} {X : List Ent} (h : EntsSeg w v X) : ∃ a c, v = .slice a X.length c := by
  obtain ⟨es, h1, h2, h3⟩ := h
  exact seg_form h2
theorem ents_seg {w : World} {es : List EV} {B : Nat} {v : Value} {X : List Ent} (h : EntsSt w es X) (ho : w.ownsRow B 54 4 v X.length (cEn es)) : EntsSeg w v X := ⟨es, h.1, own_seg ho, fun j e x a b => (h.2 j e x a b).seg⟩
theorem LogR.seg {w : World} {X : List Ent} {v : Value} {a : World} (h : LogR w X v a) : EntsSeg a v X := by
  obtain ⟨es, h1, h2, h3⟩ := h
  exact ents_seg h1 h2
def entZ : Ent := ⟨[], false, [], []⟩
def eqEs (X Y : List Ent) : Bool := decide (X.length = Y.length) && (List.range X.length).all fun i => sameEB (X.getD i entZ) (Y.getD i entZ)
theorem eqEs_refl (X : List Ent) : eqEs X X = true := by
  unfold eqEs
  simp only [decide_true, Bool.true_and, List.all_eq_true]
  intro i _
  exact sameEB_refl _
theorem enSame : ∀ args w, (callFunc 37 args).run Try.prog w = .ok (.enter 37 args) w := enters_of Try.func37 (by kernel_rfl) rfl
set_option maxRecDepth 100000 in
set_option maxHeartbeats 4000000 in
theorem equalE_any (v u : Value) (X Y : List Ent) (w : World) (hv : EntsSeg w v X) (hu : EntsSeg w u Y) :
    Calls Try.prog 36 #[v, u, .func (.func 37) #[] #[]] w fun e w' => e = .returned (.bool (eqEs X Y)) ∧ Ext w w' := by
  obtain ⟨es, hl, hs, he⟩ := hv
  obtain ⟨fs, hl', hs', he'⟩ := hu
  obtain ⟨a, k, rfl⟩ := seg_form hs
  obtain ⟨a', k', rfl⟩ := seg_form hs'
  have HE := hid he
  have HE' := hid he'
  clear he he'
  have hen := enSame
  by_cases hxy : X.length = Y.length
  · have q0 : ((X.length : Int) != (Y.length : Int)) = false := by simp [hxy]
    have HS := hid hs
    have HS' := hid hs'
    have HR : Hid (eqEs X Y = (List.range X.length).all fun i => sameEB (X.getD i entZ) (Y.getD i entZ)) := hid (by unfold eqEs; simp [hxy])
    have HXY := hid hxy
    have hle : X.length ≤ Y.length := by omega
    have hge : Y.length ≤ X.length := by omega
    clear hs hs' hxy
    go_enter Try.func36, Try.ntmps36
    go_wp2_with fail
    go_loopw [7, 8, 9, 17] (fun _ _ _ iv wr => ∃ i : Nat, i ≤ X.length ∧ iv = .int .i64 i ∧ allTo (fun i => sameEB (X.getD i entZ) (Y.getD i entZ)) i ∧ Ext w wr) (fun _ _ _ iv _ => X.length - (intOf iv).toNat)
    case atStart => exact ⟨0, Nat.zero_le _, rfl, allTo_zero _, Ext.refl _⟩
    case round =>
      obtain ⟨i, hi, rfl, hall, E⟩ := hrel
      have HALL := hid hall
      clear hall
      by_cases hil : i < X.length
      · have hil' : i < Y.length := by omega
        obtain ⟨b, o, rfl, _, p1, p2, hc⟩ := seg_cells HS.out (by omega)
        obtain ⟨b', o', rfl, _, p1', p2', hc'⟩ := seg_cells HS'.out (by omega)
        unfold maxLen at p2 p2'
        obtain ⟨x0, x1, x2, x3⟩ := cEn_at es (show i < es.length by omega)
        obtain ⟨y0, y1, y2, y3⟩ := cEn_at fs (show i < fs.length by omega)
        replace x0 := E.cell (hc _ _ x0)
        replace x1 : wr.cell? ⟨b, o + i * 4 + 1, none⟩ = _ := E.cell (hc _ _ x1)
        replace x2 : wr.cell? ⟨b, o + i * 4 + 2, none⟩ = _ := E.cell (hc _ _ x2)
        replace x3 : wr.cell? ⟨b, o + i * 4 + 3, none⟩ = _ := E.cell (hc _ _ x3)
        replace y0 := E.cell (hc' _ _ y0)
        replace y1 : wr.cell? ⟨b', o' + i * 4 + 1, none⟩ = _ := E.cell (hc' _ _ y1)
        replace y2 : wr.cell? ⟨b', o' + i * 4 + 2, none⟩ = _ := E.cell (hc' _ _ y2)
        replace y3 : wr.cell? ⟨b', o' + i * 4 + 3, none⟩ = _ := E.cell (hc' _ _ y3)
        have g1 := HE.out i es[i] X[i] (List.getElem?_eq_getElem (by omega)) (List.getElem?_eq_getElem hil)
        have g2 := HE'.out i fs[i] Y[i] (List.getElem?_eq_getElem (by omega)) (List.getElem?_eq_getElem hil')
        have hst := hid (show sameEB (X.getD i entZ) (Y.getD i entZ) = sameEB X[i] Y[i] by rw [getD_lt hil, getD_lt hil'])
        generalize X[i] = x at g1 hst
        generalize Y[i] = y at g2 hst
        generalize es[i] = e at x0 x1 x2 x3 g1
        generalize fs[i] = f at y0 y1 y2 y3 g2
        obtain ⟨v1, c1, v2, v3⟩ := e
        obtain ⟨u1, c2, u2, u3⟩ := f
        dsimp only at x0 x1 x2 x3 y0 y1 y2 y3
        obtain ⟨f1, l1, e1⟩ := seg_form g1.ops
        obtain ⟨f2, l2, e2⟩ := seg_form g1.cuts
        obtain ⟨f3, l3, e3⟩ := seg_form g1.own
        obtain ⟨f4, l4, e4⟩ := seg_form g2.ops
        obtain ⟨f5, l5, e5⟩ := seg_form g2.cuts
        obtain ⟨f6, l6, e6⟩ := seg_form g2.own
        dsimp only at e1 e2 e3 e4 e5 e6
        subst e1; subst e2; subst e3; subst e4; subst e5; subst e6
        have SE := hid (fun w' (E : Ext w w') => sameEntry_any _ _ x y w' (g1.ext E) (g2.ext E))
        have y0' := cell1 y0
        have y1' := cell1 y1
        have y2' := cell1 y2
        have y3' := cell1 y3
        clear g1 g2 hc hc'
        obtain ⟨r, hr⟩ : ∃ r, sameEB x y = r := ⟨_, rfl⟩
        rw [hr] at SE hst
        clear hr
        go_wp2_with fail
        refine (SE.out _ ((E.alloc _).alloc _)).mono ?_
        rintro e w4 ⟨rfl, E4⟩
        cases r with
        | true =>
          have HN := hid (allTo_succ HALL.out hst.out)
          go_wp2
          go_roundw
          case rel => exact ⟨i + 1, by omega, by go_num, HN.out, ((E.alloc _).alloc _).trans E4⟩
          case measure => simp [intOf] <;> omega
        | false =>
          have HX := hid (show eqEs X Y = false by rw [HR.out, all_false hil hst.out])
          go_wp2
          go_ret
          exact ⟨rB HX.out.symm, ((E.alloc _).alloc _).trans E4⟩
      · obtain rfl : i = X.length := by omega
        have HX := hid (show eqEs X Y = true by rw [HR.out, all_true HALL.out])
        go_wp2
        go_ret
        exact ⟨rB HX.out.symm, E⟩
  · have q0 : ((X.length : Int) != (Y.length : Int)) = true := by simp; omega
    have hr : eqEs X Y = false := by unfold eqEs; simp [hxy]
    rw [hr]
    clear hs hs' hr hxy
    go_enter Try.func36, Try.ntmps36
    go_wp2
    go_ret
    exact ⟨rfl, Ext.refl _⟩
end Go.Proofs.Ytijcckhkofkenaa

/- Contracts and lemmas for the proofs of this seat; each theorem states its own conditions. -/
namespace Go.Proofs.Ytijcckhkofkenaa
open Go.RowKit
/-! merges that are fed, in plain lists -/
def colTo (cl : List (List Bat)) (r : Nat) : Nat → Nat
  | 0 => 0
  | k + 1 => colTo cl r k + sumTo (cl.getD k []) r
theorem col_step (cl : List (List Bat)) (r : Nat) : ∀ k, colTo cl (r + 1) k = colTo cl r k + (rowTo cl r k).length
  | 0 => rfl
  | k + 1 => by
    rw [colTo, col_step cl r k, colTo, rowTo, List.length_append, sumTo]; omega
theorem col_log (cl : List (List Bat)) : ∀ r, (logTo cl r).length = colTo cl r cl.length
  | 0 => by
    have : ∀ k, colTo cl 0 k = 0 := fun k => by
      induction k with
      | zero => rfl
      | succ k ih => rw [colTo, ih]; rfl
    rw [this]; rfl
  | r + 1 => by rw [logTo, List.length_append, col_log cl r, col_step]
theorem col_many (cl : List (List Bat)) (op : List Bat) {r : Nat} : ∀ {k : Nat}, (∀ i, i < k → r ≤ (cl.getD i []).length) → colTo cl r k ≤ manyTo cl op k
  | 0, _ => Nat.le_refl _
  | k + 1, h => by
    have h1 := col_many cl op (k := k) fun i hi => h i (by omega)
    have h2 := sumTo_mono (cl.getD k []) (h k (by omega))
    rw [sumTo_all] at h2
    rw [colTo, manyTo]; omega
theorem log_many (cl : List (List Bat)) (op : List Bat) : (logM cl).length ≤ manyM cl op := by
  unfold logM manyM
  rw [col_log]
  exact col_many cl op fun i hi => rdM_le hi
theorem op_many {cl : List (List Bat)} {op : List Bat} {i : Nat} (hi : i < cl.length) : (op.getD i []).length ≤ manyM cl op := by
  have := manyTo_mono cl op (show i + 1 ≤ cl.length from hi)
  rw [manyTo] at this
  unfold manyM; omega
/-- all entries are small -/
def SmM (cl : List (List Bat)) (op : List Bat) : Prop := (∀ i, i < cl.length → ∀ j, j < (cl.getD i []).length → ∀ x ∈ (cl.getD i []).getD j [], EntSm x) ∧ ∀ i, i < op.length → ∀ x ∈ op.getD i [], EntSm x
theorem SmM.log {cl : List (List Bat)} {op : List Bat} (h : SmM cl op) : ∀ l ∈ cl, ∀ b ∈ l, ∀ x ∈ b, EntSm x := by
  intro l hl b hb x hx
  obtain ⟨i, hi, rfl⟩ := List.mem_iff_getElem.1 hl
  obtain ⟨j, hj, rfl⟩ := List.mem_iff_getElem.1 hb
  refine h.1 i hi j (by rw [getD_lt hi]; exact hj) x ?_
  rw [getD_lt hi, getD_lt hj]; exact hx
theorem SmM.nil (n : Nat) : SmM (List.replicate n []) (List.replicate n []) :=
  ⟨fun i hi j hj => by rw [getD_repl] at hj; simp at hj, fun i hi x hx => by rw [getD_repl'] at hx; simp at hx⟩
theorem SmM.add {cl : List (List Bat)} {op : List Bat} (h : SmM cl op) {i : Nat} (hi : i < op.length) {x : Ent} (hx : EntSm x) : SmM cl (addM op i x) := by
  refine ⟨h.1, fun j hj y hy => ?_⟩
  rw [add_len] at hj
  rw [add_at hi] at hy
  split at hy
  · rcases List.mem_append.1 hy with a | a
    · exact h.2 i hi y a
    · simp at a; subst a; exact hx
  · exact h.2 j hj y hy
theorem SmM.cls {cl : List (List Bat)} {op : List Bat} (h : SmM cl op) {i : Nat} (hi : i < cl.length) (hl : op.length = cl.length) : SmM (clsM cl i (op.getD i [])) (op.set i []) := by
  refine ⟨fun j hj k hk x hx => ?_, fun j hj x hx => ?_⟩
  · rw [cls_len] at hj
    rw [cls_at hi] at hk hx
    split at hk
    · rename_i e
      rw [if_pos e] at hx
      rw [List.length_append, List.length_singleton] at hk
      rcases Nat.lt_or_ge k (cl.getD i []).length with a | a
      · simp only [List.getD_eq_getElem?_getD] at hx
        rw [List.getElem?_append_left (by rw [List.getD_eq_getElem?_getD] at a; exact a)] at hx
        simp only [← List.getD_eq_getElem?_getD] at hx
        exact h.1 i hi k a x hx
      · obtain rfl : k = (cl.getD i []).length := by omega
        have : (cl.getD i [] ++ [op.getD i []]).getD (cl.getD i []).length [] = op.getD i [] := by
          rw [List.getD_eq_getElem?_getD, List.getElem?_append_right (Nat.le_refl _), Nat.sub_self]; rfl
        rw [this] at hx
        exact h.2 i (by omega) x hx
    · rename_i e
      rw [if_neg e] at hx
      exact h.1 j hj k hk x hx
  · rw [List.length_set] at hj
    by_cases e : j = i
    · subst e
      have : (op.set j []).getD j [] = ([] : Bat) := by simp [List.getD_eq_getElem?_getD, List.getElem?_set_self (show j < op.length by omega)]
      rw [this] at hx; simp at hx
    · have : (op.set i []).getD j [] = op.getD j [] := by
        simp only [List.getD_eq_getElem?_getD]
        rw [List.getElem?_set_ne (fun h => e h.symm)]
      rw [this] at hx
      exact h.2 j hj x hx
theorem plain_sm {x : Ent} (h : EntSm x) : EntSm (plainE x) := by
  unfold plainE
  split
  · exact ⟨by simp, h.cuts, h.own⟩
  · exact ⟨h.ops, by simp, by simp⟩
/-- a merge within bounds: n inputs, at most a entries, at most k batches of an input -/
structure BdM (n a k : Nat) (cl : List (List Bat)) (op : List Bat) : Prop where
  n0 : 0 < n
  lc : cl.length = n
  lo : op.length = n
  many : manyM cl op ≤ a
  len : ∀ i, i < n → (cl.getD i []).length ≤ k
  sm : SmM cl op
theorem BdM.mono {n a k a' k' : Nat} {cl : List (List Bat)} {op : List Bat} (h : BdM n a k cl op) (ha : a ≤ a') (hk : k ≤ k') : BdM n a' k' cl op :=
  ⟨h.n0, h.lc, h.lo, Nat.le_trans h.many ha, fun i hi => Nat.le_trans (h.len i hi) hk, h.sm⟩
theorem many_nil (n : Nat) : manyM (List.replicate n []) (List.replicate n []) = 0 := by
  have : ∀ k, manyTo (List.replicate n []) (List.replicate n []) k = 0 := fun k => by
    induction k with
    | zero => rfl
    | succ k ih => rw [manyTo, ih, getD_repl, getD_repl']; rfl
  exact this _
theorem BdM.nil {n : Nat} (h : 0 < n) : BdM n 0 0 (List.replicate n []) (List.replicate n []) :=
  ⟨h, by simp, by simp, by rw [many_nil]; exact Nat.le_refl _, fun i hi => by rw [getD_repl]; simp, SmM.nil n⟩
theorem BdM.add {n a k : Nat} {cl : List (List Bat)} {op : List Bat} (h : BdM n a k cl op) {i : Nat} (hi : i < n) {x : Ent} (hx : EntSm x) : BdM n (a + 1) k cl (addM op i x) :=
  ⟨h.n0, h.lc, by rw [add_len]; exact h.lo, by rw [many_add (by rw [h.lc, h.lo]) (by rw [h.lo]; exact hi)]; have := h.many; omega, h.len, h.sm.add (by rw [h.lo]; exact hi) hx⟩
theorem BdM.cls {n a k : Nat} {cl : List (List Bat)} {op : List Bat} (h : BdM n a k cl op) {i : Nat} (hi : i < n) : BdM n a (k + 1) (clsM cl i (op.getD i [])) (op.set i []) :=
  ⟨h.n0, by rw [cls_len]; exact h.lc, by rw [List.length_set]; exact h.lo, by rw [many_cls (by rw [h.lc, h.lo]) (by rw [h.lc]; exact hi)]; exact h.many, fun j hj => by
    rw [cls_at (by rw [h.lc]; exact hi)]
    have := h.len j hj
    split
    · rename_i e; subst e; rw [List.length_append, List.length_singleton]; omega
    · omega, h.sm.cls (by rw [h.lc]; exact hi) (by rw [h.lc, h.lo])⟩
abbrev MSt := List (List Bat) × List Bat
/-- where a merge stands behind one call of many: 0 and 1 Add, 2 Close -/
def fed1 (n : Nat) (X : List Ent) (s : MSt × Nat) (c : List Int) : MSt × Nat :=
  if c.length < 2 then s
  else if wi (c.getD 0 0) 3 < 2 then (if s.2 < X.length then ((s.1.1, addM s.1.2 (wi (c.getD 1 0) n).toNat (plainE (X.getD s.2 entZ))), s.2 + 1) else s)
  else ((clsM s.1.1 (wi (c.getD 1 0) n).toNat (s.1.2.getD (wi (c.getD 1 0) n).toNat []), s.1.2.set (wi (c.getD 1 0) n).toNat []), s.2)
def fedM (n : Nat) (X : List Ent) (s : MSt × Nat) (ls : List (List Int)) : MSt × Nat := ls.foldl (fed1 n X) s
theorem fed_snoc (n : Nat) (X : List Ent) (s : MSt × Nat) {ls : List (List Int)} {j : Nat} (h : j < ls.length) : fedM n X s (ls.take (j + 1)) = fed1 n X (fedM n X s (ls.take j)) ls[j] := by
  unfold fedM
  rw [List.take_succ_eq_append_getElem h, List.foldl_append]; rfl
theorem wi_nat {z : Int} {n : Nat} (h : 0 < n) : ∃ i : Nat, wi z n = (i : Int) ∧ (wi z n).toNat = i ∧ i < n := by
  have g1 := wi_lo (k := z) (n := n) (by omega)
  have g2 := wi_hi (k := z) (n := n) (by omega)
  exact ⟨(wi z n).toNat, by omega, rfl, by omega⟩
theorem fed1_bd {n a k : Nat} {X : List Ent} (hX : ∀ x ∈ X, EntSm x) {s : MSt × Nat} (h : BdM n (a + s.2) k s.1.1 s.1.2) (hs : s.2 ≤ X.length) (c : List Int) :
    BdM n (a + (fed1 n X s c).2) (k + 1) (fed1 n X s c).1.1 (fed1 n X s c).1.2 ∧ (fed1 n X s c).2 ≤ X.length := by
  unfold fed1
  split
  · exact ⟨h.mono (Nat.le_refl _) (by omega), hs⟩
  · obtain ⟨i, _, hi, hin⟩ := wi_nat (z := c.getD 1 0) h.n0
    rw [hi]
    split
    · split
      · rename_i hl
        refine ⟨(h.add hin (x := plainE (X.getD s.2 entZ)) ?_).mono (by simp; omega) (by omega), hl⟩
        rw [getD_lt hl]
        exact plain_sm (hX _ (List.getElem_mem hl))
      · exact ⟨h.mono (Nat.le_refl _) (by omega), hs⟩
    · exact ⟨(h.cls hin).mono (Nat.le_refl _) (Nat.le_refl _), hs⟩
theorem fed_bd {n a k : Nat} {X : List Ent} (hX : ∀ x ∈ X, EntSm x) {s : MSt} (h : BdM n a k s.1 s.2) (ls : List (List Int)) : ∀ j, j ≤ ls.length →
    BdM n (a + (fedM n X (s, 0) (ls.take j)).2) (k + j) (fedM n X (s, 0) (ls.take j)).1.1 (fedM n X (s, 0) (ls.take j)).1.2 ∧ (fedM n X (s, 0) (ls.take j)).2 ≤ X.length
  | 0, _ => by
    rw [List.take_zero]
    exact ⟨h, Nat.zero_le _⟩
  | j + 1, hj => by
    obtain ⟨h1, h2⟩ := fed_bd hX h ls j (by omega)
    rw [fed_snoc n X _ (show j < ls.length from hj)]
    exact fed1_bd hX h1 h2 _
end Go.Proofs.Ytijcckhkofkenaa
