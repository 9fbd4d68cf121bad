/- Contracts and lemmas for the proof of MergePlays; each theorem states its own conditions. -/
import Derived.Test.YtddghaoejnbkaaaDoorQMergePlaysbb
import Derived.BigQuiet
set_option linter.unusedVariables false
set_option linter.unusedSimpArgs false
/- Contracts and lemmas for the proofs of this seat; each theorem states its own conditions. -/
namespace Go.Proofs.YtddghaoejnbkaaaDoor
open Go.RowKit
/-! roref.SameEntry, slices.EqualFunc at entries -/
def sameEB (x y : Ent) : Bool := decide (x.im = y.im) && decide (x.ops = y.ops) && sameB x.cuts y.cuts x.own y.own
theorem sameEB_refl (x : Ent) : sameEB x x = true := by simp [sameEB, sameB]
set_option maxRecDepth 100000 in
set_option maxHeartbeats 2000000 in
theorem sameDeed_any (v u : Value) (d d' : Ops) (w : World) (h : Seg w v 4 d.length (cO d)) (h' : Seg w u 4 d'.length (cO d')) :
    Calls Tryd.prog 30 #[.agg #[v], .agg #[u]] w fun e w' => e = .returned (.bool (decide (d = d'))) ∧ Ext w w' := by
  have E2 := ((Ext.refl w).alloc (.cells #[v] 36)).alloc (.cells #[u] 36)
  have b0 := cell_of_one (heap_1 w (.cells #[v] 36) (.cells #[u] 36))
  have b1 := cell_of_one (heap_2 w (.cells #[v] 36) (.cells #[u] 36))
  have Q := hid (equal_Op v u d d' _ (h.ext E2) (h'.ext E2))
  go_enter Tryd.func30, Tryd.ntmps30
  go_wp2_with fail
  refine (Q.out).mono ?_
  rintro e w1 ⟨rfl, n, rfl⟩
  go_wp2
  go_ret
  exact ⟨rfl, E2.drewN n⟩
set_option maxRecDepth 100000 in
set_option maxHeartbeats 4000000 in
theorem sameEntry_any (e e' : EV) (x x' : Ent) (w : World) (h : EntSeg w e x) (h' : EntSeg w e' x') :
    Calls Tryd.prog 20 #[evV e, evV e'] w fun r w' => r = .returned (.bool (sameEB x x')) ∧ Ext w w' := by
  obtain ⟨v1, b, v2, v3⟩ := e
  obtain ⟨u1, b', u2, u3⟩ := e'
  obtain ⟨h1, hb, h2, h3⟩ := h
  obtain ⟨h1', hb', h2', h3'⟩ := h'
  dsimp only at h1 hb h2 h3 h1' hb' h2' h3'
  have E2 := ((Ext.refl w).alloc (.cells #[v1, .bool b, v2, v3] 41)).alloc (.cells #[u1, .bool b', u2, u3] 41)
  have k0 := blk4 (heap_1 w (.cells #[v1, .bool b, v2, v3] 41) (.cells #[u1, .bool b', u2, u3] 41))
  have k1 := blk4 (heap_2 w (.cells #[v1, .bool b, v2, v3] 41) (.cells #[u1, .bool b', u2, u3] 41))
  have D := hid (sameDeed_any v1 u1 x.ops x'.ops _ (h1.ext E2) (h1'.ext E2))
  have M := hid (fun w' (E : Ext w w') => sameMap_any (.agg #[v2, v3]) (.agg #[u2, u3]) x.cuts x'.cuts x.own x'.own w' ⟨v2, v3, rfl, h2.ext E, h3.ext E⟩ ⟨u2, u3, rfl, h2'.ext E, h3'.ext E⟩)
  have hS : sameEB x x' = (decide (b = b') && decide (x.ops = x'.ops) && sameB x.cuts x'.cuts x.own x'.own) := by rw [hb, hb']; rfl
  rw [hS]
  clear h1 h2 h3 h1' h2' h3' hb hb' hS
  generalize decide (x.ops = x'.ops) = c at D ⊢
  generalize sameB x.cuts x'.cuts x.own x'.own = d at M ⊢
  show Calls _ _ #[.agg #[v1, .bool b, v2, v3], .agg #[u1, .bool b', u2, u3]] _ _
  by_cases hbb : b = b'
  · subst hbb
    have qb : (b == b) = true := by simp
    have qd : decide (b = b) = true := by simp
    rw [qd]
    go_enter Tryd.func20, Tryd.ntmps20
    go_wp2_with fail
    refine (D.out).mono ?_
    rintro r w1 ⟨rfl, E1⟩
    replace k0 := blk4 (E1.heap (heap_1 w (.cells #[v1, .bool b, v2, v3] 41) (.cells #[u1, .bool b, u2, u3] 41)))
    replace k1 := blk4 (E1.heap (heap_2 w (.cells #[v1, .bool b, v2, v3] 41) (.cells #[u1, .bool b, u2, u3] 41)))
    cases c with
    | true =>
      go_wp2_with fail
      refine (M.out _ (E2.trans E1)).mono ?_
      rintro r w2 ⟨rfl, E3⟩
      go_wp2
      go_ret
      exact ⟨rB (by simp), (E2.trans E1).trans E3⟩
    | false =>
      go_wp2
      go_ret
      exact ⟨rB (by simp), E2.trans E1⟩
  · have qb : (b == b') = false := by simpa using hbb
    have qd : decide (b = b') = false := by simpa using hbb
    rw [qd]
    clear hbb
    go_enter Tryd.func20, Tryd.ntmps20
    go_wp2
    go_ret
    exact ⟨rB (by simp), E2⟩
/-- a slice that reads as entries -/
def EntsSeg (w : World) (v : Value) (X : List Ent) : Prop := ∃ es : List EV, es.length = X.length ∧ Seg w v 4 X.length (cEn es) ∧ ∀ (j : Nat) (e : EV) (x : Ent), es[j]? = some e → X[j]? = some x → EntSeg w e x
theorem EntsSeg.ext {w w' : World} {v : Value} {X : List Ent} (h : EntsSeg w v X) (E : Ext w w') : EntsSeg w' v X := by
  obtain ⟨es, h1, h2, h3⟩ := h
  exact ⟨es, h1, h2.ext E, fun j e x a b => (h3 j e x a b).ext E⟩
theorem EntsSeg.form {w : World} {v : Value} {X : List Ent} (h : EntsSeg w v X) : ∃ a c, v = .slice a X.length c := by
  obtain ⟨es, h1, h2, h3⟩ := h
  exact seg_form h2
theorem ents_seg {eB : Nat} {w : World} {es : List EV} {B : Nat} {v : Value} {X : List Ent} (h : EntsSt eB w es X) (ho : w.ownsRow B 41 4 v X.length (cEn es)) : EntsSeg w v X := ⟨es, h.1, own_seg ho, fun j e x a b => (h.2 j e x a b).seg⟩
theorem LogR.seg {w : World} {X : List Ent} {v : Value} {a : World} (h : LogR w X v a) : EntsSeg a v X := by
  obtain ⟨es, h1, h2, h3⟩ := h
  exact ents_seg h1 h2
def entZ : Ent := ⟨[], false, [], []⟩
def eqEs (X Y : List Ent) : Bool := decide (X.length = Y.length) && (List.range X.length).all fun i => sameEB (X.getD i entZ) (Y.getD i entZ)
theorem eqEs_refl (X : List Ent) : eqEs X X = true := by
  unfold eqEs
  simp only [decide_true, Bool.true_and, List.all_eq_true]
  intro i _
  exact sameEB_refl _
theorem enSame : ∀ args w, (callFunc 20 args).run Tryd.prog w = .ok (.enter 20 args) w := enters_of Tryd.func20 (by kernel_rfl) rfl
set_option maxRecDepth 100000 in
set_option maxHeartbeats 4000000 in
theorem equalE_any (v u : Value) (X Y : List Ent) (w : World) (hv : EntsSeg w v X) (hu : EntsSeg w u Y) :
    Calls Tryd.prog 17 #[v, u, .func (.func 20) #[] #[]] w fun e w' => e = .returned (.bool (eqEs X Y)) ∧ Ext w w' := by
  obtain ⟨es, hl, hs, he⟩ := hv
  obtain ⟨fs, hl', hs', he'⟩ := hu
  obtain ⟨a, k, rfl⟩ := seg_form hs
  obtain ⟨a', k', rfl⟩ := seg_form hs'
  have HE := hid he
  have HE' := hid he'
  clear he he'
  have hen := enSame
  by_cases hxy : X.length = Y.length
  · have q0 : ((X.length : Int) != (Y.length : Int)) = false := by simp [hxy]
    have HS := hid hs
    have HS' := hid hs'
    have HR : Hid (eqEs X Y = (List.range X.length).all fun i => sameEB (X.getD i entZ) (Y.getD i entZ)) := hid (by unfold eqEs; simp [hxy])
    have HXY := hid hxy
    have hle : X.length ≤ Y.length := by omega
    have hge : Y.length ≤ X.length := by omega
    clear hs hs' hxy
    go_enter Tryd.func17, Tryd.ntmps17
    go_wp2_with fail
    go_loopw [7, 8, 9, 17] (fun _ _ _ iv wr => ∃ i : Nat, i ≤ X.length ∧ iv = .int .i64 i ∧ allTo (fun i => sameEB (X.getD i entZ) (Y.getD i entZ)) i ∧ Ext w wr) (fun _ _ _ iv _ => X.length - (intOf iv).toNat)
    case atStart => exact ⟨0, Nat.zero_le _, rfl, allTo_zero _, Ext.refl _⟩
    case round =>
      obtain ⟨i, hi, rfl, hall, E⟩ := hrel
      have HALL := hid hall
      clear hall
      by_cases hil : i < X.length
      · have hil' : i < Y.length := by omega
        obtain ⟨b, o, rfl, _, p1, p2, hc⟩ := seg_cells HS.out (by omega)
        obtain ⟨b', o', rfl, _, p1', p2', hc'⟩ := seg_cells HS'.out (by omega)
        unfold maxLen at p2 p2'
        obtain ⟨x0, x1, x2, x3⟩ := cEn_at es (show i < es.length by omega)
        obtain ⟨y0, y1, y2, y3⟩ := cEn_at fs (show i < fs.length by omega)
        replace x0 := E.cell (hc _ _ x0)
        replace x1 : wr.cell? ⟨b, o + i * 4 + 1, none⟩ = _ := E.cell (hc _ _ x1)
        replace x2 : wr.cell? ⟨b, o + i * 4 + 2, none⟩ = _ := E.cell (hc _ _ x2)
        replace x3 : wr.cell? ⟨b, o + i * 4 + 3, none⟩ = _ := E.cell (hc _ _ x3)
        replace y0 := E.cell (hc' _ _ y0)
        replace y1 : wr.cell? ⟨b', o' + i * 4 + 1, none⟩ = _ := E.cell (hc' _ _ y1)
        replace y2 : wr.cell? ⟨b', o' + i * 4 + 2, none⟩ = _ := E.cell (hc' _ _ y2)
        replace y3 : wr.cell? ⟨b', o' + i * 4 + 3, none⟩ = _ := E.cell (hc' _ _ y3)
        have g1 := HE.out i es[i] X[i] (List.getElem?_eq_getElem (by omega)) (List.getElem?_eq_getElem hil)
        have g2 := HE'.out i fs[i] Y[i] (List.getElem?_eq_getElem (by omega)) (List.getElem?_eq_getElem hil')
        have hst := hid (show sameEB (X.getD i entZ) (Y.getD i entZ) = sameEB X[i] Y[i] by rw [getD_lt hil, getD_lt hil'])
        generalize X[i] = x at g1 hst
        generalize Y[i] = y at g2 hst
        generalize es[i] = e at x0 x1 x2 x3 g1
        generalize fs[i] = f at y0 y1 y2 y3 g2
        obtain ⟨v1, c1, v2, v3⟩ := e
        obtain ⟨u1, c2, u2, u3⟩ := f
        dsimp only at x0 x1 x2 x3 y0 y1 y2 y3
        obtain ⟨f1, l1, e1⟩ := seg_form g1.ops
        obtain ⟨f2, l2, e2⟩ := seg_form g1.cuts
        obtain ⟨f3, l3, e3⟩ := seg_form g1.own
        obtain ⟨f4, l4, e4⟩ := seg_form g2.ops
        obtain ⟨f5, l5, e5⟩ := seg_form g2.cuts
        obtain ⟨f6, l6, e6⟩ := seg_form g2.own
        dsimp only at e1 e2 e3 e4 e5 e6
        subst e1; subst e2; subst e3; subst e4; subst e5; subst e6
        have SE := hid (fun w' (E : Ext w w') => sameEntry_any _ _ x y w' (g1.ext E) (g2.ext E))
        have y0' := cell1 y0
        have y1' := cell1 y1
        have y2' := cell1 y2
        have y3' := cell1 y3
        clear g1 g2 hc hc'
        obtain ⟨r, hr⟩ : ∃ r, sameEB x y = r := ⟨_, rfl⟩
        rw [hr] at SE hst
        clear hr
        go_wp2_with fail
        refine (SE.out _ ((E.alloc _).alloc _)).mono ?_
        rintro e w4 ⟨rfl, E4⟩
        cases r with
        | true =>
          have HN := hid (allTo_succ HALL.out hst.out)
          go_wp2
          go_roundw
          case rel => exact ⟨i + 1, by omega, by go_num, HN.out, ((E.alloc _).alloc _).trans E4⟩
          case measure => simp [intOf] <;> omega
        | false =>
          have HX := hid (show eqEs X Y = false by rw [HR.out, all_false hil hst.out])
          go_wp2
          go_ret
          exact ⟨rB HX.out.symm, ((E.alloc _).alloc _).trans E4⟩
      · obtain rfl : i = X.length := by omega
        have HX := hid (show eqEs X Y = true by rw [HR.out, all_true HALL.out])
        go_wp2
        go_ret
        exact ⟨rB HX.out.symm, E⟩
  · have q0 : ((X.length : Int) != (Y.length : Int)) = true := by simp; omega
    have hr : eqEs X Y = false := by unfold eqEs; simp [hxy]
    rw [hr]
    clear hs hs' hr hxy
    go_enter Tryd.func17, Tryd.ntmps17
    go_wp2
    go_ret
    exact ⟨rfl, Ext.refl _⟩
end Go.Proofs.YtddghaoejnbkaaaDoor
