/- Contracts and lemmas for the proof of MergePlays; each theorem states its own conditions. -/
import Derived.Test.YtddghaoejnbkaaaDoorQMergePlaysaz
set_option linter.unusedVariables false
set_option linter.unusedSimpArgs false
/- Contracts and lemmas for the proofs of this seat; each theorem states its own conditions. -/
namespace Go.Proofs.YtddghaoejnbkaaaDoor
open Go.RowKit
variable {eB : Nat}
/-! merge.Log -/
theorem rowTo_more (cl : List (List Bat)) (r i : Nat) : ∀ d, ∃ l, rowTo cl r (i + d) = rowTo cl r i ++ l
  | 0 => ⟨[], by simp⟩
  | d + 1 => by
    obtain ⟨l, h⟩ := rowTo_more cl r i d
    exact ⟨l ++ (cl.getD (i + d) []).getD r [], by rw [← Nat.add_assoc, rowTo, h, List.append_assoc]⟩
theorem log_len {cl : List (List Bat)} {r i : Nat} (hr : r < rdM cl) (hi : i < cl.length) : (logTo cl r).length + (rowTo cl r i).length + ((cl.getD i []).getD r []).length ≤ (logM cl).length := by
  obtain ⟨l, e⟩ := logTo_more cl (r + 1) (rdM cl - (r + 1))
  rw [show r + 1 + (rdM cl - (r + 1)) = rdM cl by omega] at e
  obtain ⟨m, e2⟩ := rowTo_more cl r (i + 1) (cl.length - (i + 1))
  rw [show i + 1 + (cl.length - (i + 1)) = cl.length by omega] at e2
  have e3 : logTo cl (r + 1) = logTo cl r ++ rowTo cl r cl.length := rfl
  have e4 : rowTo cl r (i + 1) = rowTo cl r i ++ (cl.getD i []).getD r [] := rfl
  unfold logM
  rw [e, e3, e2, e4]
  simp only [List.length_append]
  omega
theorem getD_lt {α : Type} {l : List α} {d : α} {r : Nat} (h : r < l.length) : l.getD r d = l[r] := by simp [h]
/-- a log being laid -/
def LogB (B : Nat) (w : World) (X : List Ent) (v : Value) (wr : World) : Prop := ∃ es, EntsSt B wr es X ∧ wr.ownsRow w.heap.size 41 4 v X.length (cEn es) ∧ Ext w wr
def LogR (w : World) (X : List Ent) (v : Value) (wr : World) : Prop := LogB w.heap.size w X v wr
theorem LogB.ext {B : Nat} {w : World} {X : List Ent} {v : Value} {a b : World} (h : LogB B w X v a) (E : Ext a b) : LogB B w X v b := by
  obtain ⟨es, h1, h2, h3⟩ := h
  exact ⟨es, h1.ext E, own_ext h2 E, h3.trans E⟩
theorem LogB.form {B : Nat} {w : World} {X : List Ent} {v : Value} {a : World} (h : LogB B w X v a) : ∃ p c, v = .slice p X.length c := by
  obtain ⟨es, h1, h2, h3⟩ := h
  exact own_form h2
theorem LogB.E {B : Nat} {w : World} {X : List Ent} {v : Value} {a : World} (h : LogB B w X v a) : Ext w a := by
  obtain ⟨es, h1, h2, h3⟩ := h
  exact h3
theorem LogR.ext {w : World} {X : List Ent} {v : Value} {a b : World} (h : LogR w X v a) (E : Ext a b) : LogR w X v b := LogB.ext h E
theorem LogR.form {w : World} {X : List Ent} {v : Value} {a : World} (h : LogR w X v a) : ∃ p c, v = .slice p X.length c := LogB.form h
theorem LogR.E {w : World} {X : List Ent} {v : Value} {a : World} (h : LogR w X v a) : Ext w a := LogB.E h
theorem EntSt.grown {w w' : World} {row : Option Nat} {B n : Nat} {v : Value} {xs : List Value} (hg : w.grownBy w' v.ownBlock) (ho : w.ownsRow B 41 4 v n xs) {e : EV} {x : Ent} (h : EntSt eB w e x) : EntSt eB w' e x :=
  ⟨grown_own hg h.ops (own_own_ne h.ops ho (by decide)), h.im, grown_own hg h.cuts (own_own_ne h.cuts ho (by decide)), grown_own hg h.own (own_own_ne h.own ho (by decide))⟩
/-- the operations of any two lie apart -/
def ApE (es : List EV) : Prop := ∀ (i j : Nat) (e e' : EV), es[i]? = some e → es[j]? = some e' → i < j → ∀ k, e.1.ownBlock = some k → e'.1.ownBlock ≠ some k
theorem ApE.nil : ApE [] := fun i j e e' h => by simp at h
theorem ApE.snoc {es : List EV} {e : EV} (h : ApE es) (hf : ∀ (i : Nat) (e' : EV), es[i]? = some e' → ∀ k, e'.1.ownBlock = some k → e.1.ownBlock ≠ some k) : ApE (es ++ [e]) := by
  intro i j e1 e2 h1 h2 hij k hk
  by_cases hj : j < es.length
  · rw [List.getElem?_append_left (by omega)] at h1
    rw [List.getElem?_append_left hj] at h2
    exact h i j e1 e2 h1 h2 hij k hk
  · rw [List.getElem?_append_right (by omega)] at h2
    have : j - es.length = 0 := by
      rcases Nat.eq_zero_or_pos (j - es.length) with q | q
      · exact q
      · rw [List.getElem?_eq_none (by simp; omega)] at h2; cases h2
    rw [this] at h2
    simp only [List.getElem?_cons_zero, Option.some.injEq] at h2
    subst h2
    rw [List.getElem?_append_left (by omega)] at h1
    exact hf i e1 h1 k hk
/-- a log whose entries' operations lie apart -/
def LogRA (w : World) (X : List Ent) (v : Value) (wr : World) : Prop := ∃ es, EntsSt w.heap.size wr es X ∧ wr.ownsRow w.heap.size 41 4 v X.length (cEn es) ∧ Ext w wr ∧ ApE es
theorem LogRA.toR {w : World} {X : List Ent} {v : Value} {wr : World} (h : LogRA w X v wr) : LogR w X v wr := by
  obtain ⟨es, h1, h2, h3, _⟩ := h
  exact ⟨es, h1, h2, h3⟩
theorem LogRA.ext {w : World} {X : List Ent} {v : Value} {a b : World} (h : LogRA w X v a) (E : Ext a b) : LogRA w X v b := by
  obtain ⟨es, h1, h2, h3, h4⟩ := h
  exact ⟨es, h1.ext E, own_ext h2 E, h3.trans E, h4⟩
theorem LogRA.form {w : World} {X : List Ent} {v : Value} {a : World} (h : LogRA w X v a) : ∃ p c, v = .slice p X.length c := h.toR.form
theorem LogRA.E {w : World} {X : List Ent} {v : Value} {a : World} (h : LogRA w X v a) : Ext w a := h.toR.E
theorem log_stepA {w w1 w2 : World} {X : List Ent} {es : List EV} {v v' : Value} {e : EV} {x : Ent} (h1 : EntsSt w.heap.size w1 es X) (h2 : w1.ownsRow w.heap.size 41 4 v X.length (cEn es)) (h3 : Ext w w1) (he : EntSt w.heap.size w1 e x)
    (ho : w2.ownsRow w.heap.size 41 4 v' (X.length + 1) (cEn es ++ evC e)) (hg : w1.grownBy w2 v.ownBlock) (ap : ApE (es ++ [e])) : LogRA w (X ++ [x]) v' w2 := by
  refine ⟨es ++ [e], EntsSt.snoc ⟨h1.1, fun j e' x' a b => (h1.2 j e' x' a b).grown (row := none) hg h2⟩ (he.grown (row := none) hg h2), ?_, h3.grown hg (fun k hk => own_ge h2 k hk), ap⟩
  rw [cEn_app, List.length_append]
  simpa [cEn] using ho
set_option maxRecDepth 100000 in
set_option maxHeartbeats 4000000 in
theorem mlog_okA {w : World} {S : Nat → Prop} {bm : Nat} {cl : List (List Bat)} {op : List Bat} (h : MergeSt eB w S bm cl op) (hsm : ∀ l ∈ cl, ∀ b ∈ l, ∀ x ∈ b, EntSm x) (hlen : (logM cl).length ≤ 100000) (hcl : ∀ i, i < cl.length → (cl.getD i []).length ≤ 1000000) :
    Calls Tryd.prog 18 #[.pointer (some ⟨bm, 0, none⟩)] w fun e w' => ∃ v', e = .returned v' ∧ LogRA w (logM cl) v' w' := by
  have MR := hid (mrounds_ok h)
  obtain ⟨bc, bo, vc, vo, h⟩ := h
  have H := hid h
  have n0 := h.n0
  have n4 := h.n4
  have cb := h.cells.1
  clear h
  have hR : rdM cl ≤ 1000000 := by
    have := rdM_le (cl := cl) (i := 0) n0
    have := hcl 0 n0
    omega
  have HL := hid (fun r i (hr : r < rdM cl) (hi : i < cl.length) => Nat.le_trans (log_len hr hi) hlen)
  have HRL := hid (fun i (hi : i < cl.length) => rdM_le hi)
  have HC := hid hcl
  have HSM := hid hsm
  have HEND := hid (show logTo cl (rdM cl) = logM cl from rfl)
  clear hlen hcl hsm
  obtain ⟨R, hRR⟩ : ∃ R, rdM cl = R := ⟨_, rfl⟩
  rw [hRR] at MR hR HL HRL HEND
  clear hRR
  go_enter Tryd.func18, Tryd.ntmps18
  go_wp2_with fail
  refine (MR.out).mono ?_
  rintro e w1 ⟨rfl, E1⟩
  clear MR
  go_wp2_with fail
  go_loopw [3, 4, 5, 7, 10, 18, 32] (fun ov _ _ _ rv _ _ wr => ∃ r : Nat, r ≤ R ∧ rv = .int .i64 r ∧ LogRA w (logTo cl r) ov wr) (fun _ _ _ _ rv _ _ _ => R - (intOf rv).toNat)
  case atStart => exact ⟨0, Nat.zero_le _, rfl, [], EntsSt.nil _, World.ownsRow_nil _ _ _ _, E1, ApE.nil⟩
  case round =>
    obtain ⟨wq, rfl⟩ : ∃ wq : World, wq = wr := ⟨_, rfl⟩
    obtain ⟨r, hr, rfl, hlog⟩ := hrel
    by_cases hrl : r < R
    · have cbq := hlog.E.cell cb
      go_wp2_with fail
      go_loopw [3, 5, 7, 18, 32] (fun ov _ _ iv _ wr => ∃ i : Nat, i ≤ cl.length ∧ iv = .int .i64 i ∧ LogRA w (logTo cl r ++ rowTo cl r i) ov wr) (fun _ _ _ iv _ _ => cl.length - (intOf iv).toNat)
      case atStart => exact ⟨0, Nat.zero_le _, rfl, by rw [show rowTo cl r 0 = [] from rfl, List.append_nil]; exact hlog⟩
      case round =>
        clear hlog cbq
        obtain ⟨wz, rfl⟩ : ∃ wz : World, wz = wr := ⟨_, rfl⟩
        obtain ⟨i, hi, rfl, hlog⟩ := hrel
        by_cases hil : i < cl.length
        · have Ez := hlog.E
          have cbz := Ez.cell cb
          have ci := Ez.cell (H.out.cellC hil).1
          obtain ⟨us, hus, hown, _, hbs⟩ := H.out.cls i hil
          have hrL := HRL.out i hil
          have hcL := HC.out i hil
          obtain ⟨ai, ki, e1⟩ := own_form hown
          rw [e1] at ci hown
          obtain ⟨bu, offu, rfl, _, q1, q2, hcu⟩ := seg_cells (own_seg hown) (by omega)
          unfold maxLen at q2
          have cu := Ez.cell (hcu r us[r] (List.getElem?_eq_getElem (by omega)))
          obtain ⟨⟨fs, hfs, hbo, hx1⟩, hx2⟩ := hbs r us[r] _ (List.getElem?_eq_getElem (by omega)) (List.getElem?_eq_getElem (show r < (cl.getD i []).length by omega))
          have hsmb := HSM.out (cl.getD i []) (by simp [hil]) _ (List.getElem_mem (show r < (cl.getD i []).length by omega))
          have hgr : (cl.getD i []).getD r [] = (cl.getD i [])[r]'(by omega) := getD_lt (by omega)
          have hll := HL.out r i hrl hil
          have HST := hid (show rowTo cl r (i + 1) = rowTo cl r i ++ (cl.getD i []).getD r [] from rfl)
          rw [hgr] at HST hll
          generalize (cl.getD i [])[r]'(by omega) = b at hfs hbo hsmb hll HST
          obtain ⟨ab, kb, e3⟩ := own_form hbo
          rw [e3] at cu hbo
          obtain ⟨N, hN⟩ : ∃ N, (cl.getD i []).length = N := ⟨_, rfl⟩
          rw [hN] at ci q1 hrL hcL
          have HFS := hid hfs
          have HSB := hid hsmb
          have HST2 : Hid (logTo cl r ++ rowTo cl r (i + 1) = logTo cl r ++ rowTo cl r i ++ b) := hid (by rw [HST.out, List.append_assoc])
          have hXl : (logTo cl r ++ rowTo cl r i).length + b.length ≤ 100000 := by rw [List.length_append]; omega
          generalize logTo cl r ++ rowTo cl r i = X at hlog HST2 hXl
          clear hx1 hx2 hgr hll HST e1 e3 hcu hbs hN hus hown hfs hsmb
          go_wp2_with fail
          go_loopw [3, 7, 32] (fun ov _ jv wr => ∃ j : Nat, j ≤ b.length ∧ jv = .int .i64 j ∧ LogRA w (X ++ b.take j) ov wr) (fun _ _ jv _ => b.length - (intOf jv).toNat)
          case atStart => exact ⟨0, Nat.zero_le _, rfl, by rw [List.take_zero, List.append_nil]; exact hlog⟩
          case round =>
            clear hlog
            obtain ⟨j, hj, rfl, hlog⟩ := hrel
            by_cases hjl : j < b.length
            · have Ej := hlog.E
              obtain ⟨bb, ob, rfl, _, p1, p2, hcb⟩ := seg_cells (own_seg hbo) (by omega)
              unfold maxLen at p2
              have hfl := HFS.out.1
              have hjf : j < fs.length := by omega
              obtain ⟨x0, x1, x2, x3⟩ := cEn_at fs hjf
              replace x0 := Ej.cell (hcb _ _ x0)
              replace x1 : wr.cell? ⟨bb, ob + j * 4 + 1, none⟩ = _ := Ej.cell (hcb _ _ x1)
              replace x2 : wr.cell? ⟨bb, ob + j * 4 + 2, none⟩ = _ := Ej.cell (hcb _ _ x2)
              replace x3 : wr.cell? ⟨bb, ob + j * 4 + 3, none⟩ = _ := Ej.cell (hcb _ _ x3)
              have hE := (HFS.out.2 j fs[j] b[j] (List.getElem?_eq_getElem hjf) (List.getElem?_eq_getElem hjl))
              have hsb := HSB.out b[j] (List.getElem_mem hjl)
              have HT := hid (show X ++ b.take (j + 1) = (X ++ b.take j) ++ [b[j]] by rw [List.take_succ_eq_append_getElem hjl, List.append_assoc])
              have hXj : (X ++ b.take j).length ≤ 100000 := by rw [List.length_append, List.length_take]; omega
              generalize b[j] = xj at hE hsb HT
              generalize X ++ b.take j = Y at hlog HT hXj
              generalize fs[j] = ej at x0 x1 x2 x3 hE
              obtain ⟨v1, b1, v2, v3⟩ := ej
              dsimp only at x0 x1 x2 x3
              obtain ⟨f1, g1, e1⟩ := own_form hE.ops
              obtain ⟨f2, g2, e2⟩ := own_form hE.cuts
              obtain ⟨f3, g3, e3⟩ := own_form hE.own
              dsimp only at e1 e2 e3
              subst e1; subst e2; subst e3
              have EC := hid (fun w' (E : Ext w w') => ecopied_fresh (eB := w.heap.size) _ _ w' (hE.seg.ext E) hsb E.size')
              have HE := hid hE
              have HLG := hid hlog
              obtain ⟨av, kv, rfl⟩ := hlog.form
              clear hE hsb hcb hfl hlog
              go_wp2_with fail
              refine (EC.out _ ((HLG.out.E.alloc _))).mono ?_
              rintro e w4 ⟨⟨v1, b1', v2, v3⟩, rfl, he4, E4, fr4⟩
              obtain ⟨es, m1, m2, m3, m4⟩ := HLG.out
              have EE4 := ((Ext.refl wr).alloc (.cells #[.slice f1 xj.ops.length g1, .bool b1, .slice f2 xj.cuts.length g2, .slice f3 xj.own.length g3] 41)).trans E4
              have k1 := m1.ext EE4
              have k2 := own_ext m2 EE4
              have k3 := m3.trans EE4
              have HAP := hid (ApE.snoc m4 (fun i e' hi k hk => by
                have hil : i < es.length := by
                  rcases Nat.lt_or_ge i es.length with q | q
                  · exact q
                  · rw [List.getElem?_eq_none q] at hi; cases hi
                have := ((m1.2 i e' _ hi (List.getElem?_eq_getElem (by have := m1.1; omega))).ops.lt k hk).2
                intro hk2
                have := fr4 k hk2
                simp only [World.size_alloc] at this
                omega))
              have HE4 := hid he4
              obtain ⟨f4, g4, e4⟩ := own_form he4.ops
              obtain ⟨f5, g5, e5⟩ := own_form he4.cuts
              obtain ⟨f6, g6, e6⟩ := own_form he4.own
              dsimp only at e4 e5 e6
              subst e4; subst e5; subst e6
              have K := hid k1
              have p1' : Seg (w4.alloc (.cells #[.slice f4 xj.ops.length g4, .bool b1', .slice f5 xj.cuts.length g5, .slice f6 xj.own.length g6] 41)) (.slice (some ⟨w4.heap.size, 0, none⟩) 1 1) 4 1 (evC (.slice f4 xj.ops.length g4, b1', .slice f5 xj.cuts.length g5, .slice f6 xj.own.length g6)) := seg_blk (heap_alloc_new w4 _) rfl (Nat.le_refl _) (by simp [maxLen])
              have p2' := k2.alloc (.cells #[.slice f4 xj.ops.length g4, .bool b1', .slice f5 xj.cuts.length g5, .slice f6 xj.own.length g6] 41)
              have p3' : w.heap.size ≤ (w4.alloc (.cells #[.slice f4 xj.ops.length g4, .bool b1', .slice f5 xj.cuts.length g5, .slice f6 xj.own.length g6] 41)).heap.size := by have := k3.size'; simp; omega
              have hone := HE4.out.one
              have K3 := hid k3
              clear k1 k3 he4 E4 k2 m1 m2 m3 m4 EE4 fr4
              simp only [evV]
              go_wp2_with (first | (at_builtin; refine (wpList_app rfl _ _ 23 rfl w.heap.size 41 (.agg #[.slice none 0 0, .bool false, .slice none 0 0, .slice none 0 0]) 4 80 Tryd.underlying23 infoEn rfl (by decide) _ Y.length (cEn es) rfl p2' _ 1 _ rfl p1' hone (by omega) (by unfold maxLen; omega) p3' ?_); intro v' w9 ho' hg))
              have HN := hid (log_stepA (K.out.ext ((Ext.refl w4).alloc _)) p2' (K3.out.alloc _) (HE4.out.ext ((Ext.refl w4).alloc _)) ho' hg HAP.out)
              go_roundw
              case rel => exact ⟨j + 1, by omega, by go_num, by rw [HT.out]; exact HN.out⟩
              case measure => simp [intOf] <;> omega
            · obtain rfl : j = b.length := by omega
              rw [List.take_of_length_le (Nat.le_refl _), ← HST2.out] at hlog
              go_wp2
              go_roundw
              case rel => exact ⟨i + 1, by omega, by go_num, hlog⟩
              case measure => simp [intOf] <;> omega
        · obtain rfl : i = cl.length := by omega
          rw [show logTo cl r ++ rowTo cl r cl.length = logTo cl (r + 1) from rfl] at hlog
          go_wp2
          go_roundw
          case rel => exact ⟨r + 1, by omega, by go_num, hlog⟩
          case measure => simp [intOf] <;> omega
    · obtain rfl : r = R := by omega
      rw [HEND.out] at hlog
      go_wp2
      go_ret
      exact ⟨_, rfl, hlog⟩

theorem mlog_ok {w : World} {S : Nat → Prop} {bm : Nat} {cl : List (List Bat)} {op : List Bat} (h : MergeSt eB w S bm cl op) (hsm : ∀ l ∈ cl, ∀ b ∈ l, ∀ x ∈ b, EntSm x) (hlen : (logM cl).length ≤ 100000) (hcl : ∀ i, i < cl.length → (cl.getD i []).length ≤ 1000000) :
    Calls Tryd.prog 18 #[.pointer (some ⟨bm, 0, none⟩)] w fun e w' => ∃ v', e = .returned v' ∧ LogR w (logM cl) v' w' :=
  (mlog_okA h hsm hlen hcl).mono fun e w' ⟨v', h1, h2⟩ => ⟨v', h1, h2.toR⟩
end Go.Proofs.YtddghaoejnbkaaaDoor
