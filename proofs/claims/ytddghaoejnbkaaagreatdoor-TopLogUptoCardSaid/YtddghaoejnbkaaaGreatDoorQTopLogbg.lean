/- Contracts and lemmas for the proof of TopLog; each theorem states its own conditions. -/
import Derived.Test.YtddghaoejnbkaaaGreatDoorQTopLogbf
import Derived.Test.YtddghaoejnbkaaaGreatDoorQTopLogap
import Derived.Test.YtddghaoejnbkaaaGreatDoorQTopLogaq
import Derived.Test.YtddghaoejnbkaaaGreatDoorQTopLogah
import Derived.Test.YtddghaoejnbkaaaGreatDoorQTopLogag
import Derived.Test.YtddghaoejnbkaaaGreatDoorQTopLogai
import Derived.BigQuiet
set_option linter.unusedVariables false
set_option linter.unusedSimpArgs false
/- Contracts and lemmas for the proofs of this seat; each theorem states its own conditions. -/
namespace Go.Proofs.YtddghaoejnbkaaaGreatDoor
open Go.RowKit
variable {eB : Nat}
/-! merge.Log -/
theorem rowTo_more (cl : List (List Bat)) (r i : Nat) : ∀ d, ∃ l, rowTo cl r (i + d) = rowTo cl r i ++ l
  | 0 => ⟨[], by simp⟩
  | d + 1 => by
    obtain ⟨l, h⟩ := rowTo_more cl r i d
    exact ⟨l ++ (cl.getD (i + d) []).getD r [], by rw [← Nat.add_assoc, rowTo, h, List.append_assoc]⟩
theorem log_len {cl : List (List Bat)} {r i : Nat} (hr : r < rdM cl) (hi : i < cl.length) : (logTo cl r).length + (rowTo cl r i).length + ((cl.getD i []).getD r []).length ≤ (logM cl).length := by
  obtain ⟨l, e⟩ := logTo_more cl (r + 1) (rdM cl - (r + 1))
  rw [show r + 1 + (rdM cl - (r + 1)) = rdM cl by omega] at e
  obtain ⟨m, e2⟩ := rowTo_more cl r (i + 1) (cl.length - (i + 1))
  rw [show i + 1 + (cl.length - (i + 1)) = cl.length by omega] at e2
  have e3 : logTo cl (r + 1) = logTo cl r ++ rowTo cl r cl.length := rfl
  have e4 : rowTo cl r (i + 1) = rowTo cl r i ++ (cl.getD i []).getD r [] := rfl
  unfold logM
  rw [e, e3, e2, e4]
  simp only [List.length_append]
  omega
theorem getD_lt {α : Type} {l : List α} {d : α} {r : Nat} (h : r < l.length) : l.getD r d = l[r] := by simp [h]
/-- a log being laid -/
def LogB (B : Nat) (w : World) (X : List Ent) (v : Value) (wr : World) : Prop := ∃ es, EntsSt B wr es X ∧ wr.ownsRow w.heap.size 42 4 v X.length (cEn es) ∧ Ext w wr
def LogR (w : World) (X : List Ent) (v : Value) (wr : World) : Prop := LogB w.heap.size w X v wr
theorem LogB.ext {B : Nat} {w : World} {X : List Ent} {v : Value} {a b : World} (h : LogB B w X v a) (E : Ext a b) : LogB B w X v b := by
  obtain ⟨es, h1, h2, h3⟩ := h
  exact ⟨es, h1.ext E, own_ext h2 E, h3.trans E⟩
theorem LogB.form {B : Nat} {w : World} {X : List Ent} {v : Value} {a : World} (h : LogB B w X v a) : ∃ p c, v = .slice p X.length c := by
  obtain ⟨es, h1, h2, h3⟩ := h
  exact own_form h2
theorem LogB.E {B : Nat} {w : World} {X : List Ent} {v : Value} {a : World} (h : LogB B w X v a) : Ext w a := by
  obtain ⟨es, h1, h2, h3⟩ := h
  exact h3
theorem LogR.ext {w : World} {X : List Ent} {v : Value} {a b : World} (h : LogR w X v a) (E : Ext a b) : LogR w X v b := LogB.ext h E
theorem LogR.form {w : World} {X : List Ent} {v : Value} {a : World} (h : LogR w X v a) : ∃ p c, v = .slice p X.length c := LogB.form h
theorem LogR.E {w : World} {X : List Ent} {v : Value} {a : World} (h : LogR w X v a) : Ext w a := LogB.E h
theorem EntSt.grown {w w' : World} {row : Option Nat} {B n : Nat} {v : Value} {xs : List Value} (hg : w.grownBy w' v.ownBlock) (ho : w.ownsRow B 42 4 v n xs) {e : EV} {x : Ent} (h : EntSt eB w e x) : EntSt eB w' e x :=
  ⟨grown_own hg h.ops (own_own_ne h.ops ho (by decide)), h.im, grown_own hg h.cuts (own_own_ne h.cuts ho (by decide)), grown_own hg h.own (own_own_ne h.own ho (by decide))⟩
theorem log_step {B : Nat} {w w1 w2 : World} {X : List Ent} {es : List EV} {v v' : Value} {e : EV} {x : Ent} (h1 : EntsSt B w1 es X) (h2 : w1.ownsRow w.heap.size 42 4 v X.length (cEn es)) (h3 : Ext w w1) (he : EntSt B w1 e x)
    (ho : w2.ownsRow w.heap.size 42 4 v' (X.length + 1) (cEn es ++ evC e)) (hg : w1.grownBy w2 v.ownBlock) : LogB B w (X ++ [x]) v' w2 := by
  refine ⟨es ++ [e], EntsSt.snoc ⟨h1.1, fun j e' x' a b => (h1.2 j e' x' a b).grown (row := none) hg h2⟩ (he.grown (row := none) hg h2), ?_, h3.grown hg (fun k hk => own_ge h2 k hk)⟩
  rw [cEn_app, List.length_append]
  simpa [cEn] using ho
/-- the operations of any two lie apart -/
def ApE (es : List EV) : Prop := ∀ (i j : Nat) (e e' : EV), es[i]? = some e → es[j]? = some e' → i < j → ∀ k, e.1.ownBlock = some k → e'.1.ownBlock ≠ some k
theorem ApE.nil : ApE [] := fun i j e e' h => by simp at h
theorem ApE.snoc {es : List EV} {e : EV} (h : ApE es) (hf : ∀ (i : Nat) (e' : EV), es[i]? = some e' → ∀ k, e'.1.ownBlock = some k → e.1.ownBlock ≠ some k) : ApE (es ++ [e]) := by
  intro i j e1 e2 h1 h2 hij k hk
  by_cases hj : j < es.length
  · rw [List.getElem?_append_left (by omega)] at h1
    rw [List.getElem?_append_left hj] at h2
    exact h i j e1 e2 h1 h2 hij k hk
  · rw [List.getElem?_append_right (by omega)] at h2
    have : j - es.length = 0 := by
      rcases Nat.eq_zero_or_pos (j - es.length) with q | q
      · exact q
      · rw [List.getElem?_eq_none (by simp; omega)] at h2; cases h2
    rw [this] at h2
    simp only [List.getElem?_cons_zero, Option.some.injEq] at h2
    subst h2
    rw [List.getElem?_append_left (by omega)] at h1
    exact hf i e1 h1 k hk
/-- a log whose entries' operations lie apart -/
def LogRA (w : World) (X : List Ent) (v : Value) (wr : World) : Prop := ∃ es, EntsSt w.heap.size wr es X ∧ wr.ownsRow w.heap.size 42 4 v X.length (cEn es) ∧ Ext w wr ∧ ApE es
theorem LogRA.toR {w : World} {X : List Ent} {v : Value} {wr : World} (h : LogRA w X v wr) : LogR w X v wr := by
  obtain ⟨es, h1, h2, h3, _⟩ := h
  exact ⟨es, h1, h2, h3⟩
theorem LogRA.ext {w : World} {X : List Ent} {v : Value} {a b : World} (h : LogRA w X v a) (E : Ext a b) : LogRA w X v b := by
  obtain ⟨es, h1, h2, h3, h4⟩ := h
  exact ⟨es, h1.ext E, own_ext h2 E, h3.trans E, h4⟩
theorem LogRA.form {w : World} {X : List Ent} {v : Value} {a : World} (h : LogRA w X v a) : ∃ p c, v = .slice p X.length c := h.toR.form
theorem LogRA.E {w : World} {X : List Ent} {v : Value} {a : World} (h : LogRA w X v a) : Ext w a := h.toR.E
theorem log_stepA {w w1 w2 : World} {X : List Ent} {es : List EV} {v v' : Value} {e : EV} {x : Ent} (h1 : EntsSt w.heap.size w1 es X) (h2 : w1.ownsRow w.heap.size 42 4 v X.length (cEn es)) (h3 : Ext w w1) (he : EntSt w.heap.size w1 e x)
    (ho : w2.ownsRow w.heap.size 42 4 v' (X.length + 1) (cEn es ++ evC e)) (hg : w1.grownBy w2 v.ownBlock) (ap : ApE (es ++ [e])) : LogRA w (X ++ [x]) v' w2 := by
  refine ⟨es ++ [e], EntsSt.snoc ⟨h1.1, fun j e' x' a b => (h1.2 j e' x' a b).grown (row := none) hg h2⟩ (he.grown (row := none) hg h2), ?_, h3.grown hg (fun k hk => own_ge h2 k hk), ap⟩
  rw [cEn_app, List.length_append]
  simpa [cEn] using ho
set_option maxRecDepth 100000 in
set_option maxHeartbeats 4000000 in
theorem mlog_okA {w : World} {S : Nat → Prop} {bm : Nat} {cl : List (List Bat)} {op : List Bat} (h : MergeSt eB w S bm cl op) (hsm : ∀ l ∈ cl, ∀ b ∈ l, ∀ x ∈ b, EntSm x) (hlen : (logM cl).length ≤ 100000) (hcl : ∀ i, i < cl.length → (cl.getD i []).length ≤ 1000000) :
    Calls Tryz.prog 37 #[.pointer (some ⟨bm, 0, none⟩)] w fun e w' => ∃ v', e = .returned v' ∧ LogRA w (logM cl) v' w' := by
  have MR := hid (mrounds_ok h)
  obtain ⟨bc, bo, vc, vo, h⟩ := h
  have H := hid h
  have n0 := h.n0
  have n4 := h.n4
  have cb := h.cells.1
  clear h
  have hR : rdM cl ≤ 1000000 := by
    have := rdM_le (cl := cl) (i := 0) n0
    have := hcl 0 n0
    omega
  have HL := hid (fun r i (hr : r < rdM cl) (hi : i < cl.length) => Nat.le_trans (log_len hr hi) hlen)
  have HRL := hid (fun i (hi : i < cl.length) => rdM_le hi)
  have HC := hid hcl
  have HSM := hid hsm
  have HEND := hid (show logTo cl (rdM cl) = logM cl from rfl)
  clear hlen hcl hsm
  obtain ⟨R, hRR⟩ : ∃ R, rdM cl = R := ⟨_, rfl⟩
  rw [hRR] at MR hR HL HRL HEND
  clear hRR
  go_enter Tryz.func37, Tryz.ntmps37
  go_wp2_with fail
  refine (MR.out).mono ?_
  rintro e w1 ⟨rfl, E1⟩
  clear MR
  go_wp2_with fail
  go_loopw [3, 4, 5, 7, 10, 18, 32] (fun ov _ _ _ rv _ _ wr => ∃ r : Nat, r ≤ R ∧ rv = .int .i64 r ∧ LogRA w (logTo cl r) ov wr) (fun _ _ _ _ rv _ _ _ => R - (intOf rv).toNat)
  case atStart => exact ⟨0, Nat.zero_le _, rfl, [], EntsSt.nil _, World.ownsRow_nil _ _ _ _, E1, ApE.nil⟩
  case round =>
    obtain ⟨wq, rfl⟩ : ∃ wq : World, wq = wr := ⟨_, rfl⟩
    obtain ⟨r, hr, rfl, hlog⟩ := hrel
    by_cases hrl : r < R
    · have cbq := hlog.E.cell cb
      go_wp2_with fail
      go_loopw [3, 5, 7, 18, 32] (fun ov _ _ iv _ wr => ∃ i : Nat, i ≤ cl.length ∧ iv = .int .i64 i ∧ LogRA w (logTo cl r ++ rowTo cl r i) ov wr) (fun _ _ _ iv _ _ => cl.length - (intOf iv).toNat)
      case atStart => exact ⟨0, Nat.zero_le _, rfl, by rw [show rowTo cl r 0 = [] from rfl, List.append_nil]; exact hlog⟩
      case round =>
        clear hlog cbq
        obtain ⟨wz, rfl⟩ : ∃ wz : World, wz = wr := ⟨_, rfl⟩
        obtain ⟨i, hi, rfl, hlog⟩ := hrel
        by_cases hil : i < cl.length
        · have Ez := hlog.E
          have cbz := Ez.cell cb
          have ci := Ez.cell (H.out.cellC hil).1
          obtain ⟨us, hus, hown, _, hbs⟩ := H.out.cls i hil
          have hrL := HRL.out i hil
          have hcL := HC.out i hil
          obtain ⟨ai, ki, e1⟩ := own_form hown
          rw [e1] at ci hown
          obtain ⟨bu, offu, rfl, _, q1, q2, hcu⟩ := seg_cells (own_seg hown) (by omega)
          unfold maxLen at q2
          have cu := Ez.cell (hcu r us[r] (List.getElem?_eq_getElem (by omega)))
          obtain ⟨⟨fs, hfs, hbo, hx1⟩, hx2⟩ := hbs r us[r] _ (List.getElem?_eq_getElem (by omega)) (List.getElem?_eq_getElem (show r < (cl.getD i []).length by omega))
          have hsmb := HSM.out (cl.getD i []) (by simp [hil]) _ (List.getElem_mem (show r < (cl.getD i []).length by omega))
          have hgr : (cl.getD i []).getD r [] = (cl.getD i [])[r]'(by omega) := getD_lt (by omega)
          have hll := HL.out r i hrl hil
          have HST := hid (show rowTo cl r (i + 1) = rowTo cl r i ++ (cl.getD i []).getD r [] from rfl)
          rw [hgr] at HST hll
          generalize (cl.getD i [])[r]'(by omega) = b at hfs hbo hsmb hll HST
          obtain ⟨ab, kb, e3⟩ := own_form hbo
          rw [e3] at cu hbo
          obtain ⟨N, hN⟩ : ∃ N, (cl.getD i []).length = N := ⟨_, rfl⟩
          rw [hN] at ci q1 hrL hcL
          have HFS := hid hfs
          have HSB := hid hsmb
          have HST2 : Hid (logTo cl r ++ rowTo cl r (i + 1) = logTo cl r ++ rowTo cl r i ++ b) := hid (by rw [HST.out, List.append_assoc])
          have hXl : (logTo cl r ++ rowTo cl r i).length + b.length ≤ 100000 := by rw [List.length_append]; omega
          generalize logTo cl r ++ rowTo cl r i = X at hlog HST2 hXl
          clear hx1 hx2 hgr hll HST e1 e3 hcu hbs hN hus hown hfs hsmb
          go_wp2_with fail
          go_loopw [3, 7, 32] (fun ov _ jv wr => ∃ j : Nat, j ≤ b.length ∧ jv = .int .i64 j ∧ LogRA w (X ++ b.take j) ov wr) (fun _ _ jv _ => b.length - (intOf jv).toNat)
          case atStart => exact ⟨0, Nat.zero_le _, rfl, by rw [List.take_zero, List.append_nil]; exact hlog⟩
          case round =>
            clear hlog
            obtain ⟨j, hj, rfl, hlog⟩ := hrel
            by_cases hjl : j < b.length
            · have Ej := hlog.E
              obtain ⟨bb, ob, rfl, _, p1, p2, hcb⟩ := seg_cells (own_seg hbo) (by omega)
              unfold maxLen at p2
              have hfl := HFS.out.1
              have hjf : j < fs.length := by omega
              obtain ⟨x0, x1, x2, x3⟩ := cEn_at fs hjf
              replace x0 := Ej.cell (hcb _ _ x0)
              replace x1 : wr.cell? ⟨bb, ob + j * 4 + 1, none⟩ = _ := Ej.cell (hcb _ _ x1)
              replace x2 : wr.cell? ⟨bb, ob + j * 4 + 2, none⟩ = _ := Ej.cell (hcb _ _ x2)
              replace x3 : wr.cell? ⟨bb, ob + j * 4 + 3, none⟩ = _ := Ej.cell (hcb _ _ x3)
              have hE := (HFS.out.2 j fs[j] b[j] (List.getElem?_eq_getElem hjf) (List.getElem?_eq_getElem hjl))
              have hsb := HSB.out b[j] (List.getElem_mem hjl)
              have HT := hid (show X ++ b.take (j + 1) = (X ++ b.take j) ++ [b[j]] by rw [List.take_succ_eq_append_getElem hjl, List.append_assoc])
              have hXj : (X ++ b.take j).length ≤ 100000 := by rw [List.length_append, List.length_take]; omega
              generalize b[j] = xj at hE hsb HT
              generalize X ++ b.take j = Y at hlog HT hXj
              generalize fs[j] = ej at x0 x1 x2 x3 hE
              obtain ⟨v1, b1, v2, v3⟩ := ej
              dsimp only at x0 x1 x2 x3
              obtain ⟨f1, g1, e1⟩ := own_form hE.ops
              obtain ⟨f2, g2, e2⟩ := own_form hE.cuts
              obtain ⟨f3, g3, e3⟩ := own_form hE.own
              dsimp only at e1 e2 e3
              subst e1; subst e2; subst e3
              have EC := hid (fun w' (E : Ext w w') => ecopied_fresh (eB := w.heap.size) _ _ w' (hE.seg.ext E) hsb E.size')
              have HE := hid hE
              have HLG := hid hlog
              obtain ⟨av, kv, rfl⟩ := hlog.form
              clear hE hsb hcb hfl hlog
              go_wp2_with fail
              refine (EC.out _ ((HLG.out.E.alloc _))).mono ?_
              rintro e w4 ⟨⟨v1, b1', v2, v3⟩, rfl, he4, E4, fr4⟩
              obtain ⟨es, m1, m2, m3, m4⟩ := HLG.out
              have EE4 := ((Ext.refl wr).alloc (.cells #[.slice f1 xj.ops.length g1, .bool b1, .slice f2 xj.cuts.length g2, .slice f3 xj.own.length g3] 42)).trans E4
              have k1 := m1.ext EE4
              have k2 := own_ext m2 EE4
              have k3 := m3.trans EE4
              have HAP := hid (ApE.snoc m4 (fun i e' hi k hk => by
                have hil : i < es.length := by
                  rcases Nat.lt_or_ge i es.length with q | q
                  · exact q
                  · rw [List.getElem?_eq_none q] at hi; cases hi
                have := ((m1.2 i e' _ hi (List.getElem?_eq_getElem (by have := m1.1; omega))).ops.lt k hk).2
                intro hk2
                have := fr4 k hk2
                simp only [World.size_alloc] at this
                omega))
              have HE4 := hid he4
              obtain ⟨f4, g4, e4⟩ := own_form he4.ops
              obtain ⟨f5, g5, e5⟩ := own_form he4.cuts
              obtain ⟨f6, g6, e6⟩ := own_form he4.own
              dsimp only at e4 e5 e6
              subst e4; subst e5; subst e6
              have K := hid k1
              have p1' : Seg (w4.alloc (.cells #[.slice f4 xj.ops.length g4, .bool b1', .slice f5 xj.cuts.length g5, .slice f6 xj.own.length g6] 42)) (.slice (some ⟨w4.heap.size, 0, none⟩) 1 1) 4 1 (evC (.slice f4 xj.ops.length g4, b1', .slice f5 xj.cuts.length g5, .slice f6 xj.own.length g6)) := seg_blk (heap_alloc_new w4 _) rfl (Nat.le_refl _) (by simp [maxLen])
              have p2' := k2.alloc (.cells #[.slice f4 xj.ops.length g4, .bool b1', .slice f5 xj.cuts.length g5, .slice f6 xj.own.length g6] 42)
              have p3' : w.heap.size ≤ (w4.alloc (.cells #[.slice f4 xj.ops.length g4, .bool b1', .slice f5 xj.cuts.length g5, .slice f6 xj.own.length g6] 42)).heap.size := by have := k3.size'; simp; omega
              have hone := HE4.out.one
              have K3 := hid k3
              clear k1 k3 he4 E4 k2 m1 m2 m3 m4 EE4 fr4
              simp only [evV]
              go_wp2_with (first | (at_builtin; refine (wpList_app rfl _ _ 26 rfl w.heap.size 42 (.agg #[.slice none 0 0, .bool false, .slice none 0 0, .slice none 0 0]) 4 80 Tryz.underlying26 infoEn rfl (by decide) _ Y.length (cEn es) rfl p2' _ 1 _ rfl p1' hone (by omega) (by unfold maxLen; omega) p3' ?_); intro v' w9 ho' hg))
              have HN := hid (log_stepA (K.out.ext ((Ext.refl w4).alloc _)) p2' (K3.out.alloc _) (HE4.out.ext ((Ext.refl w4).alloc _)) ho' hg HAP.out)
              go_roundw
              case rel => exact ⟨j + 1, by omega, by go_num, by rw [HT.out]; exact HN.out⟩
              case measure => simp [intOf] <;> omega
            · obtain rfl : j = b.length := by omega
              rw [List.take_of_length_le (Nat.le_refl _), ← HST2.out] at hlog
              go_wp2
              go_roundw
              case rel => exact ⟨i + 1, by omega, by go_num, hlog⟩
              case measure => simp [intOf] <;> omega
        · obtain rfl : i = cl.length := by omega
          rw [show logTo cl r ++ rowTo cl r cl.length = logTo cl (r + 1) from rfl] at hlog
          go_wp2
          go_roundw
          case rel => exact ⟨r + 1, by omega, by go_num, hlog⟩
          case measure => simp [intOf] <;> omega
    · obtain rfl : r = R := by omega
      rw [HEND.out] at hlog
      go_wp2
      go_ret
      exact ⟨_, rfl, hlog⟩

theorem mlog_ok {w : World} {S : Nat → Prop} {bm : Nat} {cl : List (List Bat)} {op : List Bat} (h : MergeSt eB w S bm cl op) (hsm : ∀ l ∈ cl, ∀ b ∈ l, ∀ x ∈ b, EntSm x) (hlen : (logM cl).length ≤ 100000) (hcl : ∀ i, i < cl.length → (cl.getD i []).length ≤ 1000000) :
    Calls Tryz.prog 37 #[.pointer (some ⟨bm, 0, none⟩)] w fun e w' => ∃ v', e = .returned v' ∧ LogR w (logM cl) v' w' :=
  (mlog_okA h hsm hlen hcl).mono fun e w' ⟨v', h1, h2⟩ => ⟨v', h1, h2.toR⟩
end Go.Proofs.YtddghaoejnbkaaaGreatDoor

/- Contracts and lemmas for the proofs of this seat; each theorem states its own conditions. -/
namespace Go.Proofs.YtddghaoejnbkaaaGreatDoor
open Go.RowKit
/-- what the row tells of a slice of slices of numbers, as mine -/
theorem segll_of_rows {w : World} {base : Nat} {x : Addr} {len cap : Nat} {A : Nat → Option Addr} {L C : Nat → Nat} {Z : Nat → List Int} (hl : len ≤ cap) (hm : cap ≤ maxLen)
    (h : ∀ r, r < cap → w.cell? (x.add r) = some (.slice (A r) (L r) (C r)) ∧ L r ≤ C r ∧ C r ≤ maxLen ∧ (Z r).length = C r ∧ (∀ n ∈ Z r, (Lit.int .i64 n).wf = true) ∧ (A r = none → C r = 0) ∧
        ∀ a', A r = some a' → base ≤ a'.block ∧ ∀ c, c < C r → w.cell? (a'.add c) = some (.int .i64 ((Z r).getD c 0))) :
    ∃ ls : List (List Int), SegLL w (.slice (some x) len cap) ls ∧ ls.length = len ∧ ∀ l ∈ ls, ∀ z ∈ l, -9223372036854775808 ≤ z ∧ z ≤ 9223372036854775807 := by
  have row : ∀ r, r < cap → Seg w (.slice (A r) (L r) (C r)) 1 ((Z r).take (L r)).length (cI ((Z r).take (L r))) ∧ ∀ z ∈ (Z r).take (L r), -9223372036854775808 ≤ z ∧ z ≤ 9223372036854775807 := fun r hr => by
    obtain ⟨h1, h2, h3, h4, h5, h6, h7⟩ := h r hr
    have hrow := seg_of_row (w := w) (a := A r) (len := L r) (cap := C r) (zs := Z r) (by
      cases ha : A r with
      | none =>
        have := h6 ha
        left
        exact ⟨rfl, by omega, this, List.eq_nil_of_length_eq_zero (by omega)⟩
      | some a' =>
        right
        exact ⟨a', rfl, h2, h3, h4, fun i hi => (h7 a' ha).2 i (by omega), h5⟩)
    exact ⟨hrow.1, hrow.2.1⟩
  refine ⟨(List.range len).map fun r => (Z r).take (L r), ⟨(List.range len).map fun r => .slice (A r) (L r) (C r), by simp, ⟨by simp, some x, cap, by simp, by simpa using hl, hm, fun hn => ?_⟩, fun i u m hu hm' => ?_⟩, by simp, fun l hl' z hz => ?_⟩
  · simp at hn
    have hs := cell_spot (h 0 (by omega)).1
    obtain ⟨b, off, sp⟩ := x
    have : sp = none := by simpa [Addr.add] using hs
    subst this
    refine ⟨b, off, rfl, fun j u hu => ?_⟩
    rw [← addr_add]
    obtain ⟨hj, e⟩ := List.getElem?_eq_some_iff.1 hu
    simp at hj e
    subst e
    exact (h j (by omega)).1
  · obtain ⟨hj, e⟩ := List.getElem?_eq_some_iff.1 hu
    obtain ⟨_, e'⟩ := List.getElem?_eq_some_iff.1 hm'
    simp at hj e e'
    subst e; subst e'
    exact (row i (by omega)).1
  · simp at hl'
    obtain ⟨r, hr, rfl⟩ := hl'
    exact (row r (by omega)).2 z hz
theorem segll_nil (w : World) : SegLL w (.slice none 0 0) [] := ⟨[], rfl, Seg.nil _ _, fun i u m h => by simp at h⟩
end Go.Proofs.YtddghaoejnbkaaaGreatDoor

/- Contracts and lemmas for the proofs of this seat; each theorem states its own conditions. -/
namespace Go.Proofs.YtddghaoejnbkaaaGreatDoor
open Go.RowKit
/-! rokeep.entries, roref.SameEntry -/
theorem LogB.base {w w1 : World} {X : List Ent} {v : Value} {a : World} (h : LogB w.heap.size w1 X v a) (E : Ext w w1) : LogR w X v a := by
  obtain ⟨es, h1, h2, h3⟩ := h
  exact ⟨es, h1, own_base h2 E.size', E.trans h3⟩
end Go.Proofs.YtddghaoejnbkaaaGreatDoor

/- Contracts and lemmas for the proofs of this seat; each theorem states its own conditions. -/
namespace Go.Proofs.YtddghaoejnbkaaaGreatDoor
open Go.RowKit
/-! a log told as text -/
/-- an entry that is told as text -/
structure EntL (x : Ent) : Prop where
  sz : EntSz x
  ok : entE x = 0
  n : ∀ o ∈ x.ops, -9223372036854775808 ≤ o.n ∧ o.n ≤ 9223372036854775807
theorem entT_size {x : Ent} (h : EntL x) : (entT x).length ≤ 427 := by
  have hb : (bodyT x).length ≤ 404 := by
    by_cases hi : x.im = true
    · rw [bodyT_map hi]
      have h0 := h.ok
      rw [entE, if_pos hi] at h0
      have := mapT_len (ok_of_mapErr h0)
      simp [mapW]; omega
    · rw [bodyT_deed hi]
      have h0 := h.ok
      rw [entE, if_neg hi] at h0
      have := dT_len (deed_ok h0) h.n
      omega
  have := itoa_len21 (n := (sbL (bodyT x) : Int)) (by omega) (by have := sbL_lt (bodyT x); omega)
  simp [entT, lineT]; omega
/-- the text of the first i -/
def logS (X : List Ent) (i : Nat) : ByteArray := bA (logT (X.take i))
theorem logS_zero (X : List Ent) : logS X 0 = ⟨#[]⟩ := rfl
theorem logS_all (X : List Ent) : logS X X.length = bA (logT X) := by unfold logS; rw [List.take_length]
theorem logS_succ {X : List Ent} {i : Nat} (h : i < X.length) (he : entE X[i] = 0) : logS X (i + 1) = logS X i ++ entS X[i] := by
  unfold logS
  rw [← List.take_append_getElem h, logT_snoc, bA_append, entS, if_pos he]
theorem logT_le {X : List Ent} (h : ∀ x ∈ X, EntL x) : (logT X).length ≤ 427 * X.length := by
  induction X with
  | nil => simp [logT]
  | cons x X ih =>
    have h1 := ih (fun y hy => h y (by simp [hy]))
    have h2 := entT_size (h x (by simp))
    simp [logT] at h1 ⊢
    omega
theorem logS_size {X : List Ent} (h : ∀ x ∈ X, EntL x) {i : Nat} (hi : i ≤ X.length) : (logS X i).size ≤ 427 * i := by
  have := logT_le (X := X.take i) (fun x hx => h x (List.mem_of_mem_take hx))
  rw [List.length_take] at this
  rw [logS, bA_size]
  have e : min i X.length = i := by omega
  rw [e] at this
  exact this
theorem entS_size {x : Ent} (h : EntL x) : (entS x).size ≤ 427 := by
  rw [entS, if_pos h.ok, bA_size]; exact entT_size h
/-- a part of it read -/
theorem lgAll_cut {X : List Ent} (h : ∀ x ∈ X, EntL x) {c : Nat} (hc : c ≤ (logT X).length) (hl : (logT X).length ≤ 20000) :
    ∃ m r, m ≤ X.length ∧ (logT X).take c = logT (X.take m) ++ r ∧ (10 : UInt8) ∉ r ∧ ((logT X).take c).count 10 = m ∧ lgAll ((logT X).take c) = (0, (X.take m).map bareE, (logT (X.take m)).length) := by
  obtain ⟨m, r, h1, h2, h3, h4⟩ := log_cut X c (fun x hx => (h x hx).ok) hc
  refine ⟨m, r, h1, h2, h3, h4, ?_⟩
  have hl2 : ((logT X).take c).length = c := by rw [List.length_take]; omega
  unfold lgAll
  rw [if_neg (by omega), h2]
  have hlen : (logT (X.take m) ++ r).length = c := by rw [← h2]; exact hl2
  rw [hlen]
  refine lgRd_rt h3 (X.take m) (c + 1) ?_ (fun x hx => (h x (List.mem_of_mem_take hx)).ok)
  have := logT_len (X.take m)
  rw [List.length_append] at hlen
  omega
end Go.Proofs.YtddghaoejnbkaaaGreatDoor

/- Contracts and lemmas for the proofs of this seat; each theorem states its own conditions. -/
namespace Go.Proofs.YtddghaoejnbkaaaGreatDoor
open Go.RowKit
/-! roref.SameEntry, slices.EqualFunc at entries -/
/-- a slice that reads as entries -/
def EntsSeg (w : World) (v : Value) (X : List Ent) : Prop := ∃ es : List EV, es.length = X.length ∧ Seg w v 4 X.length (cEn es) ∧ ∀ (j : Nat) (e : EV) (x : Ent), es[j]? = some e → X[j]? = some x → EntSeg w e x
theorem EntsSeg.ext {w w' : World} {v : Value} {X : List Ent} (h : EntsSeg w v X) (E : Ext w w') : EntsSeg w' v X := by
  obtain ⟨es, h1, h2, h3⟩ := h
  exact ⟨es, h1, h2.ext E, fun j e x a b => (h3 j e x a b).ext E⟩
theorem EntsSeg.form {w : World} {v : Value} {X : List Ent} (h : EntsSeg w v X) : ∃ a c, v = .slice a X.length c := by
  obtain ⟨es, h1, h2, h3⟩ := h
  exact seg_form h2
theorem ents_seg {eB : Nat} {w : World} {es : List EV} {B : Nat} {v : Value} {X : List Ent} (h : EntsSt eB w es X) (ho : w.ownsRow B 42 4 v X.length (cEn es)) : EntsSeg w v X := ⟨es, h.1, own_seg ho, fun j e x a b => (h.2 j e x a b).seg⟩
theorem LogR.seg {w : World} {X : List Ent} {v : Value} {a : World} (h : LogR w X v a) : EntsSeg a v X := by
  obtain ⟨es, h1, h2, h3⟩ := h
  exact ents_seg h1 h2
def entZ : Ent := ⟨[], false, [], []⟩
end Go.Proofs.YtddghaoejnbkaaaGreatDoor

/- Contracts and lemmas for the proofs of this seat; each theorem states its own conditions. -/
namespace Go.Proofs.YtddghaoejnbkaaaGreatDoor
open Go.RowKit
/-! merges that are fed, in plain lists -/
def colTo (cl : List (List Bat)) (r : Nat) : Nat → Nat
  | 0 => 0
  | k + 1 => colTo cl r k + sumTo (cl.getD k []) r
theorem col_step (cl : List (List Bat)) (r : Nat) : ∀ k, colTo cl (r + 1) k = colTo cl r k + (rowTo cl r k).length
  | 0 => rfl
  | k + 1 => by
    rw [colTo, col_step cl r k, colTo, rowTo, List.length_append, sumTo]; omega
theorem col_log (cl : List (List Bat)) : ∀ r, (logTo cl r).length = colTo cl r cl.length
  | 0 => by
    have : ∀ k, colTo cl 0 k = 0 := fun k => by
      induction k with
      | zero => rfl
      | succ k ih => rw [colTo, ih]; rfl
    rw [this]; rfl
  | r + 1 => by rw [logTo, List.length_append, col_log cl r, col_step]
theorem col_many (cl : List (List Bat)) (op : List Bat) {r : Nat} : ∀ {k : Nat}, (∀ i, i < k → r ≤ (cl.getD i []).length) → colTo cl r k ≤ manyTo cl op k
  | 0, _ => Nat.le_refl _
  | k + 1, h => by
    have h1 := col_many cl op (k := k) fun i hi => h i (by omega)
    have h2 := sumTo_mono (cl.getD k []) (h k (by omega))
    rw [sumTo_all] at h2
    rw [colTo, manyTo]; omega
theorem log_many (cl : List (List Bat)) (op : List Bat) : (logM cl).length ≤ manyM cl op := by
  unfold logM manyM
  rw [col_log]
  exact col_many cl op fun i hi => rdM_le hi
theorem op_many {cl : List (List Bat)} {op : List Bat} {i : Nat} (hi : i < cl.length) : (op.getD i []).length ≤ manyM cl op := by
  have := manyTo_mono cl op (show i + 1 ≤ cl.length from hi)
  rw [manyTo] at this
  unfold manyM; omega
/-- all entries are small -/
def SmM (cl : List (List Bat)) (op : List Bat) : Prop := (∀ i, i < cl.length → ∀ j, j < (cl.getD i []).length → ∀ x ∈ (cl.getD i []).getD j [], EntSm x) ∧ ∀ i, i < op.length → ∀ x ∈ op.getD i [], EntSm x
theorem SmM.log {cl : List (List Bat)} {op : List Bat} (h : SmM cl op) : ∀ l ∈ cl, ∀ b ∈ l, ∀ x ∈ b, EntSm x := by
  intro l hl b hb x hx
  obtain ⟨i, hi, rfl⟩ := List.mem_iff_getElem.1 hl
  obtain ⟨j, hj, rfl⟩ := List.mem_iff_getElem.1 hb
  refine h.1 i hi j (by rw [getD_lt hi]; exact hj) x ?_
  rw [getD_lt hi, getD_lt hj]; exact hx
theorem SmM.nil (n : Nat) : SmM (List.replicate n []) (List.replicate n []) :=
  ⟨fun i hi j hj => by rw [getD_repl] at hj; simp at hj, fun i hi x hx => by rw [getD_repl'] at hx; simp at hx⟩
theorem SmM.add {cl : List (List Bat)} {op : List Bat} (h : SmM cl op) {i : Nat} (hi : i < op.length) {x : Ent} (hx : EntSm x) : SmM cl (addM op i x) := by
  refine ⟨h.1, fun j hj y hy => ?_⟩
  rw [add_len] at hj
  rw [add_at hi] at hy
  split at hy
  · rcases List.mem_append.1 hy with a | a
    · exact h.2 i hi y a
    · simp at a; subst a; exact hx
  · exact h.2 j hj y hy
theorem SmM.cls {cl : List (List Bat)} {op : List Bat} (h : SmM cl op) {i : Nat} (hi : i < cl.length) (hl : op.length = cl.length) : SmM (clsM cl i (op.getD i [])) (op.set i []) := by
  refine ⟨fun j hj k hk x hx => ?_, fun j hj x hx => ?_⟩
  · rw [cls_len] at hj
    rw [cls_at hi] at hk hx
    split at hk
    · rename_i e
      rw [if_pos e] at hx
      rw [List.length_append, List.length_singleton] at hk
      rcases Nat.lt_or_ge k (cl.getD i []).length with a | a
      · simp only [List.getD_eq_getElem?_getD] at hx
        rw [List.getElem?_append_left (by rw [List.getD_eq_getElem?_getD] at a; exact a)] at hx
        simp only [← List.getD_eq_getElem?_getD] at hx
        exact h.1 i hi k a x hx
      · obtain rfl : k = (cl.getD i []).length := by omega
        have : (cl.getD i [] ++ [op.getD i []]).getD (cl.getD i []).length [] = op.getD i [] := by
          rw [List.getD_eq_getElem?_getD, List.getElem?_append_right (Nat.le_refl _), Nat.sub_self]; rfl
        rw [this] at hx
        exact h.2 i (by omega) x hx
    · rename_i e
      rw [if_neg e] at hx
      exact h.1 j hj k hk x hx
  · rw [List.length_set] at hj
    by_cases e : j = i
    · subst e
      have : (op.set j []).getD j [] = ([] : Bat) := by simp [List.getD_eq_getElem?_getD, List.getElem?_set_self (show j < op.length by omega)]
      rw [this] at hx; simp at hx
    · have : (op.set i []).getD j [] = op.getD j [] := by
        simp only [List.getD_eq_getElem?_getD]
        rw [List.getElem?_set_ne (fun h => e h.symm)]
      rw [this] at hx
      exact h.2 j hj x hx
/-- a merge within bounds: n inputs, at most a entries, at most k batches of an input -/
structure BdM (n a k : Nat) (cl : List (List Bat)) (op : List Bat) : Prop where
  n0 : 0 < n
  lc : cl.length = n
  lo : op.length = n
  many : manyM cl op ≤ a
  len : ∀ i, i < n → (cl.getD i []).length ≤ k
  sm : SmM cl op
theorem BdM.mono {n a k a' k' : Nat} {cl : List (List Bat)} {op : List Bat} (h : BdM n a k cl op) (ha : a ≤ a') (hk : k ≤ k') : BdM n a' k' cl op :=
  ⟨h.n0, h.lc, h.lo, Nat.le_trans h.many ha, fun i hi => Nat.le_trans (h.len i hi) hk, h.sm⟩
theorem many_nil (n : Nat) : manyM (List.replicate n []) (List.replicate n []) = 0 := by
  have : ∀ k, manyTo (List.replicate n []) (List.replicate n []) k = 0 := fun k => by
    induction k with
    | zero => rfl
    | succ k ih => rw [manyTo, ih, getD_repl, getD_repl']; rfl
  exact this _
theorem BdM.nil {n : Nat} (h : 0 < n) : BdM n 0 0 (List.replicate n []) (List.replicate n []) :=
  ⟨h, by simp, by simp, by rw [many_nil]; exact Nat.le_refl _, fun i hi => by rw [getD_repl]; simp, SmM.nil n⟩
theorem BdM.add {n a k : Nat} {cl : List (List Bat)} {op : List Bat} (h : BdM n a k cl op) {i : Nat} (hi : i < n) {x : Ent} (hx : EntSm x) : BdM n (a + 1) k cl (addM op i x) :=
  ⟨h.n0, h.lc, by rw [add_len]; exact h.lo, by rw [many_add (by rw [h.lc, h.lo]) (by rw [h.lo]; exact hi)]; have := h.many; omega, h.len, h.sm.add (by rw [h.lo]; exact hi) hx⟩
theorem BdM.cls {n a k : Nat} {cl : List (List Bat)} {op : List Bat} (h : BdM n a k cl op) {i : Nat} (hi : i < n) : BdM n a (k + 1) (clsM cl i (op.getD i [])) (op.set i []) :=
  ⟨h.n0, by rw [cls_len]; exact h.lc, by rw [List.length_set]; exact h.lo, by rw [many_cls (by rw [h.lc, h.lo]) (by rw [h.lc]; exact hi)]; exact h.many, fun j hj => by
    rw [cls_at (by rw [h.lc]; exact hi)]
    have := h.len j hj
    split
    · rename_i e; subst e; rw [List.length_append, List.length_singleton]; omega
    · omega, h.sm.cls (by rw [h.lc]; exact hi) (by rw [h.lc, h.lo])⟩
theorem wi_nat {z : Int} {n : Nat} (h : 0 < n) : ∃ i : Nat, wi z n = (i : Int) ∧ (wi z n).toNat = i ∧ i < n := by
  have g1 := wi_lo (k := z) (n := n) (by omega)
  have g2 := wi_hi (k := z) (n := n) (by omega)
  exact ⟨(wi z n).toNat, by omega, rfl, by omega⟩
end Go.Proofs.YtddghaoejnbkaaaGreatDoor
