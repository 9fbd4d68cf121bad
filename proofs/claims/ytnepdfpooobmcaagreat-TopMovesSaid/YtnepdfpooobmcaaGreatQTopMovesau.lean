/- Contracts and lemmas for the proof of TopMoves; each theorem states its own conditions. -/
import Derived.Test.YtnepdfpooobmcaaGreatQTopMovesas
import Derived.Test.YtnepdfpooobmcaaGreatQTopMovesat
import Derived.Test.YtnepdfpooobmcaaGreatQTopMovesao
import Derived.Test.YtnepdfpooobmcaaGreatQTopMovesar
import Derived.Test.YtnepdfpooobmcaaGreatQTopMovesah
import Derived.WalkLawsBesides
import Derived.Carry
import Derived.Test.YtnepdfpooobmcaaGreatProg
import Derived.Test.YtnepdfpooobmcaaGreatQTopMovesak
import Derived.WalkSpells
import Derived.Test.YtnepdfpooobmcaaGreatQTopMovesab
import Derived.Laws.StructEq
import Derived.Deep.QuietTactic
import Derived.BigQuiet
import Derived.Test.YtnepdfpooobmcaaGreatQTopMovesap
set_option linter.unusedVariables false
set_option linter.unusedSimpArgs false
/- Contracts and lemmas for the proofs of this seat; each theorem states its own conditions. -/
namespace Go.Proofs.YtnepdfpooobmcaaGreat
open Go.RowKit Go.Maps
/-! the lock table, in memory -/
/-- the keys of a deed, in order, each once -/
def tkL (d : Ops) : List ByteArray := sortU (sortU (rds d) ++ sortU (wrs d))
structure LockSt (w : World) (B bt bk bd : Nat) (A : List Ops) (g : Nat → Bool) (F : ByteArray → Option SV) (G : Int → Option SV) : Prop where
  hBt : B ≤ bt
  hBk : B ≤ bk
  hBd : B ≤ bd
  ne : bk ≠ bd
  box : w.heap[bt]? = some (.cells #[.map (some bk), .map (some bd), .int .i64 A.length] 174 (0, 0))
  km : ∃ n D, w.ownsMap Tryz.prog 9 svElem bk n D ∧ n ≤ 32 * (A.length + (A.length - liveN g A.length)) ∧ MapF kS okS dV D F
  dm : ∃ n D, w.ownsMap Tryz.prog 3 svElem bd n D ∧ n ≤ A.length ∧ MapF kI okI dV D G ∧ size D = liveN g A.length
  keys : ∀ k, w.ownsRow B 178 2 (svV ((F k).getD none)) (clmTo A g k A.length).length (cK (clmTo A g k A.length))
  apart : ∀ k k' s s', k ≠ k' → F k = some s → F k' = some s' → (svV s).ownBlock = none ∨ (svV s).ownBlock ≠ (svV s').ownBlock
  rows : ∀ n : Nat, n < A.length → g n = false → ∃ s, G (n : Int) = some s ∧ w.ownsRow B 9 1 (svV s) (tkL (A.getD n [])).length (cS (tkL (A.getD n [])))
  nones : ∀ z : Int, (∀ n : Nat, z = (n : Int) → n < A.length → g n = false → False) → G z = none
  later : ∀ n, A.length ≤ n → g n = false
  few : A.length ≤ 60
  dok : ∀ d ∈ A, DeedOk d
theorem LockSt.ext {w w' : World} {B bt bk bd : Nat} {A : List Ops} {g : Nat → Bool} {F : ByteArray → Option SV} {G : Int → Option SV} (h : LockSt w B bt bk bd A g F G) (E : Ext w w') : LockSt w' B bt bk bd A g F G where
  hBt := h.hBt
  hBk := h.hBk
  hBd := h.hBd
  ne := h.ne
  box := E.heap h.box
  km := by obtain ⟨n, D, a, b⟩ := h.km; exact ⟨n, D, ownsMap_ext a E, b⟩
  dm := by obtain ⟨n, D, a, b⟩ := h.dm; exact ⟨n, D, ownsMap_ext a E, b⟩
  keys := fun k => own_ext (h.keys k) E
  apart := h.apart
  rows := fun n a b => by obtain ⟨s, e, o⟩ := h.rows n a b; exact ⟨s, e, own_ext o E⟩
  nones := h.nones
  later := h.later
  few := h.few
  dok := h.dok
/-- what a table may turn: itself, its maps, its rows of claims -/
def TFr (B bt bk bd : Nat) (w w' : World) : Prop :=
  w'.os = w.os ∧ w'.tape = w.tape ∧ w'.output = w.output ∧ w.heap.size ≤ w'.heap.size ∧
  ∀ i, i < w.heap.size → w'.heap[i]? = w.heap[i]? ∨ (B ≤ i ∧ (i = bt ∨ i = bk ∨ i = bd ∨ ∃ cs, w.heap[i]? = some (.cells cs 178 (0, 0))))
theorem TFr.of_ext {B bt bk bd : Nat} {w w' : World} (E : Ext w w') : TFr B bt bk bd w w' := ⟨E.os, E.tape, E.output, E.size', fun i hi => .inl (Below.block E i hi)⟩
theorem TFr.refl {B bt bk bd : Nat} (w : World) : TFr B bt bk bd w w := TFr.of_ext (Ext.refl w)
theorem TFr.trans {B bt bk bd : Nat} {a b c : World} (h : TFr B bt bk bd a b) (k : TFr B bt bk bd b c) : TFr B bt bk bd a c := by
  obtain ⟨h1, h2, h3, h4, h5⟩ := h
  obtain ⟨k1, k2, k3, k4, k5⟩ := k
  refine ⟨k1.trans h1, k2.trans h2, k3.trans h3, Nat.le_trans h4 k4, fun i hi => ?_⟩
  rcases h5 i hi with e | e
  · rcases k5 i (by omega) with e' | ⟨e1, e'⟩
    · exact .inl (e'.trans e)
    · refine .inr ⟨e1, ?_⟩
      rcases e' with e' | e' | e' | ⟨cs, e'⟩
      · exact .inl e'
      · exact .inr (.inl e')
      · exact .inr (.inr (.inl e'))
      · exact .inr (.inr (.inr ⟨cs, by rw [← e]; exact e'⟩))
  · exact .inr e
/-- below the table nothing turns -/
theorem TFr.low {B bt bk bd : Nat} {w0 w w' : World} (h : TFr B bt bk bd w w') (E : Ext w0 w) (hB : w0.heap.size ≤ B) : Ext w0 w' := by
  obtain ⟨h1, h2, h3, h4, h5⟩ := h
  have hs := E.size'
  refine ⟨h1.trans E.os, h2.trans E.tape, h3.trans E.output, by omega, fun i hi => ?_⟩
  rcases h5 i (by omega) with e | ⟨e, _⟩
  · exact e.trans (Below.block E i hi)
  · omega
/-- rows of other elements stand -/
theorem TFr.own {B bt bk bd : Nat} {w w' : World} (h : TFr B bt bk bd w w') {A : List Ops} {g : Nat → Bool} {F : ByteArray → Option SV} {G : Int → Option SV} (hl : LockSt w B bt bk bd A g F G) {B' e sz n : Nat} {v : Value} {xs : List Value} (ho : w.ownsRow B' e sz v n xs) (h1 : e ≠ 178) (h2 : e ≠ 174) : w'.ownsRow B' e sz v n xs := by
  refine ⟨ho.1, ?_⟩
  rcases ho.2 with hn | ⟨b, cap, cur, rfl, hb, hg, rest⟩
  · exact .inl hn
  · right
    refine ⟨b, cap, cur, rfl, hb, ?_, rest⟩
    rcases h.2.2.2.2 b (Array.getElem?_eq_some_iff.1 hg).1 with e' | ⟨_, e' | e' | e' | ⟨cs, e'⟩⟩
    · rw [e']; exact hg
    · subst e'; rw [hl.box] at hg; injection hg with hg; injection hg with _ hg; exact absurd hg.symm h2
    · subst e'
      obtain ⟨n, D, ⟨es, clock, hm, _⟩, _⟩ := hl.km
      rw [hm] at hg; cases hg
    · subst e'
      obtain ⟨n, D, ⟨es, clock, hm, _⟩, _⟩ := hl.dm
      rw [hm] at hg; cases hg
    · rw [e'] at hg; injection hg with hg; injection hg with _ hg; exact absurd hg.symm h1
end Go.Proofs.YtnepdfpooobmcaaGreat

/- Contracts and lemmas for the proofs of this seat; each theorem states its own conditions. -/
namespace Go.Proofs.YtnepdfpooobmcaaGreat
open Go.RowKit Go.Maps
/-! lock.New, holds, May, Ready, Left -/
end Go.Proofs.YtnepdfpooobmcaaGreat

/- Contracts and lemmas for the proofs of this seat; each theorem states its own conditions. -/
namespace Go.Proofs.YtnepdfpooobmcaaGreat
open Go.RowKit
/-! plain laws of Join, Scan, Total -/
theorem keyB_size {k : ByteArray} (h : keyB k = true) : k.size ≤ 6 := by
  simp [keyB] at h; exact h.1.2
theorem store_small {l : Prs} (h : StoreOk l) : ∀ p ∈ l, p.1.size ≤ 9223372036854775807 := fun p hp => by have := keyB_size (h.key p hp); omega
end Go.Proofs.YtnepdfpooobmcaaGreat

/- Contracts and lemmas for the proofs of this seat; each theorem states its own conditions. -/
namespace Go.Proofs.YtnepdfpooobmcaaGreat
open Go.RowKit Go.Maps
/-! May, Ready, Left -/
theorem infoI : (Tryz.prog.info? 3).map (fun i => (i.zero, i.size, i.bytes)) = some (some (.int .i64 0), 1, 8) := by kernel_rfl
end Go.Proofs.YtnepdfpooobmcaaGreat

/- Contracts and lemmas for the proofs of this seat; each theorem states its own conditions. -/
namespace Go.Proofs.YtnepdfpooobmcaaGreat
open Go.RowKit
/-! Join -/
end Go.Proofs.YtnepdfpooobmcaaGreat

/- Contracts and lemmas for the proofs of this seat; each theorem states its own conditions. -/
namespace Go.Proofs.YtnepdfpooobmcaaGreat
open Go.RowKit Go.Maps
/-! rokeep.Pairs -/
/-- what the map of Pairs holds -/
def PF (f : ByteArray → Option Int) : Prop := ∀ k c, f k = some c → keyB k = true ∧ -20 ≤ c ∧ c ≤ 20
theorem pf_none : PF (fun _ => none) := fun _ _ h => by cases h
theorem pf_put {f : ByteArray → Option Int} (h : PF f) {k : ByteArray} {c : Int} (hk : keyB k = true) (h1 : -20 ≤ c) (h2 : c ≤ 20) : PF (fun x => if x = k then some c else f x) := fun x d hd => by
  dsimp only at hd
  split at hd
  · rename_i e; subst e; injection hd with hd; subst hd; exact ⟨hk, h1, h2⟩
  · exact h x d hd
theorem pf_store {f : ByteArray → Option Int} (h : PF f) {l : Prs} (h1 : srtP l) (h2 : nzP l) (h3 : ∀ k, valP l k = (f k).getD 0) : StoreOk l := by
  have hm : ∀ p ∈ l, f p.1 = some p.2 := fun p hp => by
    have a := h3 p.1
    rw [valP_mem h1 hp] at a
    cases hf : f p.1 with
    | none => rw [hf] at a; exact absurd a (h2 p hp)
    | some c => rw [hf] at a; simp at a; rw [a]
  exact ⟨fun p hp => (h _ _ (hm p hp)).1, fun p hp => by have := h _ _ (hm p hp); exact ⟨h2 p hp, by omega, by omega⟩, h1⟩
end Go.Proofs.YtnepdfpooobmcaaGreat

/- Contracts and lemmas for the proofs of this seat; each theorem states its own conditions. -/
namespace Go.Proofs.YtnepdfpooobmcaaGreat
open Go.RowKit
def totN (L : List (Nat × List Value)) : Nat := (L.map (·.1)).sum
def totC (L : List (Nat × List Value)) : List Value := L.flatMap (·.2)
theorem totN_step {L : List (Nat × List Value)} {k : Nat} (hk : k < L.length) : totN (L.take (k + 1)) = totN (L.take k) + L[k].1 := by
  unfold totN; rw [List.take_succ_eq_append_getElem hk, List.map_append, List.sum_append]; simp only [List.map_cons, List.map_nil, List.sum_cons, List.sum_nil, Nat.add_zero]
theorem totC_step {L : List (Nat × List Value)} {k : Nat} (hk : k < L.length) : totC (L.take (k + 1)) = totC (L.take k) ++ L[k].2 := by
  unfold totC; rw [List.take_succ_eq_append_getElem hk, List.flatMap_append]; simp only [List.flatMap_cons, List.flatMap_nil, List.append_nil]
theorem totN_le (L : List (Nat × List Value)) (k : Nat) : totN (L.take k) ≤ totN L := by
  have : totN L = totN (L.take k) + totN (L.drop k) := by
    conv => lhs; rw [← List.take_append_drop k L]
    unfold totN; rw [List.map_append, List.sum_append]
  omega
theorem own_zero {w : World} {B e size : Nat} (b C : Nat) (cur : List Value) (hrow : RowB w b e cur) (hB : B ≤ b) (hC : C ≤ maxLen) (hl : cur.length = C * size) : w.ownsRow B e size (.slice (some ⟨b, 0, none⟩) 0 C) 0 [] :=
  own_of_row hrow hB (Nat.zero_le _) hC hl (by simp) (by simp)
theorem infoC_Str : (Tryz.prog.info? 9).map (fun i => (i.zero, i.size, i.bytes)) = some (some (.string ⟨#[]⟩), 1, 16) := by kernel_rfl
set_option maxHeartbeats 1000000 in
theorem grow_Str (n : Nat) (w : World) (hn : n ≤ 1000000000) : Calls Tryz.prog 115 #[.slice none 0 0, .int .i64 n] w fun e w' => ∃ v', e = .returned v' ∧ w'.ownsRow w.heap.size 9 1 v' 0 [] ∧ Ext w w' := by
  rcases Nat.eq_zero_or_pos n with h | h
  · subst h
    go_enter Tryz.func115, Tryz.ntmps115
    go_wp2
    go_ret
    exact ⟨_, rfl, World.ownsRow_nil _ _ _ _, Ext.refl _⟩
  · obtain ⟨i, hi, hz0, hz1, hz2⟩ := info_parts infoC_Str
    have hrz := fun ty => Lib.run_append_nil_zeros (P := Tryz.prog) w 31 3 ty 9 i _ .i64 .i64 Tryz.underlying31 Tryz.underlying3 hi hz0 n h (by rw [hz1]; decide) (by omega) (by rw [hz2]; omega)
    have hge := grownCap_ge w n 0 9
    have hle := grownCap_le_maxLen w n 0 9 (by unfold maxLen; omega)
    generalize grownCap w n 0 9 = K at hrz hge hle
    obtain ⟨R, hR⟩ : ∃ R : List Value, R = (Builtin.zeroCells (Value.cells (.string ⟨#[]⟩)) n ++ Builtin.zeroCells (Value.cells (.string ⟨#[]⟩)) (K - n)).toList := ⟨_, rfl⟩
    have hRa : Builtin.zeroCells (Value.cells (.string ⟨#[]⟩)) n ++ Builtin.zeroCells (Value.cells (.string ⟨#[]⟩)) (K - n) = R.toArray := by rw [hR]
    have hzs : ∀ m, (Builtin.zeroCells (Value.cells (.string ⟨#[]⟩)) m).size = m * 1 := fun m => by rw [size_zeroCells]; rfl
    have hRl : R.length = K * 1 := by rw [hR, Array.length_toList, Array.size_append, hzs, hzs]; omega
    rw [hRa] at hrz
    have E1 : Ext w (w.drew.alloc (.cells R.toArray 9)) := (Ext.refl w).drew.alloc _
    have hrow : RowB (w.drew.alloc (.cells R.toArray 9)) w.heap.size 9 R := heap_alloc_new w.drew _
    generalize w.drew.alloc (.cells R.toArray 9) = w1 at hrz E1 hrow
    have HL := hid hRl
    clear hRl hR hRa hzs hi hz0 hz1 hz2
    have hle' := hle
    unfold maxLen at hle'
    have hn0 : (0 : Int) < (n : Int) := by omega
    go_enter Tryz.func115, Tryz.ntmps115
    go_wp2_with (at_builtin; refine Lib.wpList_append_run _ rfl _ _ _ _ rfl _ _ rfl rfl _ _ (hrz _) ?_)
    go_ret
    exact ⟨_, rfl, own_zero _ _ R hrow (Nat.le_refl _) hle HL.out, E1⟩
set_option maxRecDepth 10000 in
set_option maxHeartbeats 1000000 in
theorem concat_Str (v : Value) (vs : List Value) (L : List (Nat × List Value)) (w : World) (hv : Seg w v 1 vs.length vs) (hl : vs.length ≤ L.length) (hl' : L.length ≤ vs.length) (hs : ∀ (i : Nat) (u : Value) (p : Nat × List Value), vs[i]? = some u → L[i]? = some p → Seg w u 1 p.1 p.2)
    (h1 : ∀ p ∈ L, ∀ u ∈ p.2, u.oneCell' = true) (hsum : totN L ≤ 1000000000) :
    Calls Tryz.prog 90 #[v] w fun e w' => ∃ v', e = .returned v' ∧ w'.ownsRow w.heap.size 9 1 v' (totN L) (totC L) ∧ Ext w w' := by
  obtain ⟨h0, a, cap, rfl, h2, h3, h4⟩ := hv
  clear h0
  unfold maxLen at h3
  have HS := hid hs
  have H1 := hid h1
  have H4 := hid h4
  clear hs h1 h4
  go_enter Tryz.func90, Tryz.ntmps90
  go_wp2
  go_loopw [3, 5, 11] (fun n _ i wr => ∃ k : Nat, k ≤ vs.length ∧ i = .int .i64 k ∧ n = .int .i64 (totN (L.take k)) ∧ Ext w wr) (fun _ _ i _ => vs.length - (intOf i).toNat)
  case atStart => exact ⟨0, Nat.zero_le _, rfl, rfl, Ext.refl _⟩
  case round =>
    obtain ⟨k, hk, rfl, rfl, E0⟩ := hrel
    have hb := totN_le L k
    by_cases hlt : k < vs.length
    · obtain ⟨b, off, rfl, hc⟩ := H4.out (by omega)
      have c0 := E0.cell (hc k vs[k] (by simp [hlt]))
      have hsk0 := HS.out k vs[k] (L[k]'(by omega)) (by simp [hlt]) (List.getElem?_eq_getElem _)
      obtain ⟨a1, c1, hq⟩ := seg_form hsk0
      have hst := totN_step (show k < L.length by omega)
      have hb1 := totN_le L (k + 1)
      rw [hq] at c0
      rw [hst] at hb1
      have HST := hid hst
      clear hc hq hst hsk0
      go_wp2
      go_roundw
      case rel => exact ⟨k + 1, by omega, by go_num, by rw [HST.out]; rfl, E0⟩
      case measure => simp [intOf]; omega
    · obtain rfl : k = vs.length := by omega
      have ht : L.take vs.length = L := List.take_of_length_le (by omega)
      rw [ht]
      clear ht hb
      go_wp2_with fail
      refine (grow_Str _ _ hsum).mono ?_
      rintro e w1 ⟨v1, rfl, ho, E1⟩
      replace ho := own_base ho E0.size'
      replace E1 := E0.trans E1
      clear E0
      go_wp2
      go_loopw [6, 8, 27] (fun o _ i wr => ∃ k : Nat, k ≤ vs.length ∧ i = .int .i64 k ∧ wr.ownsRow w.heap.size 9 1 o (totN (L.take k)) (totC (L.take k)) ∧ Ext w wr) (fun _ _ i _ => vs.length - (intOf i).toNat)
      case atStart => exact ⟨0, Nat.zero_le _, rfl, ho, E1⟩
      case round =>
        clear ho E1
        obtain ⟨k, hk, rfl, ho, E⟩ := hrel
        have hb := totN_le L k
        by_cases hlt : k < vs.length
        · obtain ⟨b, off, rfl, hc⟩ := H4.out (by omega)
          have c0 := E.cell (hc k vs[k] (by simp [hlt]))
          have hsk0 := HS.out k vs[k] (L[k]'(by omega)) (by simp [hlt]) (List.getElem?_eq_getElem _)
          obtain ⟨a1, c1, hq⟩ := seg_form hsk0
          have hsk := hsk0.ext E
          have hst := totN_step (show k < L.length by omega)
          have hsc := totC_step (show k < L.length by omega)
          have hb1 := totN_le L (k + 1)
          have h1k := H1.out L[k] (List.getElem_mem _)
          have hge := own_ge ho
          have hB := E.size'
          rw [hq] at c0 hsk
          rw [hst] at hb1
          have HST := hid (And.intro hst hsc)
          clear hc hq hst hsc hsk0
          go_wp2_with (first | (at_builtin; refine (wpList_app rfl _ _ 31 rfl w.heap.size 9 (.string ⟨#[]⟩) 1 16 Tryz.underlying31 infoC_Str rfl (by decide) _ (totN (L.take k)) (totC (L.take k)) rfl ho _ (L[k]'(by omega)).1 (L[k]'(by omega)).2 rfl hsk h1k (by omega) (by unfold maxLen; omega) hB ?_); intro v' w4 ho' hg))
          go_roundw
          case rel => exact ⟨k + 1, by omega, by go_num, by rw [HST.out.1, HST.out.2]; exact ho', E.grown hg (fun j e => hge j e)⟩
          case measure => simp [intOf]; omega
        · obtain rfl : k = vs.length := by omega
          have ht : L.take vs.length = L := List.take_of_length_le (by omega)
          rw [ht] at ho
          go_wp2
          go_ret
          exact ⟨_, rfl, ho, E⟩
end Go.Proofs.YtnepdfpooobmcaaGreat

/- Contracts and lemmas for the proofs of this seat; each theorem states its own conditions. -/
namespace Go.Proofs.YtnepdfpooobmcaaGreat
open Go.RowKit
end Go.Proofs.YtnepdfpooobmcaaGreat

/- Contracts and lemmas for the proofs of this seat; each theorem states its own conditions. -/
namespace Go.Proofs.YtnepdfpooobmcaaGreat
open Go.RowKit
/-! rokeep.run, deedBegun, deed.Serial -/
theorem run_len (l : Prs) (d : Ops) : (runS l d).length ≤ l.length + 2 * d.length := by
  unfold runS
  cases e : runP l d with
  | none => simp
  | some l' => exact len_run e
/-- deeds, in a row -/
def SegDs (w : World) (v : Value) (D : List Ops) : Prop :=
  ∃ vs : List Value, vs.length = D.length ∧ Seg w v 1 vs.length vs ∧ ∀ (i : Nat) (u : Value) (d : Ops), vs[i]? = some u → D[i]? = some d → Seg w u 4 d.length (cO d)
theorem SegDs.ext {w w' : World} {v : Value} {D : List Ops} (h : SegDs w v D) (k : Ext w w') : SegDs w' v D := by
  obtain ⟨vs, h1, h2, h3⟩ := h
  exact ⟨vs, h1, h2.ext k, fun i u d a b => (h3 i u d a b).ext k⟩
theorem OwnDs.seg {w : World} {B B' : Nat} {v : Value} {vs : List Value} {D : List Ops} (h : OwnDs w B vs D) (ho : w.ownsRow B' 39 1 v vs.length vs) : SegDs w v D :=
  ⟨vs, h.len, own_seg ho, fun i u d a b => own_seg (h.own i u d a b)⟩
end Go.Proofs.YtnepdfpooobmcaaGreat
