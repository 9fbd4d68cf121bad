/- Contracts and lemmas for the proof of PartsPlay; each theorem states its own conditions. -/
import Derived.Test.YtimchedebcoohaaGreatDoorQPartsPlayao
import Derived.Test.YtimchedebcoohaaGreatDoorQPartsPlayaq
import Derived.Test.YtimchedebcoohaaGreatDoorQPartsPlayak
import Derived.Test.YtimchedebcoohaaGreatDoorQPartsPlayab
import Derived.Test.YtimchedebcoohaaGreatDoorQPartsPlayas
import Derived.WalkLawsBesides
import Derived.Carry
import Derived.Test.YtimchedebcoohaaGreatDoorProg
import Derived.Test.YtimchedebcoohaaGreatDoorQPartsPlayai
import Derived.WalkSpells
set_option linter.unusedVariables false
set_option linter.unusedSimpArgs false
/- Contracts and lemmas for the proofs of this seat; each theorem states its own conditions. -/
namespace Go.Proofs.YtimchedebcoohaaGreatDoor
open Go.RowKit Go.Deep Go.WideShapes Go.ChangeShapes
/-! what a row tells of a deed -/
instance : Inhabited GOp := ⟨⟨0, ⟨#[]⟩, ⟨#[]⟩, 0⟩⟩
def opW (o : GOp) : Prop := o.key.size ≤ maxLen ∧ o.from_.size ≤ maxLen ∧ (Lit.int .i64 o.kind).wf = true ∧ (Lit.int .i64 o.n).wf = true
def opsW (d : Ops) : Prop := ∀ o ∈ d, opW o
theorem opsW.sm {d : Ops} (h : opsW d) : opsSm d := fun o ho => by
  obtain ⟨h1, h2, _, _⟩ := h o ho
  unfold maxLen at h1 h2
  exact ⟨by omega, by omega⟩
set_option maxRecDepth 10000 in
theorem segO_of_trod {H : Type} {enc : TypeId × Value → H} {W : World} {base : Nat} {held : Bool} {fuel : Nat} {v : Value} {x : DataW H × List MemPlace}
    (h : DataW.trod enc Tryz.prog W base (fun _ => true) held fuel 41 [v] = some x) :
    ∃ a len cap, ∃ d : Ops, v = .slice a len cap ∧ Seg W (.slice a len cap) 4 d.length (cO d) ∧ opsW d ∧ 5 * d.length + 1 ≤ Rows.uptoBulk x.1 := by
  have ki : Tryz.prog.cellsOf 3 = 1 := by kernel_rfl
  have ks : Tryz.prog.cellsOf 9 = 1 := by kernel_rfl
  have ko : Tryz.prog.cellsOf 90 = 4 := by kernel_rfl
  rcases open_slice Tryz.underlying41 h with ⟨hcs, rfl⟩ | ⟨ad, len, cap, m, n, D, Pl, hcs, _, hl, hm, hmm, rfl, hx⟩
  · injection hcs with hcs _
    exact ⟨none, 0, 0, [], hcs, Seg.nil _ _, by simp [opsW], by simp [Rows.uptoBulk]⟩
  · injection hcs with hcs _
    simp only [if_true] at hmm
    obtain ⟨f, hf⟩ := pick_fun (α := GOp) (n := len) (p := fun i o => (W.cell? (ad.add (i * 4)) = some (.int .i64 o.kind) ∧ W.cell? (ad.add (i * 4 + 1)) = some (.string o.key) ∧ W.cell? (ad.add (i * 4 + 2)) = some (.string o.from_) ∧ W.cell? (ad.add (i * 4 + 3)) = some (.int .i64 o.n)) ∧ opW o ∧ 5 ≤ Rows.uptoBulk (D i)) (fun i hi => by
      obtain ⟨cs', h1, h2⟩ := hx i (by omega)
      rw [ko] at h1
      obtain ⟨_, hlen, hcell⟩ := World.cells?_some h1
      obtain ⟨xs, k, hk, hxy, _, hxl, hfl⟩ := DataW.trod_struct Tryz.underlying90 h2
      match xs, hxl, cs', hlen with
      | [t0, t1, t2, t3], _, [v0, v1, v2, v3], _ =>
        have g0 := hfl 0 _ rfl
        have g1 := hfl 1 _ rfl
        have g2 := hfl 2 _ rfl
        have g3 := hfl 3 _ rfl
        simp [ki, ks] at g0 g1 g2 g3
        have e0 := hcell 0 (by omega)
        have e1 := hcell 1 (by omega)
        have e2 := hcell 2 (by omega)
        have e3 := hcell 3 (by omega)
        rw [add_add] at e0 e1 e2 e3
        simp at e0 e1 e2 e3
        obtain ⟨kd, q0, _, r0⟩ := DataW.trod_int Tryz.underlying3 g0
        obtain ⟨ky, q1, _, r1⟩ := DataW.trod_string Tryz.underlying9 g1
        obtain ⟨fr, q2, _, r2⟩ := DataW.trod_string Tryz.underlying9 g2
        obtain ⟨nn, q3, _, r3⟩ := DataW.trod_int Tryz.underlying3 g3
        injection q0 with q0 _
        injection q1 with q1 _
        injection q2 with q2 _
        injection q3 with q3 _
        subst q0; subst q1; subst q2; subst q3
        refine ⟨⟨kd, ky, fr, nn⟩, ⟨e0, e1, e2, e3⟩, ⟨r1, r2, r0, r3⟩, ?_⟩
        simp only [Prod.mk.injEq] at hxy
        rw [hxy.1]
        have b0 := bulk_one t0.1
        have b1 := bulk_one t1.1
        have b2 := bulk_one t2.1
        have b3 := bulk_one t3.1
        simp only [List.map_cons, List.map_nil, Rows.uptoBulk, Rows.uptoBulkAll]
        omega)
    refine ⟨some ad, len, cap, (List.range len).map f, hcs, ⟨by rw [cO_len], some ad, cap, by simp, by simpa using hl, hm, fun hn => ?_⟩, ?_, ?_⟩
    · simp at hn
      have hs := cell_spot (hf 0 (by omega)).1.1
      obtain ⟨b, off, sp⟩ := ad
      have : sp = none := by simpa [Addr.add] using hs
      subst this
      refine ⟨b, off, rfl, fun j u hu => ?_⟩
      have hj := (List.getElem?_eq_some_iff.1 hu).1
      rw [cO_len] at hj
      simp at hj
      have hk : j / 4 < ((List.range len).map f).length := by simp; omega
      have ek : ((List.range len).map f)[j / 4] = f (j / 4) := by simp
      obtain ⟨⟨g0, g1, g2, g3⟩, _⟩ := hf (j / 4) (by omega)
      rw [addr_add] at g0 g1 g2 g3
      have hlt := Nat.mod_lt j (show 0 < 4 by omega)
      rcases (show j % 4 = 0 ∨ j % 4 = 1 ∨ j % 4 = 2 ∨ j % 4 = 3 by omega) with e | e | e | e
      · have hj2 : j = j / 4 * 4 := by omega
        have c := cO_at0 _ _ hk
        rw [← hj2, hu, ek] at c
        injection c with c
        rw [c, ← g0, ← hj2]
      · have hj2 : j = j / 4 * 4 + 1 := by omega
        have c := cO_at1 _ _ hk
        rw [← hj2, hu, ek] at c
        injection c with c
        rw [c, ← g1, ← hj2]
      · have hj2 : j = j / 4 * 4 + 2 := by omega
        have c := cO_at2 _ _ hk
        rw [← hj2, hu, ek] at c
        injection c with c
        rw [c, ← g2, ← hj2]
      · have hj2 : j = j / 4 * 4 + 3 := by omega
        have c := cO_at3 _ _ hk
        rw [← hj2, hu, ek] at c
        injection c with c
        rw [c, ← g3, ← hj2]
    · intro o ho
      simp at ho
      obtain ⟨i, hi, rfl⟩ := ho
      exact (hf i hi).2.1
    · have hb := bulk_map (c := 5) (f := D) (l := List.range len) (fun i hi => (hf i (List.mem_range.1 hi)).2.2)
      simp only [List.length_range] at hb
      simp only [List.length_map, List.length_range, Rows.uptoBulk]
      omega
set_option maxRecDepth 10000 in
theorem deed_of_trod {H : Type} {enc : TypeId × Value → H} {W : World} {base : Nat} {held : Bool} {fuel : Nat} {cs : List Value} {x : DataW H × List MemPlace}
    (h : DataW.trod enc Tryz.prog W base (fun _ => true) held fuel 43 cs = some x) :
    ∃ a len cap, ∃ d : Ops, cs = [.slice a len cap] ∧ Seg W (.slice a len cap) 4 d.length (cO d) ∧ opsW d ∧ 5 * d.length + 2 ≤ Rows.uptoBulk x.1 := by
  have kd : Tryz.prog.cellsOf 43 = 1 := by kernel_rfl
  have ks : Tryz.prog.cellsOf 41 = 1 := by kernel_rfl
  obtain ⟨y0, n, rfl, hl, h0⟩ := trod_struct1 Tryz.underlying43 h
  rw [kd] at hl
  match cs, hl with
  | [c], _ =>
    simp [ks] at h0
    obtain ⟨a, len, cap, d, rfl, h1, h2, h3⟩ := segO_of_trod h0
    refine ⟨a, len, cap, d, rfl, h1, h2, ?_⟩
    simp only [Rows.uptoBulk, Rows.uptoBulkAll]
    omega
end Go.Proofs.YtimchedebcoohaaGreatDoor

/- Contracts and lemmas for the proofs of this seat; each theorem states its own conditions. -/
namespace Go.Proofs.YtimchedebcoohaaGreatDoor
open Go.RowKit
/-! Join -/
def joinE (a b : Prs) : Int := if storeErr a ≠ 0 then storeErr a else if storeErr b ≠ 0 then storeErr b else if apartB a b then 0 else 5
def apartTo (a b : Prs) (k : Nat) : Prop := ∀ j, (h : j < b.length) → j < k → valP a b[j].1 = 0
theorem apartTo_zero (a b : Prs) : apartTo a b 0 := fun _ _ h => absurd h (by omega)
theorem apartTo_succ {a b : Prs} {k : Nat} (h : apartTo a b k) (hk : k < b.length) (e : valP a b[k].1 = 0) : apartTo a b (k + 1) := by
  intro j hj hjk
  rcases Nat.lt_succ_iff_lt_or_eq.1 hjk with h3 | h3
  · exact h j hj h3
  · subst h3; exact e
theorem apartTo_all {a b : Prs} {k : Nat} (h : apartTo a b k) (hk : k = b.length) : apartB a b = true := by
  unfold apartB
  rw [List.all_eq_true]
  intro p hp
  obtain ⟨i, hi, rfl⟩ := List.mem_iff_getElem.1 hp
  simpa using h i hi (by omega)
theorem apart_hit {a b : Prs} {k : Nat} (hk : k < b.length) (e : valP a b[k].1 ≠ 0) : apartB a b = false := by
  cases h : apartB a b with
  | false => rfl
  | true =>
    unfold apartB at h
    rw [List.all_eq_true] at h
    exact absurd (by simpa using h _ (List.getElem_mem hk)) e
end Go.Proofs.YtimchedebcoohaaGreatDoor

/- Contracts and lemmas for the proofs of this seat; each theorem states its own conditions. -/
namespace Go.Proofs.YtimchedebcoohaaGreatDoor
open Go.RowKit Go.Maps
/-! rokeep.Pairs -/
/-- what the map of Pairs holds -/
def PF (f : ByteArray → Option Int) : Prop := ∀ k c, f k = some c → keyB k = true ∧ -20 ≤ c ∧ c ≤ 20
theorem pf_none : PF (fun _ => none) := fun _ _ h => by cases h
theorem pf_put {f : ByteArray → Option Int} (h : PF f) {k : ByteArray} {c : Int} (hk : keyB k = true) (h1 : -20 ≤ c) (h2 : c ≤ 20) : PF (fun x => if x = k then some c else f x) := fun x d hd => by
  dsimp only at hd
  split at hd
  · rename_i e; subst e; injection hd with hd; subst hd; exact ⟨hk, h1, h2⟩
  · exact h x d hd
theorem pf_store {f : ByteArray → Option Int} (h : PF f) {l : Prs} (h1 : srtP l) (h2 : nzP l) (h3 : ∀ k, valP l k = (f k).getD 0) : StoreOk l := by
  have hm : ∀ p ∈ l, f p.1 = some p.2 := fun p hp => by
    have a := h3 p.1
    rw [valP_mem h1 hp] at a
    cases hf : f p.1 with
    | none => rw [hf] at a; exact absurd a (h2 p hp)
    | some c => rw [hf] at a; simp at a; rw [a]
  exact ⟨fun p hp => (h _ _ (hm p hp)).1, fun p hp => by have := h _ _ (hm p hp); exact ⟨h2 p hp, by omega, by omega⟩, h1⟩
/-- where Pairs' loop stands -/
def PRel (w : World) (k : Nat) (wr : World) : Prop :=
  ∃ (D : DU) (f : ByteArray → Option Int), wr.ownsMap Tryz.prog 9 (plainElem Tryz.prog 3) w.heap.size k D ∧ MapF kS okS dI D f ∧ PF f ∧ Ext w wr
theorem prel_put {w w3 : World} {k : Nat} {D : DU} {f : ByteArray → Option Int} {key : ByteArray} {c : Int} (hF : MapF kS okS dI D f) (hP : PF f) (hk : keyB key = true) (h1 : -20 ≤ c) (h2 : c ≤ 20)
    (hown : w3.ownsMap Tryz.prog 9 (plainElem Tryz.prog 3) w.heap.size (k + 1) (D.put (kS key) (dI c))) (E : Ext w w3) : PRel w (k + 1) w3 :=
  ⟨_, _, hown, hF.put kS_inj kS_is (by have := keyB_size hk; unfold okS maxLen; omega) c, pf_put hP hk h1 h2, E⟩
end Go.Proofs.YtimchedebcoohaaGreatDoor

/- Contracts and lemmas for the proofs of this seat; each theorem states its own conditions. -/
namespace Go.Proofs.YtimchedebcoohaaGreatDoor
open Go.RowKit
def totN (L : List (Nat × List Value)) : Nat := (L.map (·.1)).sum
def totC (L : List (Nat × List Value)) : List Value := L.flatMap (·.2)
theorem totN_step {L : List (Nat × List Value)} {k : Nat} (hk : k < L.length) : totN (L.take (k + 1)) = totN (L.take k) + L[k].1 := by
  unfold totN; rw [List.take_succ_eq_append_getElem hk, List.map_append, List.sum_append]; simp only [List.map_cons, List.map_nil, List.sum_cons, List.sum_nil, Nat.add_zero]
theorem totC_step {L : List (Nat × List Value)} {k : Nat} (hk : k < L.length) : totC (L.take (k + 1)) = totC (L.take k) ++ L[k].2 := by
  unfold totC; rw [List.take_succ_eq_append_getElem hk, List.flatMap_append]; simp only [List.flatMap_cons, List.flatMap_nil, List.append_nil]
theorem totN_le (L : List (Nat × List Value)) (k : Nat) : totN (L.take k) ≤ totN L := by
  have : totN L = totN (L.take k) + totN (L.drop k) := by
    conv => lhs; rw [← List.take_append_drop k L]
    unfold totN; rw [List.map_append, List.sum_append]
  omega
theorem own_zero {w : World} {B e size : Nat} (b C : Nat) (cur : List Value) (hrow : RowB w b e cur) (hB : B ≤ b) (hC : C ≤ maxLen) (hl : cur.length = C * size) : w.ownsRow B e size (.slice (some ⟨b, 0, none⟩) 0 C) 0 [] :=
  own_of_row hrow hB (Nat.zero_le _) hC hl (by simp) (by simp)
theorem infoC_Str : (Tryz.prog.info? 9).map (fun i => (i.zero, i.size, i.bytes)) = some (some (.string ⟨#[]⟩), 1, 16) := by kernel_rfl
set_option maxHeartbeats 1000000 in
theorem grow_Str (n : Nat) (w : World) (hn : n ≤ 1000000000) : Calls Tryz.prog 48 #[.slice none 0 0, .int .i64 n] w fun e w' => ∃ v', e = .returned v' ∧ w'.ownsRow w.heap.size 9 1 v' 0 [] ∧ Ext w w' := by
  rcases Nat.eq_zero_or_pos n with h | h
  · subst h
    go_enter Tryz.func48, Tryz.ntmps48
    go_wp2
    go_ret
    exact ⟨_, rfl, World.ownsRow_nil _ _ _ _, Ext.refl _⟩
  · obtain ⟨i, hi, hz0, hz1, hz2⟩ := info_parts infoC_Str
    have hrz := fun ty => Lib.run_append_nil_zeros (P := Tryz.prog) w 22 3 ty 9 i _ .i64 .i64 Tryz.underlying22 Tryz.underlying3 hi hz0 n h (by rw [hz1]; decide) (by omega) (by rw [hz2]; omega)
    have hge := grownCap_ge w n 0 9
    have hle := grownCap_le_maxLen w n 0 9 (by unfold maxLen; omega)
    generalize grownCap w n 0 9 = K at hrz hge hle
    obtain ⟨R, hR⟩ : ∃ R : List Value, R = (Builtin.zeroCells (Value.cells (.string ⟨#[]⟩)) n ++ Builtin.zeroCells (Value.cells (.string ⟨#[]⟩)) (K - n)).toList := ⟨_, rfl⟩
    have hRa : Builtin.zeroCells (Value.cells (.string ⟨#[]⟩)) n ++ Builtin.zeroCells (Value.cells (.string ⟨#[]⟩)) (K - n) = R.toArray := by rw [hR]
    have hzs : ∀ m, (Builtin.zeroCells (Value.cells (.string ⟨#[]⟩)) m).size = m * 1 := fun m => by rw [size_zeroCells]; rfl
    have hRl : R.length = K * 1 := by rw [hR, Array.length_toList, Array.size_append, hzs, hzs]; omega
    rw [hRa] at hrz
    have E1 : Ext w (w.drew.alloc (.cells R.toArray 9)) := (Ext.refl w).drew.alloc _
    have hrow : RowB (w.drew.alloc (.cells R.toArray 9)) w.heap.size 9 R := heap_alloc_new w.drew _
    generalize w.drew.alloc (.cells R.toArray 9) = w1 at hrz E1 hrow
    have HL := hid hRl
    clear hRl hR hRa hzs hi hz0 hz1 hz2
    have hle' := hle
    unfold maxLen at hle'
    have hn0 : (0 : Int) < (n : Int) := by omega
    go_enter Tryz.func48, Tryz.ntmps48
    go_wp2_with (at_builtin; refine Lib.wpList_append_run _ rfl _ _ _ _ rfl _ _ rfl rfl _ _ (hrz _) ?_)
    go_ret
    exact ⟨_, rfl, own_zero _ _ R hrow (Nat.le_refl _) hle HL.out, E1⟩
set_option maxRecDepth 10000 in
set_option maxHeartbeats 1000000 in
theorem concat_Str (v : Value) (vs : List Value) (L : List (Nat × List Value)) (w : World) (hv : Seg w v 1 vs.length vs) (hl : vs.length ≤ L.length) (hl' : L.length ≤ vs.length) (hs : ∀ (i : Nat) (u : Value) (p : Nat × List Value), vs[i]? = some u → L[i]? = some p → Seg w u 1 p.1 p.2)
    (h1 : ∀ p ∈ L, ∀ u ∈ p.2, u.oneCell' = true) (hsum : totN L ≤ 1000000000) :
    Calls Tryz.prog 20 #[v] w fun e w' => ∃ v', e = .returned v' ∧ w'.ownsRow w.heap.size 9 1 v' (totN L) (totC L) ∧ Ext w w' := by
  obtain ⟨h0, a, cap, rfl, h2, h3, h4⟩ := hv
  clear h0
  unfold maxLen at h3
  have HS := hid hs
  have H1 := hid h1
  have H4 := hid h4
  clear hs h1 h4
  go_enter Tryz.func20, Tryz.ntmps20
  go_wp2
  go_loopw [3, 5, 11] (fun n _ i wr => ∃ k : Nat, k ≤ vs.length ∧ i = .int .i64 k ∧ n = .int .i64 (totN (L.take k)) ∧ Ext w wr) (fun _ _ i _ => vs.length - (intOf i).toNat)
  case atStart => exact ⟨0, Nat.zero_le _, rfl, rfl, Ext.refl _⟩
  case round =>
    obtain ⟨k, hk, rfl, rfl, E0⟩ := hrel
    have hb := totN_le L k
    by_cases hlt : k < vs.length
    · obtain ⟨b, off, rfl, hc⟩ := H4.out (by omega)
      have c0 := E0.cell (hc k vs[k] (by simp [hlt]))
      have hsk0 := HS.out k vs[k] (L[k]'(by omega)) (by simp [hlt]) (List.getElem?_eq_getElem _)
      obtain ⟨a1, c1, hq⟩ := seg_form hsk0
      have hst := totN_step (show k < L.length by omega)
      have hb1 := totN_le L (k + 1)
      rw [hq] at c0
      rw [hst] at hb1
      have HST := hid hst
      clear hc hq hst hsk0
      go_wp2
      go_roundw
      case rel => exact ⟨k + 1, by omega, by go_num, by rw [HST.out]; rfl, E0⟩
      case measure => simp [intOf]; omega
    · obtain rfl : k = vs.length := by omega
      have ht : L.take vs.length = L := List.take_of_length_le (by omega)
      rw [ht]
      clear ht hb
      go_wp2_with fail
      refine (grow_Str _ _ hsum).mono ?_
      rintro e w1 ⟨v1, rfl, ho, E1⟩
      replace ho := own_base ho E0.size'
      replace E1 := E0.trans E1
      clear E0
      go_wp2
      go_loopw [6, 8, 27] (fun o _ i wr => ∃ k : Nat, k ≤ vs.length ∧ i = .int .i64 k ∧ wr.ownsRow w.heap.size 9 1 o (totN (L.take k)) (totC (L.take k)) ∧ Ext w wr) (fun _ _ i _ => vs.length - (intOf i).toNat)
      case atStart => exact ⟨0, Nat.zero_le _, rfl, ho, E1⟩
      case round =>
        clear ho E1
        obtain ⟨k, hk, rfl, ho, E⟩ := hrel
        have hb := totN_le L k
        by_cases hlt : k < vs.length
        · obtain ⟨b, off, rfl, hc⟩ := H4.out (by omega)
          have c0 := E.cell (hc k vs[k] (by simp [hlt]))
          have hsk0 := HS.out k vs[k] (L[k]'(by omega)) (by simp [hlt]) (List.getElem?_eq_getElem _)
          obtain ⟨a1, c1, hq⟩ := seg_form hsk0
          have hsk := hsk0.ext E
          have hst := totN_step (show k < L.length by omega)
          have hsc := totC_step (show k < L.length by omega)
          have hb1 := totN_le L (k + 1)
          have h1k := H1.out L[k] (List.getElem_mem _)
          have hge := own_ge ho
          have hB := E.size'
          rw [hq] at c0 hsk
          rw [hst] at hb1
          have HST := hid (And.intro hst hsc)
          clear hc hq hst hsc hsk0
          go_wp2_with (first | (at_builtin; refine (wpList_app rfl _ _ 22 rfl w.heap.size 9 (.string ⟨#[]⟩) 1 16 Tryz.underlying22 infoC_Str rfl (by decide) _ (totN (L.take k)) (totC (L.take k)) rfl ho _ (L[k]'(by omega)).1 (L[k]'(by omega)).2 rfl hsk h1k (by omega) (by unfold maxLen; omega) hB ?_); intro v' w4 ho' hg))
          go_roundw
          case rel => exact ⟨k + 1, by omega, by go_num, by rw [HST.out.1, HST.out.2]; exact ho', E.grown hg (fun j e => hge j e)⟩
          case measure => simp [intOf]; omega
        · obtain rfl : k = vs.length := by omega
          have ht : L.take vs.length = L := List.take_of_length_le (by omega)
          rw [ht] at ho
          go_wp2
          go_ret
          exact ⟨_, rfl, ho, E⟩
end Go.Proofs.YtimchedebcoohaaGreatDoor
