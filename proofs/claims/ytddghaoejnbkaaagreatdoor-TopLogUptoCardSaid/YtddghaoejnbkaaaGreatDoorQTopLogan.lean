/- Contracts and lemmas for the proof of TopLog; each theorem states its own conditions. -/
import Derived.Test.YtddghaoejnbkaaaGreatDoorQTopLogak
import Derived.Test.YtddghaoejnbkaaaGreatDoorQTopLogam
import Derived.Test.YtddghaoejnbkaaaGreatDoorQTopLogad
import Derived.Laws.CopyRow
import Derived.Laws.CopyOwn
import Derived.Laws.IdiomCopy
import Derived.Lib.SliceRun
import Derived.Lib.AppendZeros
import Derived.Lib.AppendZerosOnto
import Derived.Shelf.Spec.SlicesInsert
import Derived.Test.YtddghaoejnbkaaaGreatDoorQTopLogac
import Derived.Test.YtddghaoejnbkaaaGreatDoorQTopLogaf
set_option linter.unusedVariables false
set_option linter.unusedSimpArgs false
/- Contracts and lemmas for the proofs of this seat; each theorem states its own conditions. -/
namespace Go.Proofs.YtddghaoejnbkaaaGreatDoor
open Go.RowKit Go.Shelf
/-- strings compared -/
def cmpB (a b : ByteArray) : Int := if blt a b then -1 else if a = b then 0 else 1
theorem cmpL : ∀ x y : List UInt8, Lib.compareBytes x y = if Op.bytesLess x y then -1 else if x = y then 0 else 1
  | [], [] => rfl
  | [], _ :: _ => rfl
  | _ :: _, [] => by simp [Lib.compareBytes, Op.bytesLess]
  | a :: x, b :: y => by
    have ih := cmpL x y
    simp only [Lib.compareBytes, Op.bytesLess]
    by_cases h1 : a < b
    · simp [h1]
    · by_cases h2 : b < a
      · have hne : a ≠ b := by rintro rfl; exact h1 h2
        simp [h1, h2, hne]
      · have he : a = b := by
          rw [u8_lt] at h1 h2
          exact u8_eq.2 (by omega)
        subst he
        simp [ih, UInt8.lt_irrefl]
theorem cmp_eq (a b : ByteArray) : Lib.compareBytes a.data.toList b.data.toList = cmpB a b := by
  rw [cmpL, ← toList_data, ← toList_data]
  unfold cmpB blt
  have : (a.toList = b.toList) = (a = b) := propext ⟨toList_inj, fun h => by rw [h]⟩
  simp only [this]
theorem compare_any (a b : ByteArray) (w : World) : Calls Tryz.prog 230 #[.string a, .string b] w fun e w' => e = .returned (.int .i64 (cmpB a b)) ∧ w = w' := by
  have := Any.strings_Compare lays106 a b w
  rw [cmp_eq] at this
  exact this.mono fun _ _ ⟨h1, h2⟩ => ⟨h1, h2.symm⟩
theorem findc_any (p : ByteArray × Int) (key : ByteArray) (w : World) : Calls Tryz.prog 229 #[.agg #[.string p.1, .int .i64 p.2], .string key] w fun e w' => e = .returned (.int .i64 (cmpB p.1 key)) ∧ Ext w w' := by
  go_enter Tryz.func229, Tryz.ntmps229
  go_wp2_with fail
  refine (compare_any _ _ _).mono ?_
  rintro e w' ⟨rfl, rfl⟩
  go_wp2
  go_ret
  exact ⟨rfl, by (repeat (first | (with_reducible assumption) | (with_reducible exact Ext.refl _) | (with_reducible refine Ext.drew ?_) | (with_reducible refine Ext.drewN ?_ _) | (with_reducible refine Ext.alloc ?_ _) | (with_reducible refine Ext.trans ?_ (by with_reducible assumption))))⟩
theorem cmpB_lt {a b : ByteArray} (h : blt a b = true) : cmpB a b = -1 := by simp [cmpB, h]
theorem cmpB_ge {a b : ByteArray} (h : blt a b = false) : 0 ≤ cmpB a b := by
  unfold cmpB; rw [if_neg (by simp [h])]; split <;> decide
theorem cmpB_zero {a b : ByteArray} (h : blt a b = false) : (cmpB a b == 0) = (a.toList == b.toList) := by
  by_cases e : a = b
  · subst e; simp [cmpB, h]
  · have : (a.toList == b.toList) = false := by
      simp; exact fun h => e (toList_inj h)
    rw [this]; simp [cmpB, h, e]
set_option maxRecDepth 10000 in
set_option maxHeartbeats 1000000 in
theorem bsearchP_any (v : Value) (l : Prs) (t : ByteArray) (w : World) (hv : Seg w v 2 l.length (cP l)) (hd : dropsB (bltAt (keysP l) t) l.length) (hn : l.length < 1000000000) :
    Calls Tryz.prog 228 #[v, .string t, .func (.func 229) #[] #[]] w fun e w' => ∃ i : Nat, cutAt (bltAt (keysP l) t) l.length i ∧ e = .returned (.tuple #[.int .i64 i, .bool (hitS (keysP l) t i)]) ∧ Ext w w' := by
  obtain ⟨h0, a, cap, rfl, h1, h2, h3⟩ := hv
  unfold maxLen at h2
  go_enter Tryz.func228, Tryz.ntmps228
  go_wp2
  go_loopw [9, 10, 11] (fun x y _ wr => ∃ i j : Nat, x = .int .i64 i ∧ y = .int .i64 j ∧ bsInv (bltAt (keysP l) t) l.length i j ∧ Ext w wr) (fun x y _ _ => (intOf y).toNat - (intOf x).toNat)
  case atStart => exact ⟨0, l.length, rfl, rfl, bsInv_start _ _, Ext.refl _⟩
  case round =>
    obtain ⟨i, j, rfl, rfl, hinv, E⟩ := hrel
    have hij := hinv.1
    have hjn := hinv.2.1
    by_cases hlt : i < j
    · obtain ⟨b, off, rfl, hc⟩ := h3 (by omega)
      have c := seg_pair hc (show (i + j) / 2 < l.length by omega)
      have c0 := E.cell c.1
      have c1 := E.cell c.2
      clear hc h3 c
      have he : bltAt (keysP l) t ((i + j) / 2) = blt (l[(i + j) / 2]'(by omega)).1 t := by rw [bltAt, keysP_at (by omega)]
      cases hb : blt (l[(i + j) / 2]'(by omega)).1 t with
      | true =>
        have hs := bsInv_up hd hinv hlt (by rw [he, hb])
        have q := cmpB_lt hb
        clear he
        go_wp2_with fail
        refine (findc_any (l[(i + j) / 2]'(by omega)) t _).mono ?_
        rw [q]
        rintro e w' ⟨rfl, E2⟩
        clear q
        go_wp2
        go_roundw
        case rel => exact ⟨(i + j) / 2 + 1, j, by go_num, rfl, hs, by (repeat (first | (with_reducible assumption) | (with_reducible exact Ext.refl _) | (with_reducible refine Ext.drew ?_) | (with_reducible refine Ext.drewN ?_ _) | (with_reducible refine Ext.alloc ?_ _) | (with_reducible refine Ext.trans ?_ (by with_reducible assumption))))⟩
        case measure => simp [intOf]; omega
      | false =>
        have hs := bsInv_down hd hinv hlt (by rw [he, hb])
        have q := cmpB_ge hb
        clear he
        go_wp2_with fail
        refine (findc_any (l[(i + j) / 2]'(by omega)) t _).mono ?_
        generalize cmpB (l[(i + j) / 2]'(by omega)).1 t = n at q ⊢
        rintro e w' ⟨rfl, E2⟩
        go_wp2
        go_roundw
        case rel => exact ⟨i, (i + j) / 2, rfl, by go_num, hs, by (repeat (first | (with_reducible assumption) | (with_reducible exact Ext.refl _) | (with_reducible refine Ext.drew ?_) | (with_reducible refine Ext.drewN ?_ _) | (with_reducible refine Ext.alloc ?_ _) | (with_reducible refine Ext.trans ?_ (by with_reducible assumption))))⟩
        case measure => simp [intOf]; omega
    · obtain rfl : i = j := by omega
      by_cases hin : i < l.length
      · obtain ⟨b, off, rfl, hc⟩ := h3 (by omega)
        have c := seg_pair hc hin
        have c0 := E.cell c.1
        have c1 := E.cell c.2
        clear hc h3 c
        have hf : blt l[i].1 t = false := by
          have := hinv.2.2.2 i (Nat.le_refl _) hin
          rwa [bltAt, keysP_at hin] at this
        have hq : hitS (keysP l) t i = (cmpB l[i].1 t == 0) := by
          rw [hitS_eq (by rw [keysP_len]; exact hin), cmpB_zero hf, keysP_get]
        have HQ := hid hq
        clear hq
        go_wp2_with fail
        refine (findc_any l[i] t _).mono ?_
        generalize cmpB l[i].1 t = n at HQ ⊢
        rintro e w' ⟨rfl, E2⟩
        go_wp2
        all_goals (
          go_ret2
          exact ⟨i, bsInv_end hinv, rT2 rfl (vB (by rw [HQ.out]; try simp_all)), by (repeat (first | (with_reducible assumption) | (with_reducible exact Ext.refl _) | (with_reducible refine Ext.drew ?_) | (with_reducible refine Ext.drewN ?_ _) | (with_reducible refine Ext.alloc ?_ _) | (with_reducible refine Ext.trans ?_ (by with_reducible assumption))))⟩)
      · have HQ := hid (hitS_out (ks := keysP l) (t := t) (i := i) (by rw [keysP_len]; exact hin))
        go_wp2
        go_ret2
        exact ⟨i, bsInv_end hinv, rT2 rfl (vB HQ.out.symm), E⟩
set_option maxRecDepth 10000 in
theorem sfind_any (v : Value) (l : Prs) (t : ByteArray) (w : World) (hv : Seg w v 2 l.length (cP l)) (hs : srtP l) (hn : l.length < 1000000000) :
    Calls Tryz.prog 169 #[v, .string t] w fun e w' => ∃ i : Nat, cutAt (bltAt (keysP l) t) l.length i ∧ e = .returned (.tuple #[.int .i64 i, .bool (hitS (keysP l) t i)]) ∧ Ext w w' := by
  have hd := dropsB_blt (srtP_keys hs) t
  rw [keysP_len] at hd
  go_enter Tryz.func169, Tryz.ntmps169
  go_wp2_with fail
  refine (bsearchP_any v l t _ hv hd hn).mono ?_
  rintro e w' ⟨i, hc, rfl, E⟩
  go_wp2
  go_ret2
  exact ⟨i, hc, rfl, E⟩
theorem hit_lt {ks : List ByteArray} {t : ByteArray} {i : Nat} (h : hitS ks t i = true) : i < ks.length := by
  simp only [hitS, Bool.and_eq_true, decide_eq_true_eq] at h; exact h.1
theorem sat_any (v : Value) (l : Prs) (t : ByteArray) (w : World) (hv : Seg w v 2 l.length (cP l)) (hs : srtP l) (hn : l.length < 1000000000) :
    Calls Tryz.prog 134 #[v, .string t] w fun e w' => e = .returned (.int .i64 (valP l t)) ∧ Ext w w' := by
  obtain ⟨h0, a, cap, rfl, h1, h2, h3⟩ := hv
  have hv : Seg w (.slice a l.length cap) 2 l.length (cP l) := ⟨h0, a, cap, rfl, h1, h2, h3⟩
  unfold maxLen at h2
  go_enter Tryz.func134, Tryz.ntmps134
  go_wp2_with fail
  refine (sfind_any _ l t _ hv hs hn).mono ?_
  rintro e w' ⟨i, hc, rfl, E⟩
  have hval := val_cut hs hc
  cases hh : hitS (keysP l) t i with
  | true =>
    have hi := hit_lt hh
    rw [keysP_len] at hi
    rw [dif_pos hi, if_pos hh] at hval
    have HV := hid hval
    obtain ⟨b, off, rfl, hcc⟩ := h3 (by omega)
    have c1 := E.cell (seg_pair hcc hi).2
    clear hval hcc h3
    go_wp2
    go_ret
    exact ⟨rI HV.out.symm, E⟩
  | false =>
    have hv0 : valP l t = 0 := by rw [hval]; split <;> simp [hh]
    have HV := hid hv0
    clear hval hv0
    go_wp2
    go_ret
    exact ⟨rI HV.out.symm, E⟩
end Go.Proofs.YtddghaoejnbkaaaGreatDoor

/- Contracts and lemmas for the proofs of this seat; each theorem states its own conditions. -/
namespace Go.Proofs.YtddghaoejnbkaaaGreatDoor
open Go.RowKit
/-! a row of one's own, told to the cell: built-in copy, append and clear at elements of however many cells -/
def spl (cur : List Value) (o : Nat) (vs : List Value) : List Value := cur.take o ++ vs ++ cur.drop (o + vs.length)
theorem spl_len {cur vs : List Value} {o : Nat} (h : o + vs.length ≤ cur.length) : (spl cur o vs).length = cur.length := by
  simp only [spl, List.length_append, List.length_take, List.length_drop]; omega
theorem spl_take {cur vs : List Value} {o : Nat} (h : o + vs.length ≤ cur.length) : (spl cur o vs).take (o + vs.length) = cur.take o ++ vs := by
  have : (cur.take o ++ vs).length = o + vs.length := by rw [List.length_append, List.length_take]; omega
  unfold spl; rw [← this, List.take_left]
theorem spl_take_lo {cur vs : List Value} {o m : Nat} (h : o ≤ cur.length) (hm : m ≤ o) : (spl cur o vs).take m = cur.take m := by
  have : m ≤ (cur.take o).length := by rw [List.length_take]; omega
  unfold spl; rw [List.append_assoc, List.take_append_of_le_length this, List.take_take, Nat.min_eq_left hm]
def RowB (w : World) (g : Nat) (e : TypeId) (cur : List Value) : Prop := w.heap[g]? = some (.cells cur.toArray e (0, 0))
theorem RowB.set {w : World} {g : Nat} {e : TypeId} {cur : List Value} (h : RowB w g e cur) (cs : List Value) : RowB (w.setRow g cs.toArray) g e cs := setRow_heap w g _ _ _ _ h
theorem RowB.cell {w : World} {g : Nat} {e : TypeId} {cur : List Value} (h : RowB w g e cur) {j : Nat} {u : Value} (hu : cur[j]? = some u) : w.cell? ⟨g, j, none⟩ = some u := by
  unfold RowB at h; simp [World.cell?, h, hu]
theorem RowB.drew {w : World} {g : Nat} {e : TypeId} {cur : List Value} (h : RowB w g e cur) : RowB w.drew g e cur := h
theorem run_copy_row {P : Program} (w : World) (dT sT ty e : TypeId) (size g o dLen dCap : Nat) (a : Addr) (sLen sCap : Nat) (cs cur : List Value)
    (hu : P.underlying dT = some (.slice e)) (hs : (P.info? e).map (·.size) = some size) (hrow : RowB w g e cur) (hn : cs.length = Nat.min sLen dLen * size)
    (hsrc : ∀ j v, cs[j]? = some v → w.cell? (a.add j) = some v) (hfit : o + cs.length ≤ cur.length) (h1 : ∀ v ∈ cs, v.oneCell' = true) :
    (Builtin.copy_ #[dT, sT] ty #[.slice (some ⟨g, o, none⟩) dLen dCap, .slice (some a) sLen sCap]).run P w = .ok (goInt (Nat.min sLen dLen)) (w.setRow g (spl cur o cs).toArray) := by
  have hf := run_firstCells_some (P := P) w size (Nat.min sLen dLen) a sLen sCap cs hn hsrc
  have hst := run_storeCells_at P g o e cs 0 cur.toArray w hrow (by simpa using hfit) h1
  cases hq : P.info? e with
  | none => simp [hq] at hs
  | some i =>
    have hsz : i.size = size := by simpa [hq] using hs
    simp only [Nat.add_zero] at hst
    simp [Builtin.copy_, run_underlying hu, sizeOf, typeInfo, hq, hsz, Builtin.lenOf, hf, hst, spl]
theorem run_clear_row {P : Program} (w : World) (t e ty : TypeId) (z : Value) (ht : P.underlying t = some (.slice e)) (hv : ∀ w, (zeroValue e).run P w = .ok z w) (g o n c : Nat) (cur : List Value) (hn : 0 < n)
    (hrow : RowB w g e cur) (hfit : o + (Builtin.zeroCells z.cells n).size ≤ cur.length) (h1 : ∀ v ∈ (Builtin.zeroCells z.cells n).toList, v.oneCell' = true) :
    (Builtin.clear_ #[t] ty #[.slice (some ⟨g, o, none⟩) n c]).run P w = .ok (.tuple #[]) (w.setRow g (spl cur o (Builtin.zeroCells z.cells n).toList).toArray) := by
  have hst := run_storeCells_at P g o e (Builtin.zeroCells z.cells n).toList 0 cur.toArray w hrow (by simpa using hfit) h1
  simp only [Nat.add_zero] at hst
  obtain ⟨m, rfl⟩ : ∃ m, n = m + 1 := ⟨n - 1, by omega⟩
  simp [Builtin.clear_, run_underlying ht, hv, hst, spl]
theorem run_app_row {P : Program} (w : World) (t ty e : TypeId) (i : TypeInfo) (ht : P.underlying t = some (.slice e)) (hi : P.info? e = some i)
    (g sLen sCap : Nat) (cur : List Value) (hg : RowB w g e cur) (a : Addr) (m c : Nat) (news : List Value) (hl : news.length = m * i.size) (hnews : ∀ j u, news[j]? = some u → w.cell? (a.add j) = some u) (h1 : ∀ u ∈ news, u.oneCell' = true)
    (hroom : sLen + m ≤ sCap) (hfit : sLen * i.size + news.length ≤ cur.length) :
    (Builtin.append_ #[t, t] ty #[.slice (some ⟨g, 0, none⟩) sLen sCap, .slice (some a) m c]).run P w = .ok (.slice (some ⟨g, 0, none⟩) (sLen + m) sCap) (w.setRow g (spl cur (sLen * i.size) news).toArray) := by
  have := run_append_room (P := P) w t ty e i ht hi g sLen sCap cur.toArray hg a m c news hl hnews h1 hroom (by simpa using hfit)
  simpa [spl] using this
theorem wp_clear_run {P : Program} (w : World) {o : Oper} {a : Act} {K : Act → World → Prop} {Q : Exit → Act → World → Prop} (d : Operand) (t : TypeId)
    (ho : o.op = .call { callee := .builtin .clear, args := #[d], argTypes := #[t] }) (v : Value) (hd : a.eval d = v) {v' : Value} {w' : World}
    (hr : (Builtin.clear_ #[t] o.type #[v]).run P w = .ok v' w') (h : K (a.put o.dst v') w') : o.wp P a w K Q := by
  unfold Oper.wp execOp
  simp only [ho, resolve, invoke, builtin, Sem.run_bind, Sem.run_pure, Result.andThen_ok, List.map_toArray, List.map_cons, List.map_nil, hd, hr]
  exact h
theorem wpList_clear_run {P : Program} (w : World) {ops : Array Oper} {rest : List Oper} {o : Oper} {a : Act} {Q : Exit → Act → World → Prop} (hgd : o.guard = none) (d : Operand) (t : TypeId)
    (ho : o.op = .call { callee := .builtin .clear, args := #[d], argTypes := #[t] }) (v : Value) (hd : a.eval d = v) {v' : Value} {w' : World}
    (hr : (Builtin.clear_ #[t] o.type #[v]).run P w = .ok v' w') (h : wpList P ops Q rest (a.put o.dst v') w') : wpList P ops Q (o :: rest) a w :=
  wpList_plain hgd fun _ hK => wp_clear_run w d t ho v hd hr (hK _ _ h)
theorem own_of_row {w : World} {B g e size n cap : Nat} {cur xs : List Value} (hrow : RowB w g e cur) (hB : B ≤ g) (hn : n ≤ cap) (hc : cap ≤ maxLen) (hl : cur.length = cap * size) (hx : xs.length = n * size) (ht : cur.take (n * size) = xs) :
    w.ownsRow B e size (.slice (some ⟨g, 0, none⟩) n cap) n xs := ⟨hx, .inr ⟨g, cap, cur.toArray, rfl, hB, hrow, hn, hc, by simpa using hl, by simpa using ht⟩⟩
/-- a row of one's own, opened -/
theorem own_row {w : World} {B e size n c : Nat} {a : Option Addr} {xs : List Value} (h : w.ownsRow B e size (.slice a n c) n xs) (hn : 0 < n) :
    ∃ g cur, a = some ⟨g, 0, none⟩ ∧ B ≤ g ∧ g < w.heap.size ∧ RowB w g e cur ∧ n ≤ c ∧ c ≤ maxLen ∧ cur.length = c * size ∧ cur.take (n * size) = xs := by
  have hlt := h.lt
  rcases h.2 with ⟨h1, _⟩ | ⟨g, cap, cur, h1, hb, hg, h2, h3, h4, h5⟩
  · injection h1 with _ h2 _; omega
  · injection h1 with e1 e2 e3
    subst e1; subst e3
    exact ⟨g, cur.toList, rfl, hb, (hlt g rfl).2, by simpa [RowB] using hg, h2, h3, by simpa using h4, h5⟩
theorem seg_of_take {w : World} {g e size n cap : Nat} {cur xs : List Value} (hrow : RowB w g e cur) (hn : n ≤ cap) (hc : cap ≤ maxLen) (hx : xs.length = n * size) (ht : cur.take (n * size) = xs) :
    Seg w (.slice (some ⟨g, 0, none⟩) n cap) size n xs := by
  refine ⟨hx, _, _, rfl, hn, hc, fun _ => ⟨g, 0, rfl, fun j u hu => ?_⟩⟩
  rw [← ht, List.getElem?_take] at hu
  split at hu
  · rw [Nat.zero_add]; exact hrow.cell hu
  · cases hu
end Go.Proofs.YtddghaoejnbkaaaGreatDoor

/- Contracts and lemmas for the proofs of this seat; each theorem states its own conditions. -/
namespace Go.Proofs.YtddghaoejnbkaaaGreatDoor
open Go.RowKit
theorem cP_take (l : Prs) (n : Nat) : (cP l).take (n * 2) = cP (l.take n) := by
  induction l generalizing n with
  | nil => simp [cP]
  | cons p l ih =>
    cases n with
    | zero => simp [cP]
    | succ n =>
      have := ih n
      rw [show (n + 1) * 2 = n * 2 + 1 + 1 from by omega]
      simpa [cP] using this
theorem cP_drop (l : Prs) (n : Nat) : (cP l).drop (n * 2) = cP (l.drop n) := by
  induction l generalizing n with
  | nil => simp [cP]
  | cons p l ih =>
    cases n with
    | zero => simp [cP]
    | succ n =>
      have := ih n
      rw [show (n + 1) * 2 = n * 2 + 1 + 1 from by omega]
      simpa [cP] using this
theorem cP_app (l m : Prs) : cP (l ++ m) = cP l ++ cP m := by simp [cP]
theorem infoP : (Tryz.prog.info? 62).map (fun i => (i.zero, i.size, i.bytes)) = some (some (.agg #[.string ⟨#[]⟩, .int .i64 0]), 2, 24) := by kernel_rfl
theorem zeroP (w : World) : (zeroValue 62).run Tryz.prog w = .ok (.agg #[.string ⟨#[]⟩, .int .i64 0]) w := by kernel_rfl
theorem zeroPc (n : Nat) : ∀ v ∈ (Builtin.zeroCells (Value.agg #[.string ⟨#[]⟩, .int .i64 0]).cells n).toList, v.oneCell' = true := by
  intro v hv
  have hc : (Value.agg #[.string ⟨#[]⟩, .int .i64 0]).cells = #[.string ⟨#[]⟩, .int .i64 0] := by kernel_rfl
  rw [hc] at hv
  simp only [Builtin.zeroCells, Array.toList_map, List.mem_map] at hv
  obtain ⟨i, _, rfl⟩ := hv
  have h2 : i % 2 = 0 ∨ i % 2 = 1 := by omega
  rcases h2 with h2 | h2 <;> simp [h2, Value.oneCell']
set_option maxRecDepth 100000 in
set_option maxHeartbeats 1000000 in
theorem delP_any (B c g : Nat) (l : Prs) (i : Nat) (w : World) (cur : List Value) (hrow : RowB w g 62 cur) (hB : B ≤ g) (hn : l.length ≤ c) (hc : c ≤ maxLen) (hl : cur.length = c * 2) (ht : cur.take (l.length * 2) = cP l)
    (hi : i < l.length) (hlen : l.length ≤ 1000000) :
    Calls Tryz.prog 170 #[.slice (some ⟨g, 0, none⟩) l.length c, .int .i64 i, .int .i64 ((i : Int) + 1)] w fun e w' =>
      ∃ v', e = .returned v' ∧ Seg w' v' 2 (l.length - 1) (cP (l.take i ++ l.drop (i + 1))) ∧ Below B w w' := by
  unfold maxLen at hc
  have q1 : ((i : Int) == (i : Int) + 1) = false := by simp; omega
  have q2 : (0 : Int) ≤ (i : Int) := by omega
  have q3 : (0 : Int) ≤ (i : Int) + 1 := by omega
  have q4 : (i : Int) ≤ (i : Int) + 1 := by omega
  have q5 : (i : Int) + 1 ≤ (l.length : Int) := by omega
  have q6 : (l.length : Int) ≤ (c : Int) := by omega
  have q7 : ((i : Int) + 1).toNat = i + 1 := by omega
  have HL := hid (And.intro hl ht)
  clear hl ht
  obtain ⟨ad, had, hcell⟩ : ∃ ad : Addr, ad = (if c = i + 1 then ⟨g, 0, none⟩ else ⟨g, (i + 1) * 2, none⟩) ∧ ∀ w', RowB w' g 62 cur → ∀ j u, (cP (l.drop (i + 1)))[j]? = some u → w'.cell? (ad.add j) = some u := by
    refine ⟨_, rfl, fun w' hr j u hu => ?_⟩
    by_cases hcc : c = i + 1
    · have : l.drop (i + 1) = [] := List.drop_of_length_le (by omega)
      rw [this] at hu; simp [cP] at hu
    · rw [if_neg hcc, addr_add]
      refine hr.cell ?_
      rw [← cP_drop, List.getElem?_drop, ← HL.out.2, List.getElem?_take] at hu
      split at hu
      · exact hu
      · cases hu
  have HAD := hid had
  clear had
  go_enter Tryz.func170, Tryz.ntmps170
  go_wp2_with fail
  refine wp_region_ph [.k (.slice (some ⟨g, 0, none⟩) l.length c), .k (.int .i64 i), .k (.slice (some ⟨g, 0, none⟩) i c), .k (.slice (some ⟨g, 0, none⟩) l.length c), .k (.int .i64 ((i : Int) + 1)), .k (.slice (some ad) (l.length - (i + 1)) (c - (i + 1)))] [] (by kernel_rfl) (by kernel_rfl) (by kernel_rfl) rfl rfl ?hs ?hC ?he
  case hC =>
    intro i hi
    simp at hi
  case hs =>
    refine ⟨?_, ?_, ?_, ?_, ?_, ?_, trivial⟩
    all_goals (
      intro x w' hE hd
      try simp [PhDeps, at_k, at_p, at_t, at_any, Region.binds] at hd
      try ((with_reducible refine Exists.elim hd ?_); clear hd; intro y hd; obtain ⟨hd, hG⟩ := hd)
      have had := HAD.out
      subst had
      first | simp only [frL, List.length_cons, List.length_nil, List.take_succ_cons, List.take_zero, Nat.reduceAdd, Nat.zero_add, List.setIfInBounds_toArray, List.set_cons_zero, List.set_cons_succ, hd] | simp only [frL, List.length_cons, List.length_nil, List.take_succ_cons, List.take_zero, Nat.reduceAdd, Nat.zero_add, List.setIfInBounds_toArray, List.set_cons_zero, List.set_cons_succ]
      go_wp2
      all_goals first
        | ((with_reducible refine phK ?_ ?_); (focus rfl); (repeat (first | (with_reducible assumption) | (with_reducible exact Ext.refl _) | (with_reducible refine Ext.drew ?_) | (with_reducible refine Ext.drewN ?_ _) | (with_reducible refine Ext.alloc ?_ _) | (with_reducible refine Ext.trans ?_ (by with_reducible assumption)))))
        | ((with_reducible refine phT rfl hG ?_); (repeat (first | (with_reducible assumption) | (with_reducible exact Ext.refl _) | (with_reducible refine Ext.drew ?_) | (with_reducible refine Ext.drewN ?_ _) | (with_reducible refine Ext.alloc ?_ _) | (with_reducible refine Ext.trans ?_ (by with_reducible assumption)))))
        | ((with_reducible refine phU hG ?_); (repeat (first | (with_reducible assumption) | (with_reducible exact Ext.refl _) | (with_reducible refine Ext.drew ?_) | (with_reducible refine Ext.drewN ?_ _) | (with_reducible refine Ext.alloc ?_ _) | (with_reducible refine Ext.trans ?_ (by with_reducible assumption)))))
        | (with_reducible exact phBox hE)
        | (with_reducible exact phRow hE))
  case he =>
    intro x w1 E1 hd
    simp [PhEnd, at_k, at_p, at_any] at hd
    have hrow1 : RowB w1 g 62 cur := E1.heap hrow
    have hnw := hcell w1 hrow1
    obtain ⟨ip, hip, _, hip2, _⟩ := info_parts infoP
    have hlen2 : (cP (l.drop (i + 1))).length = (l.length - (i + 1)) * 2 := by rw [cP_len, List.length_drop]
    have hcl : cur.length = c * 2 := HL.out.1
    have hrun := run_app_row (P := Tryz.prog) w1 36 36 62 ip Tryz.underlying36 hip g i c cur hrow1 ad (l.length - (i + 1)) (c - (i + 1)) (cP (l.drop (i + 1))) (by rw [hip2]; exact hlen2) hnw (cP_one _) (by omega) (by rw [hip2, hlen2]; omega)
    rw [hip2] at hrun
    have hrow2 := hrow1.set (spl cur (i * 2) (cP (l.drop (i + 1))))
    have hB2 : Below B w (w1.setRow g (spl cur (i * 2) (cP (l.drop (i + 1)))).toArray) := below_setRow (Below.mono E1 (by have := (Array.getElem?_eq_some_iff.1 hrow).1; omega)) hB _
    have hl2 : (spl cur (i * 2) (cP (l.drop (i + 1)))).length = c * 2 := by rw [spl_len (by rw [hlen2]; omega)]; exact hcl
    have ht2 : (spl cur (i * 2) (cP (l.drop (i + 1)))).take ((l.length - 1) * 2) = cP (l.take i ++ l.drop (i + 1)) := by
      have h1 := spl_take (cur := cur) (vs := cP (l.drop (i + 1))) (o := i * 2) (by rw [hlen2]; omega)
      rw [hlen2, show i * 2 + (l.length - (i + 1)) * 2 = (l.length - 1) * 2 from by omega] at h1
      rw [h1, cP_app, ← cP_take, ← HL.out.2, List.take_take, Nat.min_eq_left (by omega)]
    generalize spl cur (i * 2) (cP (l.drop (i + 1))) = cur2 at hrun hrow2 hB2 hl2 ht2
    generalize w1.setRow g cur2.toArray = w2 at hrun hrow2 hB2
    simp only [frL, List.length_cons, List.length_nil, List.take_succ_cons, List.take_zero, Nat.reduceAdd, Nat.zero_add, List.setIfInBounds_toArray, List.set_cons_zero, List.set_cons_succ, hd, List.length_cons, List.length_nil, List.drop_succ_cons, List.drop_zero]
    have HC := hid (And.intro hcl (And.intro hl2 ht2))
    have hsum : i + (l.length - (i + 1)) = l.length - 1 := by omega
    rw [hsum] at hrun
    clear hd hcl hl2 ht2 hlen2 hnw hip hip2 hsum
    have hr3 : ((l.length - 1 : Nat) : Int) = (l.length : Int) - 1 := by omega
    have hz2 : (Builtin.zeroCells (Value.agg #[.string ⟨#[]⟩, .int .i64 0]).cells (l.length - (l.length - 1))).size = (l.length - (l.length - 1)) * 2 := by
      rw [size_zeroCells]; rfl
    have hz3 : (Builtin.zeroCells (Value.agg #[.string ⟨#[]⟩, .int .i64 0]).cells (l.length - (l.length - 1))).toList.length = (l.length - (l.length - 1)) * 2 := hz2
    have hclr := fun ty => run_clear_row (P := Tryz.prog) w2 36 62 ty _ Tryz.underlying36 zeroP g ((l.length - 1) * 2) (l.length - (l.length - 1)) (c - (l.length - 1)) cur2 (by omega) hrow2 (by rw [hz2, HC.out.2.1]; omega) (zeroPc _)
    have hl3 := spl_len (cur := cur2) (o := (l.length - 1) * 2) (vs := (Builtin.zeroCells (Value.agg #[.string ⟨#[]⟩, .int .i64 0]).cells (l.length - (l.length - 1))).toList) (by rw [hz3, HC.out.2.1]; omega)
    have ht3 := spl_take_lo (cur := cur2) (o := (l.length - 1) * 2) (m := (l.length - 1) * 2) (vs := (Builtin.zeroCells (Value.agg #[.string ⟨#[]⟩, .int .i64 0]).cells (l.length - (l.length - 1))).toList) (by rw [HC.out.2.1]; omega) (Nat.le_refl _)
    have hrow3 := hrow2.set (spl cur2 ((l.length - 1) * 2) (Builtin.zeroCells (Value.agg #[.string ⟨#[]⟩, .int .i64 0]).cells (l.length - (l.length - 1))).toList)
    have hB3 := below_setRow hB2 hB (spl cur2 ((l.length - 1) * 2) (Builtin.zeroCells (Value.agg #[.string ⟨#[]⟩, .int .i64 0]).cells (l.length - (l.length - 1))).toList).toArray
    generalize spl cur2 ((l.length - 1) * 2) (Builtin.zeroCells (Value.agg #[.string ⟨#[]⟩, .int .i64 0]).cells (l.length - (l.length - 1))).toList = cur3 at hclr hl3 ht3 hrow3 hB3
    have HD := hid (And.intro hl3 ht3)
    have HCL := hid hclr
    clear hl3 ht3 hz2 hz3 hclr
    go_wp2_with (first | (at_builtin; refine Lib.wpList_append_run _ rfl _ _ _ _ rfl _ _ rfl rfl _ _ hrun ?_) | (refine wpList_clear_run w2 rfl _ _ rfl _ (by rfl) (HCL.out _) ?_))
    go_ret
    refine ⟨_, rfl, seg_of_take hrow3 (by omega) (by unfold maxLen; omega) ?_ ?_, hB3⟩
    · rw [cP_len, List.length_append, List.length_take, List.length_drop]; omega
    · rw [HD.out.2, HC.out.2.2]
end Go.Proofs.YtddghaoejnbkaaaGreatDoor
