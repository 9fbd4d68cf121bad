/- Contracts and lemmas for the proof of TextLines; each theorem states its own conditions. -/
import Derived.Test.YtnepdfpooobmcaaGreatDoorQTextLinesaj
import Derived.Test.YtnepdfpooobmcaaGreatDoorQTextLinesan
import Derived.Lib.AtoiErrMem
import Derived.Sort.Grow
set_option linter.unusedVariables false
set_option linter.unusedSimpArgs false
/- Contracts and lemmas for the proofs of this seat; each theorem states its own conditions. -/
namespace Go.Proofs.YtnepdfpooobmcaaGreatDoor
open Go.RowKit
/-! strconv.Itoa, strconv.Atoi, text.num, strings.Split -/
theorem grownX {w w' : World} (E : Ext w w') (row : Option Nat) : w.grownBy w' row := ⟨E.os, E.tape, E.output, E.size, fun k hk _ => E.block k hk⟩
theorem grownS (w : World) (p : Addr) (u : Value) : w.grownBy (w.setCell p u) (some p.block) :=
  ⟨rfl, rfl, rfl, by simp, fun k _ hne => Below.heap_setCell _ _ _ _ (fun e => hne (by rw [e]))⟩
/-- what the laid variables of the library hold -/
structure LaidT (w : World) : Prop where
  tab : Lib.TabIs Tryz.prog w "internal/strconv.uint64pow10" .u64 Lib.pow10Tab
  syn : ∃ te pe, w.cell? ⟨2, 0, none⟩ = some (.iface te pe)
  rng : ∃ te pe, w.cell? ⟨3, 0, none⟩ = some (.iface te pe)
  mx : ∃ m, w.cell? ⟨0, 0, none⟩ = some (.int .i64 m)
theorem var_ext {P : Program} {w w' : World} (E : Ext w w') {n : String} {cs : Array Value} (h : w.var? P n = some cs) : w'.var? P n = some cs := by
  unfold World.var? at h ⊢
  cases hg : P.globalNamed n with
  | none => simp [hg] at h
  | some g =>
    simp only [hg, Option.bind_some] at h ⊢
    cases hh : w.heap[g]? with
    | none => simp [hh] at h
    | some o => rw [E.heap hh]; rw [hh] at h; exact h
theorem LaidT.ext {w w' : World} (h : LaidT w) (E : Ext w w') : LaidT w' := by
  refine ⟨var_ext E h.tab, ?_, ?_, ?_⟩
  · obtain ⟨t, p, q⟩ := h.syn; exact ⟨t, p, E.cell q⟩
  · obtain ⟨t, p, q⟩ := h.rng; exact ⟨t, p, E.cell q⟩
  · obtain ⟨m, q⟩ := h.mx; exact ⟨m, E.cell q⟩
theorem ext_grow (w : World) (n : Nat) (os : Array Obj) : Ext w (Go.Sort.grow (w.drewN n) os) := by
  refine ⟨rfl, rfl, rfl, by simp [Go.Sort.grow, World.drewN], fun k hk => ?_⟩
  simp only [Go.Sort.grow, World.drewN]
  rw [Array.getElem?_append_left hk]
theorem itoa_any (n : Int) (w : World) (L : LaidT w) (h0 : -9223372036854775808 ≤ n) (h1 : n ≤ 9223372036854775807) :
    Calls Tryz.prog 97 #[.int .i64 n] w fun e w' => e = .returned (.string (bA (Lib.itoa n))) ∧ Ext w w' := by
  refine (Any.strconv_Itoa laysM171 n h0 h1 w L.tab).mono ?_
  rintro e w' ⟨rfl, k, os, rfl⟩
  exact ⟨rfl, ext_grow w k os⟩
theorem atoi_ok (s : ByteArray) (v : Int) (w : World) (hs : s.size ≤ 281474976710656) (h : Lib.atoiAll s.data.toList = .ok v) :
    Calls Tryz.prog 155 #[.string s] w fun e w' => e = .returned (.tuple #[.int .i64 v, .nilIface]) ∧ Ext w w' := by
  refine (Any.strconv_Atoi_ok laysC172 s (by omega) v h w).mono ?_
  rintro e w' ⟨rfl, rfl | ⟨t, rfl⟩⟩
  · exact ⟨rfl, Ext.refl _⟩
  · exact ⟨rfl, Lib.bytesWorld_below w _ t⟩
theorem atoi_no (s : ByteArray) (w : World) (L : LaidT w) (hs : s.size ≤ 281474976710656) (h : ∀ v, Lib.atoiAll s.data.toList ≠ .ok v) :
    Calls Tryz.prog 155 #[.string s] w fun e w' => ∃ n t p, e = .returned (.tuple #[.int .i64 n, .iface t p]) ∧ Ext w w' := by
  rcases hh : Lib.atoiAll s.data.toList with v | _ | _
  · exact absurd hh (h v)
  · obtain ⟨te, pe, hc⟩ := L.syn
    refine (Any.strconv_Atoi_syntax laysC172 s hs hh _ w hc (.inr ⟨te, pe, rfl⟩)).mono ?_
    rintro e w' ⟨N, rfl, _, _, E⟩
    exact ⟨_, _, _, rfl, E⟩
  · obtain ⟨te, pe, hc⟩ := L.rng
    refine (Any.strconv_Atoi_range laysC172 s hs hh _ w hc (.inr ⟨te, pe, rfl⟩)).mono ?_
    rintro e w' ⟨N, rfl, _, _, E⟩
    exact ⟨_, _, _, rfl, E⟩
theorem split_any (s : ByteArray) (c : UInt8) (w : World) (L : LaidT w) (hs : s.size < 4294967281) :
    Calls Tryz.prog 98 #[.string s, .string ⟨#[c]⟩] w fun e w' => e = .returned (.slice (some ⟨w.heap.size, 0, none⟩) (pcs s c).length (pcs s c).length) ∧ Seg w' (.slice (some ⟨w.heap.size, 0, none⟩) (pcs s c).length (pcs s c).length) 1 (pcs s c).length (cS (pcs s c)) ∧ Ext w w' := by
  obtain ⟨m, hm⟩ := L.mx
  refine (Any.strings_Split lays146 (by kernel_rfl) s ⟨#[c]⟩ m w hs hm (Nat.le_refl 1)).mono ?_
  rintro e w' ⟨rfl, rfl⟩
  have hl := pcs_len s c
  rw [← hl]
  refine ⟨rfl, ?_, (Ext.refl w).alloc _⟩
  have hle := Lib.countB_le ⟨#[c]⟩ (Nat.le_refl 1) s.size s (Nat.le_refl _)
  exact seg_blk (heap_alloc_new w _) (by simp [cS]) (Nat.le_refl _) (by unfold maxLen; omega)
set_option maxRecDepth 10000 in
theorem num_yes (s : ByteArray) (v : Int) (w : World) (L : LaidT w) (hs : s.size ≤ 281474976710656) (h : numL s.data.toList = some v) :
    Calls Tryz.prog 100 #[.string s] w fun e w' => e = .returned (.tuple #[.int .i64 v, .bool true]) ∧ Ext w w' := by
  obtain ⟨h1, h2, h3⟩ := numL_some h
  have AT := hid (atoi_ok s v w hs h3)
  have hb := Lib.atoiAll_bounds h3
  have IT := hid (fun w' (q : Ext w w') => itoa_any v w' (L.ext q) hb.1 hb.2)
  have hsl : s.data.toList.length = s.size := by simp [← ByteArray.size_data]
  have hsz : (s.size : Int) ≤ 11 := by omega
  have e1 : bA (Lib.itoa v) = s := by rw [h1, bA_data]
  rw [e1] at IT
  have q : (s.toList == s.toList) = true := by simp
  clear h1 h2 h3 hb h e1 hsl
  go_enter Tryz.func100, Tryz.ntmps100
  go_wp2_with fail
  refine (AT.out).mono ?_
  rintro e w1 ⟨rfl, E1⟩
  have IT1 := hid (IT.out w1 E1)
  clear AT IT
  go_wp2_with fail
  refine (IT1.out).mono ?_
  rintro e w2 ⟨rfl, E2⟩
  go_wp2
  go_ret2
  exact ⟨rfl, E1.trans E2⟩
set_option maxRecDepth 10000 in
theorem num_no (s : ByteArray) (w : World) (L : LaidT w) (hs : s.size ≤ 281474976710656) (h : numL s.data.toList = none) :
    Calls Tryz.prog 100 #[.string s] w fun e w' => ∃ n, e = .returned (.tuple #[.int .i64 n, .bool false]) ∧ Ext w w' := by
  by_cases hv : ∃ v, Lib.atoiAll s.data.toList = .ok v
  · obtain ⟨v, hv⟩ := hv
    have AT := hid (atoi_ok s v w hs hv)
    have hb := Lib.atoiAll_bounds hv
    have IT := hid (fun w' (q : Ext w w') => itoa_any v w' (L.ext q) hb.1 hb.2)
    have hsz : s.data.toList.length = s.size := by simp [← ByteArray.size_data]
    unfold numL at h
    rw [hv] at h
    simp only at h
    by_cases h11 : (s.size : Int) ≤ 11
    · have hne : ¬ (bA (Lib.itoa v)).toList = s.toList := by
        intro e
        have e1 := toList_inj e
        rw [if_pos ⟨by omega, by rw [← e1, bA_toL]⟩] at h
        cases h
      have q : ((bA (Lib.itoa v)).toList == s.toList) = false := by simp [hne]
      clear h hv hb hsz hne
      go_enter Tryz.func100, Tryz.ntmps100
      go_wp2_with fail
      refine (AT.out).mono ?_
      rintro e w1 ⟨rfl, E1⟩
      have IT1 := hid (IT.out w1 E1)
      clear AT IT
      go_wp2_with fail
      refine (IT1.out).mono ?_
      rintro e w2 ⟨rfl, E2⟩
      go_wp2
      go_ret2
      first | exact ⟨_, rfl, E1.trans E2⟩ | exact ⟨⟨_, rfl⟩, E1.trans E2⟩
    · clear h hv hb hsz IT
      go_enter Tryz.func100, Tryz.ntmps100
      go_wp2_with fail
      refine (AT.out).mono ?_
      rintro e w1 ⟨rfl, E1⟩
      clear AT
      go_wp2
      go_ret2
      first | exact ⟨_, rfl, E1⟩ | exact ⟨⟨_, rfl⟩, E1⟩
  · have AT := hid (atoi_no s w L hs (fun v hh => hv ⟨v, hh⟩))
    clear h hv
    go_enter Tryz.func100, Tryz.ntmps100
    go_wp2_with fail
    refine (AT.out).mono ?_
    rintro e w1 ⟨n, t, p, rfl, E1⟩
    clear AT
    go_wp2
    go_ret2
    first | exact ⟨_, rfl, E1⟩ | exact ⟨⟨_, rfl⟩, E1⟩
end Go.Proofs.YtnepdfpooobmcaaGreatDoor
