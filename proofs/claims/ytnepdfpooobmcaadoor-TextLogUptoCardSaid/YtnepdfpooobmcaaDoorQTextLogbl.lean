/- Contracts and lemmas for the proof of TextLog; each theorem states its own conditions. -/
import Derived.Test.YtnepdfpooobmcaaDoorQTextLogbf
import Derived.Test.YtnepdfpooobmcaaDoorQTextLogbk
set_option linter.unusedVariables false
set_option linter.unusedSimpArgs false
/- Contracts and lemmas for the proofs of this seat; each theorem states its own conditions. -/
namespace Go.Proofs.YtnepdfpooobmcaaDoor
open Go.RowKit
/-! text.Entry -/
/-- what stands in a line before its sum -/
def bodyT (x : Ent) : List UInt8 := if x.im = true then 109 :: 97 :: 112 :: 32 :: mapT x.cuts x.own else dT x.ops
/-- a line of a body -/
def lineT (b : List UInt8) : List UInt8 := b ++ 32 :: (Lib.itoa (sbL b) ++ [10])
def entT (x : Ent) : List UInt8 := lineT (bodyT x)
def entS (x : Ent) : ByteArray := if entE x = 0 then bA (entT x) else ⟨#[]⟩
theorem sbL_lt (l : List UInt8) : sbL l < 65521 := sbTo_lt l _
theorem mapT_len {C : List ByteArray} {O : List Int} (h : MapOk C O) : (mapT C O).length ≤ 400 := by
  have := mapTo_len h C.length (Nat.le_refl _)
  have := h.few
  rw [← mapTo_all h.len]
  omega
theorem mapS_size (C : List ByteArray) (O : List Int) : (mapS C O).size ≤ 400 := by
  unfold mapS
  split
  · rename_i h; rw [bA_size]; exact mapT_len (ok_of_mapErr h)
  · exact Nat.zero_le _
theorem dS_size (d : Ops) (hn : ∀ o ∈ d, -9223372036854775808 ≤ o.n ∧ o.n ≤ 9223372036854775807) : (dS d).size ≤ 400 := by
  unfold dS
  split
  · rename_i h; rw [bA_size]; exact dT_len (deed_ok h) hn
  · exact Nat.zero_le _
theorem line_bA (s : ByteArray) : s ++ ⟨#[32]⟩ ++ bA (Lib.itoa (sbL s.data.toList)) ++ ⟨#[10]⟩ = bA (lineT s.data.toList) := by
  refine bA_eq ?_
  simp [bA_toL, lineT, ByteArray.data_append]
theorem entS_no {x : Ent} (h : entE x ≠ 0) : entS x = ⟨#[]⟩ := if_neg h
theorem entS_map {x : Ent} (hi : x.im = true) (h : entE x = 0) : entS x = (⟨#[109, 97, 112, 32]⟩ ++ mapS x.cuts x.own) ++ ⟨#[32]⟩ ++ bA (Lib.itoa (sbL (⟨#[109, 97, 112, 32]⟩ ++ mapS x.cuts x.own : ByteArray).data.toList)) ++ ⟨#[10]⟩ := by
  have he : mapErr x.cuts x.own = 0 := by rw [entE, if_pos hi] at h; exact h
  rw [line_bA, entS, if_pos h, entT, bodyT, if_pos hi, mapS, if_pos he]
  simp [ByteArray.data_append, bA_toL]
theorem entS_deed {x : Ent} (hi : ¬ x.im = true) (h : entE x = 0) : entS x = dS x.ops ++ ⟨#[32]⟩ ++ bA (Lib.itoa (sbL (dS x.ops).data.toList)) ++ ⟨#[10]⟩ := by
  have he : deedE x.ops = 0 := by rw [entE, if_neg hi] at h; exact h
  rw [line_bA, entS, if_pos h, entT, bodyT, if_neg hi, dS, if_pos he, bA_toL]
set_option maxRecDepth 100000 in
set_option maxHeartbeats 2000000 in
theorem tentry_any (e : EV) (x : Ent) (w : World) (L : LaidT w) (h : EntSeg w e x) (sz : EntSz x) (hn : ∀ o ∈ x.ops, -9223372036854775808 ≤ o.n ∧ o.n ≤ 9223372036854775807) :
    Calls Tryd.prog 18 #[evV e] w fun r w' => r = .returned (.tuple #[.string (entS x), .int .i64 (entE x)]) ∧ Ext w w' := by
  obtain ⟨v1, b, v2, v3⟩ := e
  obtain ⟨h1, hb, h2, h3⟩ := h
  dsimp only at h1 hb h2 h3
  have b0 := heap_alloc_new w (.cells #[v1, .bool b, v2, v3] 46)
  have E0 := (Ext.refl w).alloc (.cells #[v1, .bool b, v2, v3] 46)
  have k0 := hid (fun w' (q : Ext _ w') => blk4 (q.heap b0))
  have HE0 := hid E0
  have C1 := hid (fun w' (q : Ext w w') => tmap_any (.agg #[v2, v3]) x.cuts x.own w' (L.ext q) ⟨v2, v3, rfl, h2.ext q, h3.ext q⟩ sz.cuts)
  have C2 := hid (tdeed_any v1 x.ops _ (L.ext E0) (h1.ext E0) sz.ops hn)
  have IT := hid (fun (n : Nat) (hn : n < 65521) w' (q : Ext w w') => itoa_any n w' (L.ext q) (by omega) (by omega))
  show Calls _ _ #[.agg #[v1, .bool b, v2, v3]] _ _
  have hz2 := dS_size x.ops hn
  have hz1 := mapS_size x.cuts x.own
  have c0 := blk4 b0
  cases b with
  | true =>
    have hE : entE x = mapErr x.cuts x.own := by rw [entE, if_pos hb.symm]
    have HS := hid (entS_map hb.symm)
    have HN := hid (@entS_no x)
    rw [hE] at HS HN ⊢
    generalize mapErr x.cuts x.own = me at C1 HS HN
    generalize mapS x.cuts x.own = M at C1 HS hz1
    generalize dS x.ops = D at C2 hz2
    generalize deedE x.ops = de at C2
    have z1 : ¬ 9223372036854775807 < 4 + M.size := by omega
    clear h1 h2 h3 hb hE sz L hn b0 E0
    by_cases hm : me = 0
    · obtain rfl := hm
      have HR := hid (HS.out rfl)
      have hMs : (⟨#[109, 97, 112, 32]⟩ ++ M : ByteArray).size = 4 + M.size := by rw [ByteArray.size_append]; rfl
      have HMS := hid hMs
      have TS := hid (fun w' => tsum_any (⟨#[109, 97, 112, 32]⟩ ++ M) w' (by omega))
      have hsl := sbL_lt (⟨#[109, 97, 112, 32]⟩ ++ M : ByteArray).data.toList
      generalize sbL (⟨#[109, 97, 112, 32]⟩ ++ M : ByteArray).data.toList = sv at HR TS hsl
      have ht := itoa_len21 (n := sv) (by omega) (by omega)
      rw [← bA_size] at ht
      have IT1 := hid (fun w' q => IT.out sv hsl w' q)
      generalize bA (Lib.itoa sv) = T at HR IT1 ht
      have z2 : ¬ 9223372036854775807 < 4 + M.size + 1 := by omega
      have z3 : ¬ 9223372036854775807 < 4 + M.size + 1 + T.size := by omega
      have z4 : ¬ 9223372036854775807 < 4 + M.size + 1 + T.size + 1 := by omega
      clear hMs IT HS HN
      go_enter Tryd.func18, Tryd.ntmps18
      go_wp2_with fail
      refine (C2.out).mono ?_
      clear C2
      rintro r w1 ⟨rfl, E1⟩
      have HE1 := hid (HE0.out.trans E1)
      have c1 := k0.out w1 E1
      have C11 := hid (C1.out w1 HE1.out)
      clear E1 C1 c0 k0
      go_wp2_with fail
      refine (C11.out).mono ?_
      clear C11
      rintro r w2 ⟨rfl, E2⟩
      have HE2 := hid (HE1.out.trans E2)
      have IT2 := hid (IT1.out w2 HE2.out)
      clear E2 IT1 c1
      go_wp2_with fail
      refine (TS.out w2).mono ?_
      clear TS
      rintro r w3 ⟨rfl, rfl⟩
      go_wp2_with fail
      refine (IT2.out).mono ?_
      clear IT2
      rintro r w4 ⟨rfl, E4⟩
      have HE4 := hid (HE2.out.trans E4)
      go_wp2
      go_ret2
      exact ⟨by rw [HR.out]; rfl, HE4.out⟩
    · have HR := hid (HN.out hm)
      have q : (me != 0) = true := by simp [hm]
      clear IT HS HN hm
      go_enter Tryd.func18, Tryd.ntmps18
      go_wp2_with fail
      refine (C2.out).mono ?_
      clear C2
      rintro r w1 ⟨rfl, E1⟩
      have HE1 := hid (HE0.out.trans E1)
      have c1 := k0.out w1 E1
      have C11 := hid (C1.out w1 HE1.out)
      clear E1 C1 c0 k0
      go_wp2_with fail
      refine (C11.out).mono ?_
      clear C11
      rintro r w2 ⟨rfl, E2⟩
      have HE2 := hid (HE1.out.trans E2)
      clear E2 c1
      go_wp2
      go_ret2
      exact ⟨by rw [HR.out]; rfl, HE2.out⟩
  | false =>
    have hE : entE x = deedE x.ops := by rw [entE, if_neg (by rw [← hb]; decide)]
    have HS := hid (entS_deed (x := x) (by rw [← hb]; decide))
    have HN := hid (@entS_no x)
    rw [hE] at HS HN ⊢
    generalize dS x.ops = D at C2 hz2 HS
    generalize deedE x.ops = de at C2 HS HN
    clear h1 h2 h3 hb hE sz L hn b0 E0 C1
    by_cases hm : de = 0
    · obtain rfl := hm
      have HR := hid (HS.out rfl)
      have TS := hid (fun w' => tsum_any D w' (by omega))
      have hsl := sbL_lt D.data.toList
      generalize sbL D.data.toList = sv at HR TS hsl
      have ht := itoa_len21 (n := sv) (by omega) (by omega)
      rw [← bA_size] at ht
      have IT1 := hid (fun w' q => IT.out sv hsl w' q)
      generalize bA (Lib.itoa sv) = T at HR IT1 ht
      have z2 : ¬ 9223372036854775807 < D.size + 1 := by omega
      have z3 : ¬ 9223372036854775807 < D.size + 1 + T.size := by omega
      have z4 : ¬ 9223372036854775807 < D.size + 1 + T.size + 1 := by omega
      clear IT HS HN
      go_enter Tryd.func18, Tryd.ntmps18
      go_wp2_with fail
      refine (C2.out).mono ?_
      clear C2
      rintro r w1 ⟨rfl, E1⟩
      have HE1 := hid (HE0.out.trans E1)
      have c1 := k0.out w1 E1
      have IT2 := hid (IT1.out w1 HE1.out)
      clear E1 c0 k0 IT1
      go_wp2_with fail
      refine (TS.out w1).mono ?_
      clear TS
      rintro r w3 ⟨rfl, rfl⟩
      go_wp2_with fail
      refine (IT2.out).mono ?_
      clear IT2
      rintro r w4 ⟨rfl, E4⟩
      have HE4 := hid (HE1.out.trans E4)
      go_wp2
      go_ret2
      exact ⟨by rw [HR.out]; rfl, HE4.out⟩
    · have HR := hid (HN.out hm)
      have q : (de != 0) = true := by simp [hm]
      clear IT HS HN hm
      go_enter Tryd.func18, Tryd.ntmps18
      go_wp2_with fail
      refine (C2.out).mono ?_
      clear C2
      rintro r w1 ⟨rfl, E1⟩
      have HE1 := hid (HE0.out.trans E1)
      have c1 := k0.out w1 E1
      clear E1 c0 k0
      go_wp2
      go_ret2
      exact ⟨by rw [HR.out]; rfl, HE1.out⟩
end Go.Proofs.YtnepdfpooobmcaaDoor
