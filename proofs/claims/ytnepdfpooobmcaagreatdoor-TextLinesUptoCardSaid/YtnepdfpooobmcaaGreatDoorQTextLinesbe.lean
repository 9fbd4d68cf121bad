/- Contracts and lemmas for the proof of TextLines; each theorem states its own conditions. -/
import Derived.Test.YtnepdfpooobmcaaGreatDoorQTextLinesbd
import Derived.Test.YtnepdfpooobmcaaGreatDoorQTextLinesaf
import Derived.Test.YtnepdfpooobmcaaGreatDoorQTextLinesaa
import Derived.Test.YtnepdfpooobmcaaGreatDoorQTextLinesbb
import Derived.Test.YtnepdfpooobmcaaGreatDoorQTextLinesal
import Derived.Test.YtnepdfpooobmcaaGreatDoorQTextLinesaz
set_option linter.unusedVariables false
set_option linter.unusedSimpArgs false
/- Contracts and lemmas for the proofs of this seat; each theorem states its own conditions. -/
namespace Go.Proofs.YtnepdfpooobmcaaGreatDoor
open Go.RowKit
theorem grown_extR {a b c : World} {row : Option Nat} (h : a.grownBy b row) (E : Ext b c) : a.grownBy c row :=
  ⟨E.os.trans h.os, E.tape.trans h.tape, E.output.trans h.output, Nat.le_trans h.size E.size', fun j hj hne => (Below.block E j (Nat.lt_of_lt_of_le hj h.size)).trans (h.block j hj hne)⟩
end Go.Proofs.YtnepdfpooobmcaaGreatDoor

/- Contracts and lemmas for the proofs of this seat; each theorem states its own conditions. -/
namespace Go.Proofs.YtnepdfpooobmcaaGreatDoor
open Go.RowKit
/-! a region that draws its order, in which one operation (m) turns what lies there and the last one (z) stores: all others only read and make -/
def TPost (P : Program) (l : List Oper) (t0 : Array Value) (ds : List Deferred) (x : Nat → Value) (o : Oper) (R : Value → World → Prop) (w : World) : Prop :=
  wpList P l.toArray (fun e a' w' => e = .normal ∧ ∃ v, a' = (⟨frL x l 0 t0, ds⟩ : Act).put o.dst v ∧ R v w') [o] ⟨frL x l 0 t0, ds⟩ w
theorem TPost.mono {P : Program} {l : List Oper} {t0 : Array Value} {ds : List Deferred} {x : Nat → Value} {o : Oper} {R R' : Value → World → Prop} {w : World} (h : TPost P l t0 ds x o R w) (k : ∀ v w', R v w' → R' v w') : TPost P l t0 ds x o R' w := by
  unfold TPost wpList at *
  split
  · rename_i hw
    rw [if_pos hw] at h
    rcases h with h | ⟨_, h⟩
    · left
      refine Oper.upon_both (fun a' w'' hh => ?_) (fun e a' w'' hne hh => ?_) h
      · obtain ⟨h1, v, h2, h3⟩ := hh
        exact ⟨h1, v, h2, k _ _ h3⟩
      · exact absurd hh.1 hne
    · obtain ⟨a', w'', he, _⟩ := h; cases he
  · rename_i hw
    rw [if_neg hw] at h
    obtain ⟨h1, v, h2, h3⟩ := h
    exact ⟨h1, v, h2, k _ _ h3⟩
end Go.Proofs.YtnepdfpooobmcaaGreatDoor

/- Contracts and lemmas for the proofs of this seat; each theorem states its own conditions. -/
namespace Go.Proofs.YtnepdfpooobmcaaGreatDoor
open Go.RowKit
/-! a region that draws its order, of the form a[i] = append(a[i], f(x)): p calls, q makes a block of what p gave, m turns, z (the last one) stores -/
end Go.Proofs.YtnepdfpooobmcaaGreatDoor

/- Contracts and lemmas for the proofs of this seat; each theorem states its own conditions. -/
namespace Go.Proofs.YtnepdfpooobmcaaGreatDoor
open Go.RowKit
variable {eB : Nat}
/-! merge: an entry added, a batch closed, in memory -/
end Go.Proofs.YtnepdfpooobmcaaGreatDoor

/- Contracts and lemmas for the proofs of this seat; each theorem states its own conditions. -/
namespace Go.Proofs.YtnepdfpooobmcaaGreatDoor
open Go.RowKit
variable {eB : Nat}
/-! merge.Close -/
/-- a row appended to: what it is, what has turned, where it lies -/
structure AppM (w : World) (e sz n : Nat) (xs : List Value) (r v : Value) (w' : World) : Prop where
  own : w'.ownsRow 0 e sz v n xs
  grown : w.grownBy w' r.ownBlock
  lies : ∀ k, v.ownBlock = some k → r.ownBlock = some k ∨ w.heap.size ≤ k
theorem AppM.ext {w : World} {e sz n : Nat} {xs : List Value} {r v : Value} {a b : World} (h : AppM w e sz n xs r v a) (E : Ext a b) : AppM w e sz n xs r v b := ⟨own_ext h.own E, grown_extR h.grown E, h.lies⟩
/-- a block that stands -/
def NewC (cs : Array Value) (e m : Nat) (v : Value) (w : World) : Prop := ∃ b, v = .slice (some ⟨b, 0, none⟩) m m ∧ w.heap[b]? = some (.cells cs e (0, 0))
theorem NewC.ext {cs : Array Value} {e m : Nat} {v : Value} {a b : World} (h : NewC cs e m v a) (E : Ext a b) : NewC cs e m v b := by
  obtain ⟨c, e, h⟩ := h
  exact ⟨c, e, E.heap h⟩
end Go.Proofs.YtnepdfpooobmcaaGreatDoor

/- Contracts and lemmas for the proofs of this seat; each theorem states its own conditions. -/
namespace Go.Proofs.YtnepdfpooobmcaaGreatDoor
open Go.RowKit
variable {eB : Nat}
/-! merge.check, merge.Add, merge.New -/
def entE (x : Ent) : Int := if x.im = true then mapErr x.cuts x.own else deedE x.ops
structure EntSz (x : Ent) : Prop where
  ops : opsSm x.ops
  cuts : ∀ k ∈ x.cuts, k.size ≤ 9223372036854775807
/-- a merge's entry that has been made -/
def NewE (eB : Nat) (y : Ent) (u : Value) (w : World) : Prop := ∃ e', u = evV e' ∧ EntSt eB w e' y
theorem NewE.ext {y : Ent} {u : Value} {a b : World} (h : NewE eB y u a) (E : Ext a b) : NewE eB y u b := by
  obtain ⟨e, h1, h2⟩ := h
  exact ⟨e, h1, h2.ext E⟩
def NewEB (eB : Nat) (y : Ent) (v : Value) (w : World) : Prop := ∃ e' b, EntSt eB w e' y ∧ v = .slice (some ⟨b, 0, none⟩) 1 1 ∧ w.heap[b]? = some (.cells (evC e').toArray 45 (0, 0))
theorem NewEB.ext {y : Ent} {v : Value} {a b : World} (h : NewEB eB y v a) (E : Ext a b) : NewEB eB y v b := by
  obtain ⟨e, k, h1, h2, h3⟩ := h
  exact ⟨e, k, h1.ext E, h2, E.heap h3⟩
def AppE (eB : Nat) (w : World) (y : Ent) (n : Nat) (es : List EV) (r v : Value) (w' : World) : Prop := ∃ e', AppM w 45 4 (n + 1) (cEn es ++ evC e') r v w' ∧ EntSt eB w' e' y
theorem AppE.ext {w : World} {y : Ent} {n : Nat} {es : List EV} {r v : Value} {a b : World} (h : AppE eB w y n es r v a) (E : Ext a b) : AppE eB w y n es r v b := by
  obtain ⟨e, h1, h2⟩ := h
  exact ⟨e, h1.ext E, h2.ext E⟩
end Go.Proofs.YtnepdfpooobmcaaGreatDoor

/- Contracts and lemmas for the proofs of this seat; each theorem states its own conditions. -/
namespace Go.Proofs.YtnepdfpooobmcaaGreatDoor
open Go.RowKit
/-! text.Entry -/
/-- what stands in a line before its sum -/
def bodyT (x : Ent) : List UInt8 := if x.im = true then 109 :: 97 :: 112 :: 32 :: mapT x.cuts x.own else dT x.ops
/-- a line of a body -/
def lineT (b : List UInt8) : List UInt8 := b ++ 32 :: (Lib.itoa (sbL b) ++ [10])
def entT (x : Ent) : List UInt8 := lineT (bodyT x)
def entS (x : Ent) : ByteArray := if entE x = 0 then bA (entT x) else ⟨#[]⟩
theorem sbL_lt (l : List UInt8) : sbL l < 65521 := sbTo_lt l _
theorem mapT_len {C : List ByteArray} {O : List Int} (h : MapOk C O) : (mapT C O).length ≤ 400 := by
  have := mapTo_len h C.length (Nat.le_refl _)
  have := h.few
  rw [← mapTo_all h.len]
  omega
theorem mapS_size (C : List ByteArray) (O : List Int) : (mapS C O).size ≤ 400 := by
  unfold mapS
  split
  · rename_i h; rw [bA_size]; exact mapT_len (ok_of_mapErr h)
  · exact Nat.zero_le _
theorem dS_size (d : Ops) (hn : ∀ o ∈ d, -9223372036854775808 ≤ o.n ∧ o.n ≤ 9223372036854775807) : (dS d).size ≤ 400 := by
  unfold dS
  split
  · rename_i h; rw [bA_size]; exact dT_len (deed_ok h) hn
  · exact Nat.zero_le _
theorem line_bA (s : ByteArray) : s ++ ⟨#[32]⟩ ++ bA (Lib.itoa (sbL s.data.toList)) ++ ⟨#[10]⟩ = bA (lineT s.data.toList) := by
  refine bA_eq ?_
  simp [bA_toL, lineT, ByteArray.data_append]
theorem entS_no {x : Ent} (h : entE x ≠ 0) : entS x = ⟨#[]⟩ := if_neg h
theorem entS_map {x : Ent} (hi : x.im = true) (h : entE x = 0) : entS x = (⟨#[109, 97, 112, 32]⟩ ++ mapS x.cuts x.own) ++ ⟨#[32]⟩ ++ bA (Lib.itoa (sbL (⟨#[109, 97, 112, 32]⟩ ++ mapS x.cuts x.own : ByteArray).data.toList)) ++ ⟨#[10]⟩ := by
  have he : mapErr x.cuts x.own = 0 := by rw [entE, if_pos hi] at h; exact h
  rw [line_bA, entS, if_pos h, entT, bodyT, if_pos hi, mapS, if_pos he]
  simp [ByteArray.data_append, bA_toL]
theorem entS_deed {x : Ent} (hi : ¬ x.im = true) (h : entE x = 0) : entS x = dS x.ops ++ ⟨#[32]⟩ ++ bA (Lib.itoa (sbL (dS x.ops).data.toList)) ++ ⟨#[10]⟩ := by
  have he : deedE x.ops = 0 := by rw [entE, if_neg hi] at h; exact h
  rw [line_bA, entS, if_pos h, entT, bodyT, if_neg hi, dS, if_pos he, bA_toL]
set_option maxRecDepth 100000 in
set_option maxHeartbeats 2000000 in
theorem tentry_any (e : EV) (x : Ent) (w : World) (L : LaidT w) (h : EntSeg w e x) (sz : EntSz x) (hn : ∀ o ∈ x.ops, -9223372036854775808 ≤ o.n ∧ o.n ≤ 9223372036854775807) :
    Calls Tryz.prog 19 #[evV e] w fun r w' => r = .returned (.tuple #[.string (entS x), .int .i64 (entE x)]) ∧ Ext w w' := by
  obtain ⟨v1, b, v2, v3⟩ := e
  obtain ⟨h1, hb, h2, h3⟩ := h
  dsimp only at h1 hb h2 h3
  have b0 := heap_alloc_new w (.cells #[v1, .bool b, v2, v3] 45)
  have E0 := (Ext.refl w).alloc (.cells #[v1, .bool b, v2, v3] 45)
  have k0 := hid (fun w' (q : Ext _ w') => blk4 (q.heap b0))
  have HE0 := hid E0
  have C1 := hid (fun w' (q : Ext w w') => tmap_any (.agg #[v2, v3]) x.cuts x.own w' (L.ext q) ⟨v2, v3, rfl, h2.ext q, h3.ext q⟩ sz.cuts)
  have C2 := hid (tdeed_any v1 x.ops _ (L.ext E0) (h1.ext E0) sz.ops hn)
  have IT := hid (fun (n : Nat) (hn : n < 65521) w' (q : Ext w w') => itoa_any n w' (L.ext q) (by omega) (by omega))
  show Calls _ _ #[.agg #[v1, .bool b, v2, v3]] _ _
  have hz2 := dS_size x.ops hn
  have hz1 := mapS_size x.cuts x.own
  have c0 := blk4 b0
  cases b with
  | true =>
    have hE : entE x = mapErr x.cuts x.own := by rw [entE, if_pos hb.symm]
    have HS := hid (entS_map hb.symm)
    have HN := hid (@entS_no x)
    rw [hE] at HS HN ⊢
    generalize mapErr x.cuts x.own = me at C1 HS HN
    generalize mapS x.cuts x.own = M at C1 HS hz1
    generalize dS x.ops = D at C2 hz2
    generalize deedE x.ops = de at C2
    have z1 : ¬ 9223372036854775807 < 4 + M.size := by omega
    clear h1 h2 h3 hb hE sz L hn b0 E0
    by_cases hm : me = 0
    · obtain rfl := hm
      have HR := hid (HS.out rfl)
      have hMs : (⟨#[109, 97, 112, 32]⟩ ++ M : ByteArray).size = 4 + M.size := by rw [ByteArray.size_append]; rfl
      have HMS := hid hMs
      have TS := hid (fun w' => tsum_any (⟨#[109, 97, 112, 32]⟩ ++ M) w' (by omega))
      have hsl := sbL_lt (⟨#[109, 97, 112, 32]⟩ ++ M : ByteArray).data.toList
      generalize sbL (⟨#[109, 97, 112, 32]⟩ ++ M : ByteArray).data.toList = sv at HR TS hsl
      have ht := itoa_len21 (n := sv) (by omega) (by omega)
      rw [← bA_size] at ht
      have IT1 := hid (fun w' q => IT.out sv hsl w' q)
      generalize bA (Lib.itoa sv) = T at HR IT1 ht
      have z2 : ¬ 9223372036854775807 < 4 + M.size + 1 := by omega
      have z3 : ¬ 9223372036854775807 < 4 + M.size + 1 + T.size := by omega
      have z4 : ¬ 9223372036854775807 < 4 + M.size + 1 + T.size + 1 := by omega
      clear hMs IT HS HN
      go_enter Tryz.func19, Tryz.ntmps19
      go_wp2_with fail
      refine (C2.out).mono ?_
      clear C2
      rintro r w1 ⟨rfl, E1⟩
      have HE1 := hid (HE0.out.trans E1)
      have c1 := k0.out w1 E1
      have C11 := hid (C1.out w1 HE1.out)
      clear E1 C1 c0 k0
      go_wp2_with fail
      refine (C11.out).mono ?_
      clear C11
      rintro r w2 ⟨rfl, E2⟩
      have HE2 := hid (HE1.out.trans E2)
      have IT2 := hid (IT1.out w2 HE2.out)
      clear E2 IT1 c1
      go_wp2_with fail
      refine (TS.out w2).mono ?_
      clear TS
      rintro r w3 ⟨rfl, rfl⟩
      go_wp2_with fail
      refine (IT2.out).mono ?_
      clear IT2
      rintro r w4 ⟨rfl, E4⟩
      have HE4 := hid (HE2.out.trans E4)
      go_wp2
      go_ret2
      exact ⟨by rw [HR.out]; rfl, HE4.out⟩
    · have HR := hid (HN.out hm)
      have q : (me != 0) = true := by simp [hm]
      clear IT HS HN hm
      go_enter Tryz.func19, Tryz.ntmps19
      go_wp2_with fail
      refine (C2.out).mono ?_
      clear C2
      rintro r w1 ⟨rfl, E1⟩
      have HE1 := hid (HE0.out.trans E1)
      have c1 := k0.out w1 E1
      have C11 := hid (C1.out w1 HE1.out)
      clear E1 C1 c0 k0
      go_wp2_with fail
      refine (C11.out).mono ?_
      clear C11
      rintro r w2 ⟨rfl, E2⟩
      have HE2 := hid (HE1.out.trans E2)
      clear E2 c1
      go_wp2
      go_ret2
      exact ⟨by rw [HR.out]; rfl, HE2.out⟩
  | false =>
    have hE : entE x = deedE x.ops := by rw [entE, if_neg (by rw [← hb]; decide)]
    have HS := hid (entS_deed (x := x) (by rw [← hb]; decide))
    have HN := hid (@entS_no x)
    rw [hE] at HS HN ⊢
    generalize dS x.ops = D at C2 hz2 HS
    generalize deedE x.ops = de at C2 HS HN
    clear h1 h2 h3 hb hE sz L hn b0 E0 C1
    by_cases hm : de = 0
    · obtain rfl := hm
      have HR := hid (HS.out rfl)
      have TS := hid (fun w' => tsum_any D w' (by omega))
      have hsl := sbL_lt D.data.toList
      generalize sbL D.data.toList = sv at HR TS hsl
      have ht := itoa_len21 (n := sv) (by omega) (by omega)
      rw [← bA_size] at ht
      have IT1 := hid (fun w' q => IT.out sv hsl w' q)
      generalize bA (Lib.itoa sv) = T at HR IT1 ht
      have z2 : ¬ 9223372036854775807 < D.size + 1 := by omega
      have z3 : ¬ 9223372036854775807 < D.size + 1 + T.size := by omega
      have z4 : ¬ 9223372036854775807 < D.size + 1 + T.size + 1 := by omega
      clear IT HS HN
      go_enter Tryz.func19, Tryz.ntmps19
      go_wp2_with fail
      refine (C2.out).mono ?_
      clear C2
      rintro r w1 ⟨rfl, E1⟩
      have HE1 := hid (HE0.out.trans E1)
      have c1 := k0.out w1 E1
      have IT2 := hid (IT1.out w1 HE1.out)
      clear E1 c0 k0 IT1
      go_wp2_with fail
      refine (TS.out w1).mono ?_
      clear TS
      rintro r w3 ⟨rfl, rfl⟩
      go_wp2_with fail
      refine (IT2.out).mono ?_
      clear IT2
      rintro r w4 ⟨rfl, E4⟩
      have HE4 := hid (HE1.out.trans E4)
      go_wp2
      go_ret2
      exact ⟨by rw [HR.out]; rfl, HE4.out⟩
    · have HR := hid (HN.out hm)
      have q : (de != 0) = true := by simp [hm]
      clear IT HS HN hm
      go_enter Tryz.func19, Tryz.ntmps19
      go_wp2_with fail
      refine (C2.out).mono ?_
      clear C2
      rintro r w1 ⟨rfl, E1⟩
      have HE1 := hid (HE0.out.trans E1)
      have c1 := k0.out w1 E1
      clear E1 c0 k0
      go_wp2
      go_ret2
      exact ⟨by rw [HR.out]; rfl, HE1.out⟩
end Go.Proofs.YtnepdfpooobmcaaGreatDoor
