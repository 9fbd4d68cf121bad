/- Contracts and lemmas for the proof of TextLines; each theorem states its own conditions. -/
import Derived.Shelf.Strings.LastIndex
import Derived.Shelf.Strings.Prefix
import Derived.Test.YtnepdfpooobmcaaGreatDoorProg
import Derived.Test.YtnepdfpooobmcaaGreatDoorQTextLinesaa
import Derived.Test.YtnepdfpooobmcaaGreatDoorQTextLinesbq
import Derived.Test.YtnepdfpooobmcaaGreatDoorQTextLinesbt
import Derived.Test.YtnepdfpooobmcaaGreatDoorQTextLinesbi
import Derived.Test.YtnepdfpooobmcaaGreatDoorQTextLinesbe
set_option linter.unusedVariables false
set_option linter.unusedSimpArgs false
/- Contracts and lemmas for the proofs of this seat; each theorem states its own conditions. -/
namespace Go.Proofs.YtnepdfpooobmcaaGreatDoor
open Go.Shelf
def lays148_ren : Go.Shelf.Ren := ⟨fun | 148 => 114 | 222 => 161 | 223 => 163 | 269 => 207 | n => n, fun | 9 => 9 | 3 => 3 | 4 => 4 | 5 => 5 | 146 => 253 | 51 => 252 | 46 => 195 | n => n, fun | n => n⟩
theorem lays148 : Go.Proofs.Lays.n148 Tryz.prog lays148_ren := {
  mixed := by kernel_rfl
  f148 := Tryz.func114.trans (congrArg some (by kernel_rfl))
  f222 := Tryz.func161.trans (congrArg some (by kernel_rfl))
  f223 := Tryz.func163.trans (congrArg some (by kernel_rfl))
  f269 := Tryz.func207.trans (congrArg some (by kernel_rfl))
  t3 := Tryz.underlying3
  a3 := Tryz.isAgg3
  z3 := Tryz.sizeOf3
  v3 := Tryz.zeroValue3
  t4 := Tryz.underlying4
  a4 := Tryz.isAgg4
  z4 := Tryz.sizeOf4
  v4 := Tryz.zeroValue4
  t5 := Tryz.underlying5
  a5 := Tryz.isAgg5
  z5 := Tryz.sizeOf5
  v5 := Tryz.zeroValue5
  t9 := Tryz.underlying9
  a9 := Tryz.isAgg9
  z9 := Tryz.sizeOf9
  v9 := Tryz.zeroValue9
  t46 := Tryz.underlying195
  a46 := Tryz.isAgg195
  z46 := Tryz.sizeOf195
  v46 := Tryz.zeroValue195
  t51 := Tryz.underlying252
  a51 := Tryz.isAgg252
  z51 := Tryz.sizeOf252
  v51 := Tryz.zeroValue252
  t146 := Tryz.underlying253
  a146 := Tryz.isAgg253
  z146 := Tryz.sizeOf253
  v146 := Tryz.zeroValue253 }
def lays99_ren : Go.Shelf.Ren := ⟨fun | 99 => 115 | 206 => 164 | n => n, fun | 9 => 9 | 4 => 4 | 3 => 3 | n => n, fun | n => n⟩
theorem lays99 : Go.Proofs.Lays.n99 Tryz.prog lays99_ren := {
  mixed := by kernel_rfl
  f99 := Tryz.func115.trans (congrArg some (by kernel_rfl))
  f206 := Tryz.func164.trans (congrArg some (by kernel_rfl))
  t3 := Tryz.underlying3
  a3 := Tryz.isAgg3
  z3 := Tryz.sizeOf3
  v3 := Tryz.zeroValue3
  t4 := Tryz.underlying4
  a4 := Tryz.isAgg4
  z4 := Tryz.sizeOf4
  v4 := Tryz.zeroValue4
  t9 := Tryz.underlying9
  a9 := Tryz.isAgg9
  z9 := Tryz.sizeOf9
  v9 := Tryz.zeroValue9 }
end Go.Proofs.YtnepdfpooobmcaaGreatDoor

/- Contracts and lemmas for the proofs of this seat; each theorem states its own conditions. -/
namespace Go.Proofs.YtnepdfpooobmcaaGreatDoor
open Go.RowKit
/-! roref.Line, roref.Entry -/
theorem numL_bound {l : List UInt8} {v : Int} (h : numL l = some v) : -1000000000000 ≤ v ∧ v ≤ 1000000000000 := by
  obtain ⟨h1, h2, h3, _⟩ := numL_digs h
  have hb := digV_big h1 (by have := noSign_len l; omega)
  rw [← h3]
  unfold signV
  split <;> omega
set_option maxRecDepth 100000 in
set_option maxHeartbeats 2000000 in
theorem rline_any (e : EV) (x : Ent) (w : World) (h : EntSeg w e x) (hok : entE x = 0) :
    Calls Tryz.prog 25 #[evV e] w fun r w' => r = .returned (.string (entS x)) ∧ Ext w w' := by
  obtain ⟨v1, b, v2, v3⟩ := e
  obtain ⟨h1, hb, h2, h3⟩ := h
  dsimp only at h1 hb h2 h3
  obtain ⟨a1, k1, rfl⟩ := seg_form h1
  obtain ⟨a2, k2, rfl⟩ := seg_form h2
  obtain ⟨a3, k3, rfl⟩ := seg_form h3
  have hS : entS x = bA (entT x) := if_pos hok
  have E0 := hid ((Ext.refl w).alloc (.cells #[.slice a1 x.ops.length k1, .bool b, .slice a2 x.cuts.length k2, .slice a3 x.own.length k3] 45))
  have k0 := blk4 (heap_alloc_new w (.cells #[.slice a1 x.ops.length k1, .bool b, .slice a2 x.cuts.length k2, .slice a3 x.own.length k3] 45))
  show Calls _ _ #[.agg #[.slice a1 x.ops.length k1, .bool b, .slice a2 x.cuts.length k2, .slice a3 x.own.length k3]] _ _
  rw [hS]
  by_cases hi : x.im = true
  · have hbt : b = true := by rw [hb]; exact hi
    rw [entE, if_pos hi] at hok
    have ok := ok_of_mapErr hok
    have MT := hid (rmaptext_any (.agg #[.slice a2 x.cuts.length k2, .slice a3 x.own.length k3]) x.cuts x.own _ ⟨_, _, rfl, h2.ext E0.out, h3.ext E0.out⟩ ok)
    have hml := mapT_len ok
    have HR := hid (show bA (entT x) = ((⟨#[109, 97, 112, 32]⟩ ++ bA (mapT x.cuts x.own)) ++ ⟨#[32]⟩) ++ bA (Lib.itoa (sbL (⟨#[109, 97, 112, 32]⟩ ++ bA (mapT x.cuts x.own) : ByteArray).data.toList)) ++ ⟨#[10]⟩ by
      rw [line_bA, entT, bodyT, if_pos hi]
      congr 1)
    have hz : (bA (mapT x.cuts x.own)).size ≤ 400 := by rw [bA_size]; exact hml
    generalize bA (entT x) = R at *
    generalize bA (mapT x.cuts x.own) = M at *
    have hz2 : ((⟨#[109, 97, 112, 32]⟩ : ByteArray) ++ M).size ≤ 404 := by rw [ByteArray.size_append]; show 4 + _ ≤ _; omega
    have z0 : ¬ 9223372036854775807 < (⟨#[109, 97, 112, 32]⟩ : ByteArray).size + M.size := by show ¬ _ < 4 + _; omega
    have z0' : ¬ 9223372036854775807 < 4 + M.size := by omega
    have SU := hid (fun w' => rsum_any ((⟨#[109, 97, 112, 32]⟩ : ByteArray) ++ M) w' (by omega))
    have hlt := sbL_lt ((⟨#[109, 97, 112, 32]⟩ : ByteArray) ++ M).data.toList
    generalize sbL ((⟨#[109, 97, 112, 32]⟩ : ByteArray) ++ M).data.toList = q at *
    have DC := hid (fun w' => dec_any (q : Int) w' (by omega) (by omega))
    have z3 : (bA (Lib.itoa (q : Int))).size ≤ 21 := by rw [bA_size]; exact itoa_len21 (by omega) (by omega)
    generalize bA (Lib.itoa (q : Int)) = ds at *
    obtain ⟨S, hS2⟩ : ∃ S, (⟨#[109, 97, 112, 32]⟩ : ByteArray) ++ M = S := ⟨_, rfl⟩
    rw [hS2] at SU hz2 HR
    have z4 : ¬ 9223372036854775807 < S.size + 1 := by omega
    have z5 : ¬ 9223372036854775807 < (S.size + 1) + ds.size := by omega
    have z6 : ¬ 9223372036854775807 < ((S.size + 1) + ds.size) + 1 := by omega
    subst hbt
    clear h1 h2 h3 hb hi hok ok hml hS
    go_enter Tryz.func25, Tryz.ntmps25
    go_wp2_with fail
    refine (MT.out).mono ?_
    clear MT
    rintro r w1 ⟨rfl, E1⟩
    have HE := hid (E0.out.trans E1)
    clear E1 k0
    go_wp2_with fail
    refine (SU.out _).mono ?_
    clear SU
    rintro r w2 ⟨rfl, rfl⟩
    go_wp2_with fail
    refine (DC.out _).mono ?_
    clear DC
    rintro r w2 ⟨rfl, rfl⟩
    go_wp2
    go_ret
    exact ⟨by rw [HR.out]; rfl, HE.out⟩
  · have hbt : b = false := by rw [hb]; simpa using hi
    rw [entE, if_neg hi] at hok
    have ok := deed_ok hok
    have DT := hid (rtext_any (.slice a1 x.ops.length k1) x.ops _ (h1.ext E0.out) ok)
    have hml : (dT x.ops).length ≤ 330 := by
      have := txA_len ok.ops x.ops.length (Nat.le_refl _)
      rw [show txA x.ops x.ops.length = bA (dT x.ops) by unfold txA; rw [List.take_length], bA_size] at this
      have := ok.hi
      omega
    have HR := hid (show bA (entT x) = (bA (dT x.ops) ++ ⟨#[32]⟩) ++ bA (Lib.itoa (sbL (bA (dT x.ops)).data.toList)) ++ ⟨#[10]⟩ by
      rw [line_bA, entT, bodyT, if_neg hi, bA_toL])
    have hz2 : (bA (dT x.ops)).size ≤ 404 := by rw [bA_size]; omega
    generalize bA (entT x) = R at *
    generalize bA (dT x.ops) = S at *
    have SU := hid (fun w' => rsum_any S w' (by omega))
    have hlt := sbL_lt S.data.toList
    generalize sbL S.data.toList = q at *
    have DC := hid (fun w' => dec_any (q : Int) w' (by omega) (by omega))
    have z3 : (bA (Lib.itoa (q : Int))).size ≤ 21 := by rw [bA_size]; exact itoa_len21 (by omega) (by omega)
    generalize bA (Lib.itoa (q : Int)) = ds at *
    have z4 : ¬ 9223372036854775807 < S.size + 1 := by omega
    have z5 : ¬ 9223372036854775807 < (S.size + 1) + ds.size := by omega
    have z6 : ¬ 9223372036854775807 < ((S.size + 1) + ds.size) + 1 := by omega
    subst hbt
    clear h1 h2 h3 hb hi hok ok hml hS
    go_enter Tryz.func25, Tryz.ntmps25
    go_wp2_with fail
    refine (DT.out).mono ?_
    clear DT
    rintro r w1 ⟨rfl, E1⟩
    have HE := hid (E0.out.trans E1)
    clear E1 k0
    go_wp2_with fail
    refine (SU.out _).mono ?_
    clear SU
    rintro r w2 ⟨rfl, rfl⟩
    go_wp2_with fail
    refine (DC.out _).mono ?_
    clear DC
    rintro r w2 ⟨rfl, rfl⟩
    go_wp2
    go_ret
    exact ⟨by rw [HR.out]; rfl, HE.out⟩
set_option maxRecDepth 100000 in
theorem rentry_any (e : EV) (x : Ent) (w : World) (h : EntSeg w e x) (sz : EntSz x) :
    Calls Tryz.prog 24 #[evV e] w fun r w' => r = .returned (.int .i64 (entE x)) ∧ Ext w w' := by
  obtain ⟨v1, b, v2, v3⟩ := e
  obtain ⟨h1, hb, h2, h3⟩ := h
  dsimp only at h1 hb h2 h3
  obtain ⟨a1, k1, rfl⟩ := seg_form h1
  obtain ⟨a2, k2, rfl⟩ := seg_form h2
  obtain ⟨a3, k3, rfl⟩ := seg_form h3
  have E0 := hid ((Ext.refl w).alloc (.cells #[.slice a1 x.ops.length k1, .bool b, .slice a2 x.cuts.length k2, .slice a3 x.own.length k3] 45))
  have k0 := blk4 (heap_alloc_new w (.cells #[.slice a1 x.ops.length k1, .bool b, .slice a2 x.cuts.length k2, .slice a3 x.own.length k3] 45))
  have ME := hid (rmap_any (.agg #[.slice a2 x.cuts.length k2, .slice a3 x.own.length k3]) x.cuts x.own _ ⟨_, _, rfl, h2.ext E0.out, h3.ext E0.out⟩ sz.cuts)
  have DE := hid (rdeed_any (.slice a1 x.ops.length k1) x.ops _ (h1.ext E0.out) sz.ops)
  show Calls _ _ #[.agg #[.slice a1 x.ops.length k1, .bool b, .slice a2 x.cuts.length k2, .slice a3 x.own.length k3]] _ _
  by_cases hi : x.im = true
  · have hbt : b = true := by rw [hb]; exact hi
    have hE : entE x = mapErr x.cuts x.own := if_pos hi
    rw [hE]
    subst hbt
    clear h1 h2 h3 hb hi hE DE
    go_enter Tryz.func24, Tryz.ntmps24
    go_wp2_with fail
    refine (ME.out).mono ?_
    rintro r w1 ⟨rfl, E1⟩
    go_wp2
    go_ret
    exact ⟨rfl, E0.out.trans E1⟩
  · have hbt : b = false := by rw [hb]; simpa using hi
    have hE : entE x = deedE x.ops := if_neg hi
    rw [hE]
    subst hbt
    clear h1 h2 h3 hb hi hE ME
    go_enter Tryz.func24, Tryz.ntmps24
    go_wp2_with fail
    refine (DE.out).mono ?_
    rintro r w1 ⟨rfl, E1⟩
    go_wp2
    go_ret
    exact ⟨rfl, E0.out.trans E1⟩
end Go.Proofs.YtnepdfpooobmcaaGreatDoor

/- Contracts and lemmas for the proofs of this seat; each theorem states its own conditions. -/
namespace Go.Proofs.YtnepdfpooobmcaaGreatDoor
open Go.RowKit
/-! a region that draws its order, in which one operation (m) turns what lies there: all others only read and make -/
def MStep (P : Program) (l : List Oper) (t0 : Array Value) (ds : List Deferred) (c : Nat → Option Value) (m : Nat) (K S0 S1 : World → Prop) (i : Nat) (o : Oper) : Prop :=
  ∀ (x : Nat → Value) (w : World), (∀ e ∈ o.after, Region.binds .any e = true → ∀ v, c e.on = some v → x e.on = v) →
    (i ≠ m → K w → TPost P l t0 ds x o (fun v w' => (∀ u, c i = some u → v = u) ∧ Ext w w') w) ∧
    (i = m → S0 w → TPost P l t0 ds x o (fun v w' => (∀ u, c i = some u → v = u) ∧ S1 w') w)
theorem wp_region_mid {P : Program} {l : List Oper} {id : Nat} {Q : Exit → Act → World → Prop} {t0 : Array Value} {ds : List Deferred} {w : World} (hm : P.follows .mixedOrders = true) (hB : regB l.toArray = true)
    (c : Nat → Option Value) (m : Nat) (hmo : decide (m < l.length) = true) (K S0 S1 : World → Prop)
    (st0 : ∀ {a b}, Ext a b → S0 a → S0 b) (st1 : ∀ {a b}, Ext a b → S1 a → S1 b) (k0 : ∀ {a}, S0 a → K a) (k1 : ∀ {a}, S1 a → K a)
    (h0 : S0 w.drew) (hs : AllFrom (MStep P l t0 ds c m K S0 S1) l 0)
    (hend : ∀ x w', (∀ i, i < l.length → ∀ v, c i = some v → x i = v) → S1 w' → Q .normal ⟨frL x l 0 t0, ds⟩ w') : (Code.region id l.toArray true).wp P Q ⟨t0, ds⟩ w := by
  have hmo : m < l.length := of_decide_eq_true hmo
  refine wp_region_lit_inv hm hB c (fun L _ w' => (L m = false → S0 w') ∧ (L m = true → S1 w')) ⟨fun _ => h0, fun h => (by cases h)⟩ ?_ ?_
  · have : ∀ (r : List Oper) (k : Nat), (∀ i o, r[i]? = some o → l[k + i]? = some o) → AllFrom (Step P l t0 ds c (fun L _ w' => (L m = false → S0 w') ∧ (L m = true → S1 w'))) r k := by
      intro r
      induction r with
      | nil => intro k _; exact trivial
      | cons o r ih =>
        intro k hk
        refine ⟨?_, ih (k + 1) fun i o' ho' => by
          have := hk (i + 1) o' (by simpa using ho')
          rwa [show k + (i + 1) = k + 1 + i from by omega] at this⟩
        intro L x w' hLk hcl hd hG
        have hok : l[k]? = some o := by simpa using hk 0 o rfl
        have ht := hs.get k o hok
        rw [Nat.zero_add] at ht
        obtain ⟨t1, t2⟩ := ht x w' fun e he hb v hv => (hd e he hb).2 v hv
        obtain ⟨g1, g2⟩ := hG
        show TPost P l t0 ds x o (fun v w'' => (∀ u, c k = some u → v = u) ∧ _) w'
        by_cases hkm : k = m
        · subst hkm
          refine (t2 rfl (g1 hLk)).mono fun v w'' h => ⟨h.1, fun h' => ?_, fun _ => h.2⟩
          rw [upd_same] at h'; cases h'
        · have hK : K w' := by
            cases e : L m with
            | false => exact k0 (g1 e)
            | true => exact k1 (g2 e)
          refine (t1 hkm hK).mono fun v w'' h => ⟨h.1, fun h' => ?_, fun h' => ?_⟩
          · rw [upd_ne _ _ (Ne.symm hkm)] at h'; exact st0 h.2 (g1 h')
          · rw [upd_ne _ _ (Ne.symm hkm)] at h'; exact st1 h.2 (g2 h')
    exact this l 0 fun i o ho => by rw [Nat.zero_add]; exact ho
  · intro L x w' hall hG
    exact hend x w' (fun i hi v hv => (hall i hi).2 v hv) (hG.2 (hall m hmo).1)
end Go.Proofs.YtnepdfpooobmcaaGreatDoor
