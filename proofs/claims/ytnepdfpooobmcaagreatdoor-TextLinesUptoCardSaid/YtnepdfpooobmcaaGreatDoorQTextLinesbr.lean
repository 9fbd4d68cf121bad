/- Contracts and lemmas for the proof of TextLines; each theorem states its own conditions. -/
import Derived.Test.YtnepdfpooobmcaaGreatDoorQTextLinesaz
import Derived.Test.YtnepdfpooobmcaaGreatDoorQTextLinesay
set_option linter.unusedVariables false
set_option linter.unusedSimpArgs false
/- Contracts and lemmas for the proofs of this seat; each theorem states its own conditions. -/
namespace Go.Proofs.YtnepdfpooobmcaaGreatDoor
open Go.RowKit
/-! roref.Text -/
theorem jn_snoc (c : UInt8) (xs : List (List UInt8)) (x : List UInt8) : jn c (xs ++ [x]) = if xs = [] then x else jn c xs ++ c :: x := by
  cases xs with
  | nil => simp [jn]
  | cons y r => simp [jn, List.flatMap_append]
/-- the text of the first i, and what goes ahead of the next -/
def txA (d : Ops) (i : Nat) : ByteArray := bA (dT (d.take i))
def txB (d : Ops) (i : Nat) : ByteArray := if i = 0 then ⟨#[]⟩ else txA d i ++ ⟨#[59]⟩
theorem txA_succ {d : Ops} {i : Nat} (h : i < d.length) : txA d (i + 1) = txB d i ++ bA (opT d[i]) := by
  unfold txA txB dT
  rw [List.take_succ_eq_append_getElem h, List.map_append, List.map_singleton, jn_snoc]
  by_cases h0 : i = 0
  · subst h0
    refine bA_eq ?_
    simp [ByteArray.data_append]
  · have hne : (d.take i).map opT ≠ [] := by
      intro e
      have := congrArg List.length e
      rw [List.length_map, List.length_take] at this
      have this : min i d.length = 0 := this
      omega
    rw [if_neg hne, if_neg h0, bA_append, txA, dT]
    rw [show (59 :: opT d[i]) = [59] ++ opT d[i] from rfl, bA_append]
    exact ByteArray.append_assoc.symm
theorem opT_len2 {o : GOp} (h : OpOk o) : (opT o).length ≤ 40 := by
  have hk := h.kinds
  have hs := key_size h.key
  have hf : o.kind = 3 ∨ o.kind = 5 → o.from_.size ≤ 6 := fun q => key_size (h.from_ q).1
  have hi : o.kind ≠ 3 → (Lib.itoa o.n).length ≤ 21 := fun q => by have := h.val q; exact itoa_len21 (by omega) (by omega)
  unfold opT opTl
  rcases hk with e | e | e | e | e <;> simp only [e] at hf hi ⊢ <;> simp [toL_len] at hf hi ⊢ <;> omega
theorem txA_len {d : Ops} (h : ∀ o ∈ d, OpOk o) : ∀ i, i ≤ d.length → (txA d i).size ≤ 41 * i
  | 0, _ => by simp [txA, dT, jn, bA_size]
  | i + 1, hi => by
    have ih := txA_len h i (by omega)
    have h1 := opT_len2 (h _ (List.getElem_mem (show i < d.length by omega)))
    rw [txA_succ (by omega), ByteArray.size_append, bA_size]
    have hb : (txB d i).size ≤ (txA d i).size + 1 := by
      unfold txB
      split
      · exact Nat.zero_le _
      · rw [ByteArray.size_append]; exact Nat.le_refl _
    omega
/-- an operation's sign -/
def sgn (k : Int) : ByteArray := if k = 1 then ⟨#[61]⟩ else if k = 2 then ⟨#[43]⟩ else if k = 4 then ⟨#[63]⟩ else ⟨#[60]⟩
theorem op_1 (b : ByteArray) (key fr : ByteArray) (n : Int) (k : Int) (hk : k = 1 ∨ k = 2 ∨ k = 4) : b ++ bA (opT ⟨k, key, fr, n⟩) = (b ++ (key ++ sgn k)) ++ bA (Lib.itoa n) := by
  rcases hk with rfl | rfl | rfl <;> apply bA_inj <;> simp [sgn, opT, opTl, ByteArray.data_append, bA_toL, bA]
theorem op_3 (b : ByteArray) (key fr : ByteArray) (n : Int) : b ++ bA (opT ⟨3, key, fr, n⟩) = (b ++ (key ++ ⟨#[60]⟩)) ++ fr := by
  apply bA_inj
  simp [opT, opTl, ByteArray.data_append, bA]
theorem op_5 (b : ByteArray) (key fr : ByteArray) (n : Int) : b ++ bA (opT ⟨5, key, fr, n⟩) = (((b ++ (key ++ ⟨#[60]⟩)) ++ fr) ++ ⟨#[42]⟩) ++ bA (Lib.itoa n) := by
  apply bA_inj
  simp [opT, opTl, ByteArray.data_append, bA]
set_option maxRecDepth 100000 in
set_option maxHeartbeats 4000000 in
theorem rtext_any (v : Value) (d : Ops) (w : World) (hv : Seg w v 4 d.length (cO d)) (ok : DeedOk d) :
    Calls Tryz.prog 13 #[.agg #[v]] w fun e w' => e = .returned (.string (bA (dT d))) ∧ Ext w w' := by
  have h8 := ok.hi
  have h1 := ok.lo
  have HOK := hid ok.ops
  have HTL := hid (txA_len ok.ops)
  have HDT := hid (show txA d d.length = bA (dT d) by unfold txA; rw [List.take_length])
  obtain ⟨av, kv, rfl⟩ := seg_form hv
  obtain ⟨bd, od, rfl, _, p1, p2, hcd⟩ := seg_cells hv (by omega)
  unfold maxLen at p2
  have E0 := (Ext.refl w).alloc (.cells #[.slice (some ⟨bd, od, none⟩) d.length kv] 24)
  have b0 := heap_alloc_new w (.cells #[.slice (some ⟨bd, od, none⟩) d.length kv] 24)
  have c0 : (w.alloc (.cells #[.slice (some ⟨bd, od, none⟩) d.length kv] 24)).cell? ⟨w.heap.size, 0, none⟩ = some (.slice (some ⟨bd, od, none⟩) d.length kv) := by simp only [World.cell?]; rw [b0]; rfl
  have HCD := hid hcd
  have HE0 := hid E0
  clear hv ok hcd E0 b0
  go_enter Tryz.func13, Tryz.ntmps13
  go_wp2_with fail
  go_loopw [3, 4, 5, 9] (fun sv _ _ iv wr => ∃ i : Nat, i ≤ d.length ∧ iv = .int .i64 i ∧ sv = .string (txA d i) ∧ Ext w wr) (fun _ _ _ iv _ => d.length - (intOf iv).toNat)
  case atStart => exact ⟨0, Nat.zero_le _, rfl, by first | rfl | simp [txA, dT, jn, bA], HE0.out⟩
  case round =>
    obtain ⟨wq, rfl⟩ : ∃ wq : World, wq = wr := ⟨_, rfl⟩
    obtain ⟨i, hi, rfl, rfl, E⟩ := hrel
    by_cases hil : i < d.length
    · have hcw : ∀ j u, (cO d)[j]? = some u → wq.cell? ⟨bd, od + j, none⟩ = some u := fun j u hj => E.cell (HCD.out j u hj)
      obtain ⟨y0, y1, y2, y3⟩ := seg_op hcw (k := i) hil
      have hok := HOK.out _ (List.getElem_mem hil)
      have HST := hid (txA_succ hil)
      have hsz := HTL.out i hi
      have hksz := key_size hok.key
      have hval := hok.val
      have hfr := hok.from_
      have hkd := hok.kinds
      generalize d[i] = o at y0 y1 y2 y3 HST hok hksz hval hfr hkd
      obtain ⟨kd, key, fr, n⟩ := o
      dsimp only at y0 y1 y2 y3 hksz hval hfr hkd
      have HE := hid E
      have bxh := heap_alloc_new wq (.cells #[.int .i64 kd, .string key, .string fr, .int .i64 n] 93)
      have EA := (Ext.refl wq).alloc (.cells #[.int .i64 kd, .string key, .string fr, .int .i64 n] 93)
      have HBX := hid bxh
      have HEA := hid EA
      obtain ⟨S, hS⟩ : ∃ S, txB d i = S := ⟨_, rfl⟩
      have hSs : S.size ≤ 330 := by
        rw [← hS]; unfold txB
        split
        · exact Nat.zero_le _
        · rw [ByteArray.size_append]; show _ + 1 ≤ _; omega
      rw [hS] at HST
      clear hcw hok E bxh EA
      go_upto_if 15 with fail
      go_cut [3] from 16 to 17 (fun s3 wx => s3 = .string S ∧ wx = wq.alloc (.cells #[.int .i64 kd, .string key, .string fr, .int .i64 n] 93))
      case first =>
        by_cases h0 : i = 0
        · subst h0
          have hT : txA d 0 = ⟨#[]⟩ := by simp [txA, dT, jn, bA]
          have hS2 : S = ⟨#[]⟩ := by rw [← hS]; rfl
          rw [hT]
          subst hS2
          clear hS hT
          go_wp2
          go_meet
          exact ⟨rfl, rfl⟩
        · have hS2 : txA d i ++ ⟨#[59]⟩ = S := by rw [← hS]; exact (if_neg h0).symm
          have q0 : ((0 : Int) < (i : Int)) := by omega
          have z0 : ¬ 9223372036854775807 < (txA d i).size + (⟨#[59]⟩ : ByteArray).size := by show ¬ _ < _ + 1; omega
          clear hS
          go_wp2
          go_meet
          exact ⟨rfl, rfl⟩
      case rest =>
        obtain ⟨rfl, rfl⟩ := hcut
        obtain ⟨wb, hwb⟩ : ∃ wb : World, wq.alloc (.cells #[.int .i64 kd, .string key, .string fr, .int .i64 n] 93) = wb := ⟨_, rfl⟩
        rw [hwb] at HBX HEA ⊢
        have HFR := hid hfr
        have HVAL := hid hval
        obtain ⟨T1, hT1⟩ : ∃ T1, S ++ (key ++ sgn kd) = T1 := ⟨_, rfl⟩
        have hT1s : T1.size ≤ 340 := by
          have hs1 : (sgn kd).size = 1 := by rcases hkd with rfl | rfl | rfl | rfl | rfl <;> rfl
          rw [← hT1, ByteArray.size_append, ByteArray.size_append, hs1]; omega
        have HT1 := hid hT1
        have z1 : ¬ 9223372036854775807 < key.size + 1 := by omega
        have z2 : ¬ 9223372036854775807 < S.size + (key.size + 1) := by omega
        have HKD := hid hkd
        clear hwb hfr hval hT1 hS hkd
        go_wp2_with fail
        go_cut [3] from 18 to 28 (fun s3 wx => s3 = .string T1 ∧ Ext wb wx)
        case first =>
          have cb := blk4 HBX.out
          have cb2 := blk4 (((Ext.refl wb).alloc (.cells #[.string ⟨#[61]⟩, .string ⟨#[43]⟩, .string ⟨#[60]⟩, .string ⟨#[63]⟩, .string ⟨#[60]⟩] 9)).heap HBX.out)
          rcases HKD.out with rfl | rfl | rfl | rfl | rfl
          all_goals (
            have hT := HT1.out
            simp only [sgn] at hT
            subst hT
            go_region
            all_goals (go_wp2_with fail; go_meet; exact ⟨rfl, ((Ext.refl wb).alloc _).drew⟩))
        case rest =>
          obtain ⟨rfl, hE7⟩ := hcut
          have cb := blk4 (hE7.heap HBX.out)
          have HE9 := hid (HE.out.trans (HEA.out.trans hE7))
          clear z1 z2 hE7 HBX HEA
          rcases HKD.out with rfl | rfl | rfl | rfl | rfl
          all_goals (
            first
            | (
              have hv := HVAL.out (by decide)
              have z3 : (bA (Lib.itoa n)).size ≤ 21 := by rw [bA_size]; exact itoa_len21 (by omega) (by omega)
              have DC := hid (fun w' => dec_any n w' (by omega) (by omega))
              have HN := hid (show txA d (i + 1) = T1 ++ bA (Lib.itoa n) by rw [HST.out, op_1 _ _ _ _ _ (by decide), HT1.out])
              generalize bA (Lib.itoa n) = ds at *
              have z4 : ¬ 9223372036854775807 < T1.size + ds.size := by omega
              clear hv HT1 HST
              go_wp2_with fail
              refine (DC.out _).mono ?_
              clear DC
              rintro r w7 ⟨rfl, rfl⟩
              go_wp2
              go_roundw
              case rel => exact ⟨i + 1, by omega, by go_num, by rw [HN.out], HE9.out⟩
              case measure => simp [intOf] <;> omega)
            | (
              have hf := key_size (HFR.out (.inl rfl)).1
              have HN := hid (show txA d (i + 1) = T1 ++ fr by rw [HST.out, op_3, ← HT1.out]; rfl)
              have z4 : ¬ 9223372036854775807 < T1.size + fr.size := by omega
              clear HT1 HST
              go_wp2
              go_roundw
              case rel => exact ⟨i + 1, by omega, by go_num, by rw [HN.out], HE9.out⟩
              case measure => simp [intOf] <;> omega)
            | (
              have hv := HVAL.out (by decide)
              have hf := key_size (HFR.out (.inr rfl)).1
              have z3 : (bA (Lib.itoa n)).size ≤ 21 := by rw [bA_size]; exact itoa_len21 (by omega) (by omega)
              have DC := hid (fun w' => dec_any n w' (by omega) (by omega))
              have HN := hid (show txA d (i + 1) = ((T1 ++ fr) ++ ⟨#[42]⟩) ++ bA (Lib.itoa n) by rw [HST.out, op_5, ← HT1.out]; rfl)
              generalize bA (Lib.itoa n) = ds at *
              have z4 : ¬ 9223372036854775807 < T1.size + fr.size := by omega
              have z5 : ¬ 9223372036854775807 < (T1.size + fr.size) + 1 := by omega
              have z6 : ¬ 9223372036854775807 < ((T1.size + fr.size) + 1) + ds.size := by omega
              clear hv HT1 HST
              go_wp2_with fail
              refine (DC.out _).mono ?_
              clear DC
              rintro r w7 ⟨rfl, rfl⟩
              go_wp2
              go_roundw
              case rel => exact ⟨i + 1, by omega, by go_num, by rw [HN.out], HE9.out⟩
              case measure => simp [intOf] <;> omega))
    · obtain rfl : i = d.length := by omega
      have HX := HDT.out
      rw [HX]
      clear HX
      go_wp2
      go_ret
      exact ⟨rfl, E⟩
end Go.Proofs.YtnepdfpooobmcaaGreatDoor
