/- Contracts and lemmas for the proof of PlanPlays; each theorem states its own conditions. -/
import Derived.Shelf.Strings.SlTrimAscii
import Derived.Ground.NamesProg
import Derived.Test.YtghemmmkbpfdhaaGreatDoorProg
import Derived.Test.YtghemmmkbpfdhaaGreatDoorQPlanPlaysaa
import Derived.Test.YtghemmmkbpfdhaaGreatDoorQPlanPlaysac
import Derived.Test.YtghemmmkbpfdhaaGreatDoorQPlanPlaysau
import Derived.Lib.SlTrimSet
set_option linter.unusedVariables false
set_option linter.unusedSimpArgs false
/- Contracts and lemmas for the proofs of this seat; each theorem states its own conditions. -/
namespace Go.Proofs.YtghemmmkbpfdhaaGreatDoor
open Go.Shelf
def lays160_ren : Go.Shelf.Ren := ⟨fun | 160 => 72 | 232 => 99 | 231 => 98 | 227 => 100 | 234 => 102 | 233 => 101 | 236 => 104 | 235 => 103 | 228 => 147 | 271 => 150 | 151 => 149 | 197 => 148 | 120 => 175 | 152 => 174 | 260 => 173 | 137 => 183 | 119 => 184 | 224 => 185 | 225 => 186 | 217 => 188 | 266 => 189 | n => n, fun | 9 => 9 | 4 => 4 | 3 => 3 | 5 => 5 | 117 => 163 | 116 => 162 | 0 => 0 | 124 => 166 | 21 => 21 | 105 => 199 | 46 => 89 | 119 => 225 | 139 => 228 | 138 => 227 | n => n, fun | 3 => 1 | 4 => 2 | n => n⟩
theorem lays160 : Go.Proofs.Lays.n160 Tryz.prog lays160_ren := {
  mixed := by kernel_rfl
  f119 := Tryz.func184.trans (congrArg some (by kernel_rfl))
  f120 := Tryz.func175.trans (congrArg some (by kernel_rfl))
  f137 := Tryz.func183.trans (congrArg some (by kernel_rfl))
  f151 := Tryz.func149.trans (congrArg some (by kernel_rfl))
  f152 := Tryz.func174.trans (congrArg some (by kernel_rfl))
  f160 := Tryz.func72.trans (congrArg some (by kernel_rfl))
  f197 := Tryz.func148.trans (congrArg some (by kernel_rfl))
  f217 := Tryz.func188.trans (congrArg some (by kernel_rfl))
  f224 := Tryz.func185.trans (congrArg some (by kernel_rfl))
  f225 := Tryz.func186.trans (congrArg some (by kernel_rfl))
  f227 := Tryz.func100.trans (congrArg some (by kernel_rfl))
  f228 := Tryz.func147.trans (congrArg some (by kernel_rfl))
  f231 := Tryz.func98.trans (congrArg some (by kernel_rfl))
  f232 := Tryz.func99.trans (congrArg some (by kernel_rfl))
  f233 := Tryz.func101.trans (congrArg some (by kernel_rfl))
  f234 := Tryz.func102.trans (congrArg some (by kernel_rfl))
  f235 := Tryz.func103.trans (congrArg some (by kernel_rfl))
  f236 := Tryz.func104.trans (congrArg some (by kernel_rfl))
  f260 := Tryz.func173.trans (congrArg some (by kernel_rfl))
  f266 := Tryz.func189.trans (congrArg some (by kernel_rfl))
  f271 := Tryz.func150.trans (congrArg some (by kernel_rfl))
  t0 := Tryz.underlying0
  a0 := Tryz.isAgg0
  z0 := Tryz.sizeOf0
  v0 := Tryz.zeroValue0
  t3 := Tryz.underlying3
  a3 := Tryz.isAgg3
  z3 := Tryz.sizeOf3
  v3 := Tryz.zeroValue3
  t4 := Tryz.underlying4
  a4 := Tryz.isAgg4
  z4 := Tryz.sizeOf4
  v4 := Tryz.zeroValue4
  t5 := Tryz.underlying5
  a5 := Tryz.isAgg5
  z5 := Tryz.sizeOf5
  v5 := Tryz.zeroValue5
  t9 := Tryz.underlying9
  a9 := Tryz.isAgg9
  z9 := Tryz.sizeOf9
  v9 := Tryz.zeroValue9
  t21 := Tryz.underlying21
  a21 := Tryz.isAgg21
  z21 := Tryz.sizeOf21
  v21 := Tryz.zeroValue21
  t46 := Tryz.underlying89
  a46 := Tryz.isAgg89
  z46 := Tryz.sizeOf89
  v46 := Tryz.zeroValue89
  t105 := Tryz.underlying199
  a105 := Tryz.isAgg199
  z105 := Tryz.sizeOf199
  v105 := Tryz.zeroValue199
  t116 := Tryz.underlying162
  a116 := Tryz.isAgg162
  z116 := Tryz.sizeOf162
  t117 := Tryz.underlying163
  a117 := Tryz.isAgg163
  z117 := Tryz.sizeOf163
  v117 := Tryz.zeroValue163
  t119 := Tryz.underlying225
  a119 := Tryz.isAgg225
  z119 := Tryz.sizeOf225
  t124 := Tryz.underlying166
  a124 := Tryz.isAgg166
  z124 := Tryz.sizeOf166
  v124 := Tryz.zeroValue166
  t138 := Tryz.underlying227
  a138 := Tryz.isAgg227
  z138 := Tryz.sizeOf227
  v138 := Tryz.zeroValue227
  t139 := Tryz.underlying228
  a139 := Tryz.isAgg228
  z139 := Tryz.sizeOf228
  v139 := Tryz.zeroValue228
  g3 := by kernel_rfl
  g4 := by kernel_rfl }
end Go.Proofs.YtghemmmkbpfdhaaGreatDoor

/- Contracts and lemmas for the proofs of this seat; each theorem states its own conditions. -/
namespace Go.Proofs.YtghemmmkbpfdhaaGreatDoor
open Go.RowKit
set_option maxRecDepth 10000 in
set_option maxHeartbeats 1000000 in
theorem indexF_Int (fn : Nat) (cs : Array Value) (hen : ∀ args w, (callFunc fn args).run Tryz.prog w = .ok (.enter fn args) w) (p : Int → Bool) (v : Value) (L : List Int) (w : World) (hv : Seg w v 1 L.length (cI L))
    (hc : ∀ x ∈ L, ∀ w', Ext w w' → Calls Tryz.prog fn (#[.int .i64 x] ++ cs) w' fun e w'' => e = .returned (.bool (p x)) ∧ Ext w' w'') :
    Calls Tryz.prog 83 #[v, .func (.func fn) #[] cs] w fun e w' => e = .returned (.int .i64 (firstI p L 0)) ∧ Ext w w' := by
  obtain ⟨h0, a, cap, rfl, h1, h2, h3⟩ := hv
  unfold maxLen at h2
  have H3 := hid h3
  have HC := hid hc
  clear h3 hc h0
  go_enter Tryz.func83, Tryz.ntmps83
  go_wp2
  go_loopw [5, 8] (fun _ i wr => ∃ k : Nat, k ≤ L.length ∧ i = .int .i64 k ∧ (∀ j (h : j < L.length), j < k → p L[j] = false) ∧ Ext w wr) (fun _ i _ => L.length - (intOf i).toNat)
  case atStart => exact ⟨0, Nat.zero_le _, rfl, fun j _ h => by omega, Ext.refl _⟩
  case round =>
    obtain ⟨k, hk, rfl, hn, E⟩ := hrel
    have HN := hid hn
    clear hn
    by_cases hlt : k < L.length
    · obtain ⟨b, off, rfl, hcell⟩ := H3.out (by omega)
      have x0 := E.cell (hcell k _ (cI_at0 L k hlt))
      have C := HC.out L[k] (List.getElem_mem hlt) wr E
      have e0 : (#[Value.int .i64 L[k]] ++ cs) = (#[Value.int .i64 L[k]] ++ cs) := rfl
      cases hp : p L[k] with
      | true =>
        rw [hp] at C
        have C := hid C
        have hi : firstI p L 0 = (k : Int) := by
          have := firstI_hit (i := 0) hlt (fun j h' => HN.out j (by omega) h') hp
          simpa using this
        have HI := hid hi
        clear hi hcell e0
        go_wp2_with (first | (go_at_fn fn; refine (C.out).mono ?_; rintro e wa ⟨rfl, Ea⟩))
        go_ret
        exact ⟨rI HI.out.symm, E.trans Ea⟩
      | false =>
        rw [hp] at C
        have C := hid C
        have HP := hid hp
        clear hcell e0 hp
        go_wp2_with (first | (go_at_fn fn; refine (C.out).mono ?_; rintro e wa ⟨rfl, Ea⟩))
        go_roundw
        case rel => exact ⟨k + 1, by omega, by go_num, fun j hj h => by
          rcases Nat.lt_or_ge j k with h' | h'
          · exact HN.out j hj h'
          · have : j = k := by omega
            subst this; exact HP.out, E.trans Ea⟩
        case measure => simp [intOf]; omega
    · obtain rfl : k = L.length := by omega
      have hi : firstI p L 0 = -1 := firstI_miss fun x hx => by
        obtain ⟨j, hj, rfl⟩ := List.mem_iff_getElem.1 hx
        exact HN.out j hj hj
      have HI := hid hi
      clear hi
      go_wp2
      go_ret
      exact ⟨rI HI.out.symm, E⟩
set_option maxHeartbeats 1000000 in
theorem containsF_Int (fn : Nat) (cs : Array Value) (hen : ∀ args w, (callFunc fn args).run Tryz.prog w = .ok (.enter fn args) w) (p : Int → Bool) (v : Value) (L : List Int) (w : World) (hv : Seg w v 1 L.length (cI L))
    (hc : ∀ x ∈ L, ∀ w', Ext w w' → Calls Tryz.prog fn (#[.int .i64 x] ++ cs) w' fun e w'' => e = .returned (.bool (p x)) ∧ Ext w' w'') :
    Calls Tryz.prog 49 #[v, .func (.func fn) #[] cs] w fun e w' => e = .returned (.bool (L.any p)) ∧ Ext w w' := by
  have C := hid (indexF_Int fn cs hen p v L w hv hc)
  have HA := hid (firstI_any (p := p) (l := L) (i := 0))
  generalize firstI p L 0 = z at C HA
  clear hc hv
  go_enter Tryz.func49, Tryz.ntmps49
  go_wp2_with fail
  refine (C.out).mono ?_
  rintro e wa ⟨rfl, Ea⟩
  go_wp2
  go_ret
  exact ⟨rB (by rw [← HA.out]), Ea⟩
end Go.Proofs.YtghemmmkbpfdhaaGreatDoor

/- Contracts and lemmas for the proofs of this seat; each theorem states its own conditions. -/
namespace Go.Proofs.YtghemmmkbpfdhaaGreatDoor
open Go.RowKit
/-! the document's Key, Map, Whose -/
theorem rwithin_any (x a b : Int) (w : World) : Calls Tryz.prog 51 #[.int .i64 x, .int .i64 a, .int .i64 b] w fun e w' => e = .returned (.bool (decide (a ≤ x) && decide (x ≤ b))) ∧ w' = w := by
  by_cases h1 : a ≤ x
  · have d1 : decide (a ≤ x) = true := by simp [h1]
    have d2 : decide (x ≥ a) = true := by simp; omega
    go_enter Tryz.func51, Tryz.ntmps51
    go_wp2
    go_ret
    exact ⟨rB (by simp [h1]), rfl⟩
  · have d1 : decide (a ≤ x) = false := by simp; omega
    have d2 : decide (x ≥ a) = false := by simp; omega
    have d3 : ¬ (x ≥ a) := by omega
    go_enter Tryz.func51, Tryz.ntmps51
    go_wp2
    go_ret
    exact ⟨rB (by simp [h1]), rfl⟩
def alphaB : List UInt8 := [97, 98, 99, 100, 101, 102, 103, 104, 105, 106, 107, 108, 109, 110, 111, 112, 113, 114, 115, 116, 117, 118, 119, 120, 121, 122]
theorem alpha_let (c : UInt8) : alphaB.contains c = letB c := by
  have h : ∀ n : Fin 256, alphaB.contains (UInt8.ofNat n.val) = letB (UInt8.ofNat n.val) := by decide +kernel
  have := h ⟨c.toNat, c.toNat_lt⟩
  simpa using this
theorem dropWhile_nil {α : Type} {p : α → Bool} : ∀ {l : List α}, l.dropWhile p = [] ↔ l.all p = true
  | [] => by simp
  | x :: l => by
    rw [List.dropWhile_cons, List.all_cons]
    cases h : p x
    · simp
    · simp [dropWhile_nil (l := l)]
theorem all_rev {α : Type} (p : α → Bool) (l : List α) : l.reverse.all p = l.all p := by
  rw [Bool.eq_iff_iff, List.all_eq_true, List.all_eq_true]; simp
theorem drop_sub {α : Type} (p : α → Bool) : ∀ (l : List α), (l.dropWhile p).all p = l.all p
  | [] => rfl
  | x :: l => by
    rw [List.dropWhile_cons]
    cases h : p x
    · simp
    · simp [h, drop_sub p l]
theorem trim_nil (l cs : List UInt8) : Lib.trimS l cs = [] ↔ l.all (cs.contains ·) = true := by
  unfold Lib.trimS Lib.trimLeftS Lib.trimRightS
  rw [dropWhile_nil, all_rev, drop_sub, all_rev]
theorem key_trim {s : ByteArray} (h1 : 1 ≤ s.size) (h2 : s.size ≤ 6) : keyB s = decide (Lib.trimS s.data.toList alphaB = []) := by
  rw [Bool.eq_iff_iff, decide_eq_true_eq, trim_nil]
  have hne : s.toList.isEmpty = false := by
    have := size_toList s
    cases e : s.toList with
    | nil => rw [e] at this; simp at this; omega
    | cons a l => rfl
  have hal : s.toList.all letB = s.data.toList.all (alphaB.contains ·) := by
    rw [toList_data]; congr 1; funext c; exact (alpha_let c).symm
  simp [keyB, hne, h2, hal]
theorem info116 : (Tryz.prog.info? 161).map (fun i => (i.zero, i.size)) = some (some (.agg (Array.replicate 256 (.bool false))), 256) := by kernel_rfl
set_option maxRecDepth 10000 in
theorem rkey_any (s : ByteArray) (w : World) (hs : s.size ≤ 9223372036854775807) : Calls Tryz.prog 41 #[.string s] w fun e w' => e = .returned (.bool (keyB s)) ∧ Ext w w' := by
  have WI := hid (rwithin_any (s.size : Int) 1 6 w)
  by_cases h : 1 ≤ s.size ∧ s.size ≤ 6
  · obtain ⟨h1, h2⟩ := h
    have TR0 : Calls Tryz.prog 72 #[.string s, .string ⟨#[97, 98, 99, 100, 101, 102, 103, 104, 105, 106, 107, 108, 109, 110, 111, 112, 113, 114, 115, 116, 117, 118, 119, 120, 121, 122]⟩] w fun e w' => e = .returned (.string ⟨(Lib.trimS s.data.toList alphaB).toArray⟩) ∧ Ext w w' := Go.Proofs.Any.strings_Trim_laid lays160 info116 s ⟨alphaB.toArray⟩ w hs (by decide) (ascii_of_all (by decide))
    have hk0 := key_trim h1 h2
    generalize Lib.trimS s.data.toList alphaB = T at TR0 hk0
    have TR := hid TR0
    have hk := hid hk0
    clear TR0 hk0
    have q1 : decide ((1 : Int) ≤ (s.size : Int)) = true := by simp; omega
    have q2 : decide ((s.size : Int) ≤ 6) = true := by simp; omega
    go_enter Tryz.func41, Tryz.ntmps41
    go_wp2_with fail
    refine (WI.out).mono ?_
    rintro e w' ⟨rfl, rfl⟩
    cases T with
    | nil =>
      have TR2 := hid TR.out
      go_wp2_with fail
      refine (TR2.out).mono ?_
      rintro e w1 ⟨rfl, E1⟩
      go_wp2
      go_ret
      exact ⟨rB (by rw [hk.out]; rfl), E1⟩
    | cons x T =>
      have TR2 := hid TR.out
      obtain ⟨str, hstr⟩ : ∃ str : ByteArray, (⟨(x :: T).toArray⟩ : ByteArray) = str := ⟨_, rfl⟩
      have hne : ¬ str.toList = [] := by rw [← hstr, toList_data]; simp
      have hne2 : str.toList.isEmpty = false := by simpa using hne
      go_wp2_with fail
      refine (TR2.out).mono ?_
      rw [hstr]
      rintro e w1 ⟨rfl, E1⟩
      go_wp2
      go_ret
      exact ⟨rB (by rw [hk.out]; simp), E1⟩
  · have hk : keyB s = false := by
      by_cases h1 : s.size ≤ 6
      · have : s.toList = [] := by have := size_toList s; exact List.eq_nil_of_length_eq_zero (by omega)
        exact key_false1 this
      · exact key_false2 (by omega)
    have q : (decide ((1 : Int) ≤ (s.size : Int)) && decide ((s.size : Int) ≤ 6)) = false := by simp; omega
    rw [q] at WI
    have WI2 := hid WI.out
    go_enter Tryz.func41, Tryz.ntmps41
    go_wp2_with fail
    refine (WI2.out).mono ?_
    rintro e w' ⟨rfl, rfl⟩
    go_wp2
    go_ret
    exact ⟨rB hk.symm, Ext.refl _⟩
end Go.Proofs.YtghemmmkbpfdhaaGreatDoor

/- Contracts and lemmas for the proofs of this seat; each theorem states its own conditions. -/
namespace Go.Proofs.YtghemmmkbpfdhaaGreatDoor
open Go.RowKit
theorem rmap1_any (n : Int) (w : World) : Calls Tryz.prog 50 #[.int .i64 n] w fun e w' => e = .returned (.bool (!(decide (0 ≤ n) && decide (n ≤ 3)))) ∧ Ext w w' := by
  have WI := hid (rwithin_any n 0 3 w)
  generalize (decide (0 ≤ n) && decide (n ≤ 3)) = b at WI ⊢
  go_enter Tryz.func50, Tryz.ntmps50
  go_wp2_with fail
  refine (WI.out).mono ?_
  rintro e w' ⟨rfl, rfl⟩
  go_wp2
  go_ret
  exact ⟨rfl, Ext.refl _⟩
theorem enMap1 : ∀ args w, (callFunc 50 args).run Tryz.prog w = .ok (.enter 50 args) w := enters_of Tryz.func50 (by kernel_rfl) rfl
/-- the key ahead of the k-th one -/
def prevS (C : List ByteArray) (k : Nat) : ByteArray := if k = 0 then ⟨#[]⟩ else C.getD (k - 1) ⟨#[]⟩
theorem prevS_succ {C : List ByteArray} {k : Nat} (h : k < C.length) : prevS C (k + 1) = C[k] := by simp [prevS, h]
theorem blt_empty {s : ByteArray} (h : keyB s = true) : blt ⟨#[]⟩ s = true := by
  have h1 : ¬ s.toList = [] := by simp [keyB] at h; simpa using h.1.1
  unfold blt
  cases e : s.toList with
  | nil => exact absurd e h1
  | cons a l =>
    have : (⟨#[]⟩ : ByteArray).toList = [] := by rw [toList_data]
    rw [this]; rfl
theorem cut_prev {C : List ByteArray} {k : Nat} (h : k < C.length) : cutOk C k = (keyB C[k] && blt (prevS C k) C[k]) := by
  cases hk : keyB C[k] with
  | false => rw [cutOk_key h hk]; rfl
  | true =>
    cases k with
    | zero => rw [cutOk_zero h hk]; simp [prevS, blt_empty hk]
    | succ k =>
      rw [prevS_succ (show k < C.length by omega)]
      cases hb : blt (C[k]'(by omega)) C[k + 1] with
      | false => rw [cutOk_lt h hb]; rfl
      | true => rw [cutOk_yes h hk hb]; rfl
theorem own_any (O : List Int) : (List.range O.length).all (ownOk O) = !(O.any fun n => !(decide (0 ≤ n) && decide (n ≤ 3))) := by
  rw [Bool.eq_iff_iff]
  simp only [List.all_eq_true, List.mem_range, Bool.not_eq_true', List.any_eq_false]
  constructor
  · intro h x hx
    obtain ⟨i, hi, rfl⟩ := List.mem_iff_getElem.1 hx
    have := h i hi
    simp [ownOk, hi] at this
    simp; omega
  · intro h i hi
    have := h O[i] (List.getElem_mem hi)
    simp at this
    simp [ownOk, hi]; omega
theorem allTo_snoc {p : Nat → Bool} {k : Nat} (h : allTo p k) (hk : p k = true) : allTo p (k + 1) := fun j hj => by
  rcases Nat.lt_or_ge j k with h' | h'
  · exact h j h'
  · have : j = k := by omega
    subst this; exact hk
set_option maxRecDepth 10000 in
set_option maxHeartbeats 1000000 in
theorem rmap_any (v : Value) (C : List ByteArray) (O : List Int) (w : World) (hv : IsMap w v C O) (hk : ∀ k ∈ C, k.size ≤ 9223372036854775807) :
    Calls Tryz.prog 16 #[v] w fun e w' => e = .returned (.int .i64 (mapErr C O)) ∧ Ext w w' := by
  obtain ⟨a1, k1, a2, k2, rfl, m1, m2⟩ := hv.unpack
  have b0 := heap_alloc_new w (.cells #[.slice a1 C.length k1, .slice a2 O.length k2] 50)
  have E0 := (Ext.refl w).alloc (.cells #[.slice a1 C.length k1, .slice a2 O.length k2] 50)
  have x := blk2 b0
  have l1 : C.length ≤ 9223372036854775807 := by obtain ⟨_, _, _, e, h1, h2, _⟩ := m1; injection e with _ _ e3; subst e3; unfold maxLen at h2; omega
  have l2 : O.length ≤ 9223372036854775807 := by obtain ⟨_, _, _, e, h1, h2, _⟩ := m2; injection e with _ _ e3; subst e3; unfold maxLen at h2; omega
  have M1 := hid m1
  have M2 := hid m2
  have B0 := hid b0
  clear m1 m2 hv b0
  by_cases h12 : 12 < C.length
  · have q : ((C.length : Int) > 12) := by omega
    go_enter Tryz.func16, Tryz.ntmps16
    go_wp2
    go_ret
    exact ⟨rI (mapErr_2 h12).symm, E0⟩
  have q12 : ¬ ((C.length : Int) > 12) := by omega
  by_cases hl : O.length = C.length + 1
  case neg =>
    have q : (((O.length : Int) - (C.length : Int)) != 1) = true := by simp; omega
    have hr := hid (mapErr_3 h12 hl)
    go_enter Tryz.func16, Tryz.ntmps16
    go_wp2
    go_ret
    exact ⟨rI hr.out.symm, E0⟩
  have q : (((O.length : Int) - (C.length : Int)) != 1) = false := by simp; omega
  have HL := hid hl
  clear hl
  go_enter Tryz.func16, Tryz.ntmps16
  go_wp2_with fail
  go_loopw [3, 5, 21] (fun lv _ iv wr => ∃ k : Nat, k ≤ C.length ∧ iv = .int .i64 k ∧ lv = .string (prevS C k) ∧ allTo (cutOk C) k ∧ Ext (w.alloc (.cells #[.slice a1 C.length k1, .slice a2 O.length k2] 50)) wr) (fun _ _ iv _ => C.length - (intOf iv).toNat)
  case atStart => exact ⟨0, Nat.zero_le _, rfl, rfl, fun j h => absurd h (by omega), Ext.refl _⟩
  case round =>
    obtain ⟨wo, rfl⟩ : ∃ wo : World, wo = wr := ⟨_, rfl⟩
    obtain ⟨k, hk', rfl, rfl, hall, E⟩ := hrel
    have HA := hid hall
    clear hall
    by_cases hlt : k < C.length
    · obtain ⟨b, off, rfl, _, n1, n2, hc⟩ := seg_cells M1.out (by omega)
      have c0 := E.cell (E0.cell (hc k _ (cS_at0 C k hlt)))
      have hsz := hk _ (List.getElem_mem hlt)
      have RK := hid (rkey_any C[k] wo hsz)
      have hcp := hid (cut_prev hlt)
      have hps := hid (prevS_succ hlt)
      unfold maxLen at n2
      generalize prevS C k = lst at hcp ⊢
      generalize C[k] = key at c0 RK hcp hps hsz
      cases hkb : keyB key with
      | false =>
        rw [hkb] at RK hcp
        have RK2 := hid RK.out
        have hr := hid (mapErr_cut h12 HL.out hlt (show cutOk C k = false by rw [hcp.out]; rfl))
        go_wp2_with fail
        refine (RK2.out).mono ?_
        rintro e w' ⟨rfl, E'⟩
        go_wp2
        go_ret
        exact ⟨rI hr.out.symm, E0.trans (E.trans E')⟩
      | true =>
        rw [hkb] at RK hcp
        have RK2 := hid RK.out
        cases hb : blt lst key with
        | false =>
          have hr := hid (mapErr_cut h12 HL.out hlt (show cutOk C k = false by rw [hcp.out, hb]; rfl))
          cases hb2 : blt key lst with
          | true =>
            have hb3 : Op.bytesLess key.toList lst.toList = true := hb2
            clear hb hb2
            go_wp2_with fail
            refine (RK2.out).mono ?_
            rintro e w' ⟨rfl, E'⟩
            go_wp2
            go_ret
            exact ⟨rI hr.out.symm, E0.trans (E.trans E')⟩
          | false =>
            have hb3 : Op.bytesLess key.toList lst.toList = false := hb2
            have hb4 : (key.toList == lst.toList) = true := by
              rcases bl_tri key.toList lst.toList with h | h | h
              · rw [hb3] at h; cases h
              · simpa using h
              · have h' : blt lst key = true := h
                rw [hb] at h'; cases h'
            have hb5 : key.toList = lst.toList := by simpa using hb4
            clear hb hb2
            go_wp2_with fail
            refine (RK2.out).mono ?_
            rintro e w' ⟨rfl, E'⟩
            go_wp2
            go_ret
            exact ⟨rI hr.out.symm, E0.trans (E.trans E')⟩
        | true =>
          have hb3 : Op.bytesLess key.toList lst.toList = false := blt_asymm hb
          have hb4 : (key.toList == lst.toList) = false := by
            cases h : (key.toList == lst.toList) with
            | false => rfl
            | true =>
              have h' : key = lst := toList_inj (by simpa using h)
              rw [h', blt_irrefl] at hb; cases hb
          have hb5 : ¬ key.toList = lst.toList := by simpa using hb4
          have hst := hid (show cutOk C k = true by rw [hcp.out, hb]; rfl)
          go_wp2_with fail
          refine (RK2.out).mono ?_
          rintro e w' ⟨rfl, E'⟩
          go_wp2
          go_roundw
          case rel => exact ⟨k + 1, by omega, by go_num, by rw [hps.out], allTo_snoc HA.out hst.out, E.trans E'⟩
          case measure => simp [intOf] <;> omega
    · obtain rfl : k = C.length := by omega
      have xx := blk2 (E.heap B0.out)
      have CF := hid (containsF_Int 50 #[] enMap1 (fun n => !(decide (0 ≤ n) && decide (n ≤ 3))) (.slice a2 O.length k2) O wo ((M2.out.ext E0).ext E) (fun x _ w' _ => rmap1_any x w'))
      have ho := hid (own_any O)
      have hr := hid (show mapErr C O = if (O.any fun n => !(decide (0 ≤ n) && decide (n ≤ 3))) = true then 1 else 0 by
        unfold mapErr
        rw [if_neg h12, if_neg (by simp [HL.out]), if_pos (all_true HA.out), own_any]
        cases (O.any fun n => !(decide (0 ≤ n) && decide (n ≤ 3))) <;> rfl)
      generalize (O.any fun n => !(decide (0 ≤ n) && decide (n ≤ 3))) = ob at CF ho hr
      go_wp2_with fail
      refine (CF.out).mono ?_
      rintro e w' ⟨rfl, E'⟩
      cases ob with
      | true =>
        go_wp2
        go_ret
        exact ⟨rI (by rw [hr.out]; rfl), E0.trans (E.trans E')⟩
      | false =>
        go_wp2
        go_ret
        exact ⟨rI (by rw [hr.out]; rfl), E0.trans (E.trans E')⟩
end Go.Proofs.YtghemmmkbpfdhaaGreatDoor
