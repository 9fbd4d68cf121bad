/- Contracts and lemmas for the proof of TextSays; each theorem states its own conditions. -/
import Derived.Test.YtnepdfpooobmcaaGreatDoorQTextSaysba
import Derived.Test.YtnepdfpooobmcaaGreatDoorQTextSaysae
import Derived.Test.YtnepdfpooobmcaaGreatDoorQTextSaysbb
import Derived.Test.YtnepdfpooobmcaaGreatDoorQTextSaysad
import Derived.Test.YtnepdfpooobmcaaGreatDoorQTextSaysaq
import Derived.Test.YtnepdfpooobmcaaGreatDoorQTextSaysaa
import Derived.Test.YtnepdfpooobmcaaGreatDoorQTextSaysar
set_option linter.unusedVariables false
set_option linter.unusedSimpArgs false
/- Contracts and lemmas for the proofs of this seat; each theorem states its own conditions. -/
namespace Go.Proofs.YtnepdfpooobmcaaGreatDoor
open Go.RowKit
/-! text.Sum -/
end Go.Proofs.YtnepdfpooobmcaaGreatDoor

/- Contracts and lemmas for the proofs of this seat; each theorem states its own conditions. -/
namespace Go.Proofs.YtnepdfpooobmcaaGreatDoor
open Go.RowKit
/-! roref.Dec, roref.Sum -/
theorem dig_str : ∀ n : Fin 10, (⟨#[48, 49, 50, 51, 52, 53, 54, 55, 56, 57]⟩ : ByteArray).extract n.val (n.val + 1) = bA [UInt8.ofNat (48 + n.val)] := by decide +kernel
theorem dec_10 {u : Nat} (h : u < 10) : Lib.decDigits u = [UInt8.ofNat (48 + u)] := by rw [Lib.decDigits, dif_pos h]
theorem dec_split {u : Nat} (h : ¬ u < 10) : bA (Lib.decDigits u) = bA (Lib.decDigits (u / 10)) ++ bA (Lib.decDigits (u % 10)) := by
  rw [← bA_append, dec_10 (Nat.mod_lt u (by decide))]
  have e : Lib.decDigits u = Lib.decDigits (u / 10) ++ [UInt8.ofNat (48 + u % 10)] := by
    conv => lhs; rw [Lib.decDigits]
    rw [dif_neg h]
  rw [e]
theorem dec_small {u : Nat} (h : u ≤ 1000000000000) : (bA (Lib.decDigits u)).size ≤ 14 := by
  have := Lib.decDigits_length u
  rw [bA_size, this]
  have g : ∀ k u, Lib.nDigits u = k + 1 → 1 ≤ k → 10 ^ k ≤ u := by
    intro k
    induction k with
    | zero => intro u _ h; omega
    | succ k ih =>
      intro u h _
      by_cases hs : u < 10
      · rw [Lib.nDigits_small hs] at h; omega
      · rw [Lib.nDigits_big hs] at h
        by_cases hk : k = 0
        · subst hk; simp; omega
        · have := ih (u / 10) (by omega) (by omega)
          rw [Nat.pow_succ]; omega
  by_cases hq : Lib.nDigits u ≤ 14
  · exact hq
  · exfalso
    have := g (Lib.nDigits u - 1) u (by omega) (by omega)
    have : 10 ^ 14 ≤ 10 ^ (Lib.nDigits u - 1) := Nat.pow_le_pow_right (by omega) (by omega)
    omega
set_option maxRecDepth 100000 in
set_option maxHeartbeats 1000000 in
theorem decN_any (u : Nat) : u ≤ 1000000000000 → ∀ w, Calls Tryz.prog 105 #[.int .i64 u] w fun e w' => e = .returned (.string (bA (Lib.decDigits u))) ∧ w' = w := by
  induction u using Nat.strongRecOn with
  | _ u ih =>
    intro hu w
    by_cases h : u < 10
    · have h1 := dig_str ⟨u, h⟩
      rw [dec_10 h]
      simp only at h1
      rw [← h1]
      have q0 : ¬ ((u : Int) < 0) := by omega
      have q1 : ((u : Int) < 10) := by omega
      clear ih h1
      go_enter Tryz.func105, Tryz.ntmps105
      go_wp2
      go_ret
      exact ⟨rfl, rfl⟩
    · have q0 : ¬ ((u : Int) < 0) := by omega
      have q1 : ¬ ((u : Int) < 10) := by omega
      have q2 : (u : Int).tdiv 10 = ((u / 10 : Nat) : Int) := by rw [Int.tdiv_eq_ediv_of_nonneg (by omega)]; omega
      have q3 : (u : Int).tmod 10 = ((u % 10 : Nat) : Int) := by rw [Int.tmod_eq_emod_of_nonneg (by omega)]; omega
      have C1 := hid (ih (u / 10) (by omega) (by omega))
      have C2 := hid (ih (u % 10) (by omega) (by omega))
      have z1 := dec_small (u := u / 10) (by omega)
      have z2 := dec_small (u := u % 10) (by omega)
      have HE := hid (dec_split h)
      generalize bA (Lib.decDigits (u / 10)) = A at *
      generalize bA (Lib.decDigits (u % 10)) = B at *
      generalize bA (Lib.decDigits u) = R at *
      clear ih
      go_enter Tryz.func105, Tryz.ntmps105
      go_wp2_with fail
      refine (C1.out _).mono ?_
      rintro e w1 ⟨rfl, rfl⟩
      go_wp2_with fail
      refine (C2.out _).mono ?_
      rintro e w1 ⟨rfl, rfl⟩
      go_wp2
      go_ret
      exact ⟨by rw [HE.out]; rfl, rfl⟩
theorem itoa_pos (u : Nat) : Lib.itoa (u : Int) = Lib.decDigits u := by
  unfold Lib.itoa
  rw [if_neg (by omega)]
  congr 1
theorem itoa_neg {n : Int} (h : n < 0) : bA (Lib.itoa n) = ⟨#[45]⟩ ++ bA (Lib.decDigits n.natAbs) := by
  unfold Lib.itoa
  rw [if_pos h]
  show bA ([45] ++ Lib.decDigits n.natAbs) = _
  rw [bA_append]
  rfl
set_option maxRecDepth 100000 in
set_option maxHeartbeats 1000000 in
theorem dec_any (n : Int) (w : World) (h0 : -1000000000000 ≤ n) (h1 : n ≤ 1000000000000) : Calls Tryz.prog 105 #[.int .i64 n] w fun e w' => e = .returned (.string (bA (Lib.itoa n))) ∧ w' = w := by
  by_cases hn : n < 0
  · have HE := hid (itoa_neg hn)
    have C1 := hid (fun w' => decN_any n.natAbs (by omega) w')
    have z1 := dec_small (u := n.natAbs) (by omega)
    have q1 : ((n.natAbs : Nat) : Int) = -n := by omega
    rw [q1] at C1
    generalize bA (Lib.decDigits n.natAbs) = A at *
    generalize bA (Lib.itoa n) = R at *
    clear q1
    go_enter Tryz.func105, Tryz.ntmps105
    go_wp2_with fail
    refine (C1.out _).mono ?_
    rintro e w1 ⟨rfl, rfl⟩
    go_wp2
    go_ret
    exact ⟨by rw [HE.out]; rfl, rfl⟩
  · obtain ⟨u, rfl⟩ : ∃ u : Nat, n = u := ⟨n.toNat, by omega⟩
    rw [itoa_pos]
    exact decN_any u (by omega) w
end Go.Proofs.YtnepdfpooobmcaaGreatDoor

/- Contracts and lemmas for the proofs of this seat; each theorem states its own conditions. -/
namespace Go.Proofs.YtnepdfpooobmcaaGreatDoor
open Go.RowKit
/-! frames of things that turn: only what S names may turn; what it names later is of S, or new -/
def Kp (S : Nat → Prop) (w w' : World) (S' : Nat → Prop) : Prop :=
  (w'.os = w.os ∧ w'.tape = w.tape ∧ w'.output = w.output ∧ w.heap.size ≤ w'.heap.size) ∧
  (∀ i, i < w.heap.size → ¬ S i → w'.heap[i]? = w.heap[i]?) ∧ ∀ i, S' i → S i ∨ w.heap.size ≤ i
theorem Kp.of_ext {S : Nat → Prop} {w w' : World} (E : Ext w w') : Kp S w w' S := ⟨⟨E.os, E.tape, E.output, E.size'⟩, fun i hi _ => Below.block E i hi, fun i h => .inl h⟩
theorem Kp.refl (S : Nat → Prop) (w : World) : Kp S w w S := Kp.of_ext (Ext.refl w)
theorem Kp.size {S S' : Nat → Prop} {w w' : World} (h : Kp S w w' S') : w.heap.size ≤ w'.heap.size := h.1.2.2.2
theorem Kp.out {S S' : Nat → Prop} {w w' : World} (h : Kp S w w' S') {k : Nat} (hk : k < w.heap.size) (hS : ¬ S k) : ¬ S' k := fun q => by
  rcases h.2.2 k q with a | a
  · exact hS a
  · omega
theorem Kp.trans {S S' S'' : Nat → Prop} {a b c : World} (h : Kp S a b S') (k : Kp S' b c S'') : Kp S a c S'' := by
  have ho := fun i => h.out (k := i)
  obtain ⟨⟨h1, h2, h3, h4⟩, h5, h6⟩ := h
  obtain ⟨⟨k1, k2, k3, k4⟩, k5, k6⟩ := k
  refine ⟨⟨k1.trans h1, k2.trans h2, k3.trans h3, Nat.le_trans h4 k4⟩, fun i hi hS => ?_, fun i hi => ?_⟩
  · rw [k5 i (by omega) (ho i hi hS), h5 i hi hS]
  · rcases k6 i hi with q | q
    · exact h6 i q
    · right; omega
theorem Kp.ext {S S' : Nat → Prop} {a b c : World} (h : Kp S a b S') (E : Ext b c) : Kp S a c S' := h.trans (Kp.of_ext E)
theorem Kp.after {S S' : Nat → Prop} {a b c : World} (E : Ext a b) (h : Kp S b c S') : Kp S a c S' := (Kp.of_ext E).trans h
theorem Kp.heap {S S' : Nat → Prop} {w w' : World} (h : Kp S w w' S') {k : Nat} {o : Obj} (hk : w.heap[k]? = some o) (hS : ¬ S k) : w'.heap[k]? = some o := (h.2.1 k (Array.getElem?_eq_some_iff.1 hk).1 hS).trans hk
/-- v lies in none of S -/
def Off (S : Nat → Prop) (v : Value) : Prop := ∀ k, v.ownBlock = some k → ¬ S k
theorem Kp.own {S S' : Nat → Prop} {w w' : World} (h : Kp S w w' S') {B e sz n : Nat} {v : Value} {xs : List Value} (ho : w.ownsRow B e sz v n xs) (hS : Off S v) : w'.ownsRow B e sz v n xs := by
  refine ⟨ho.1, ?_⟩
  rcases ho.2 with hn | ⟨b, cap, cur, rfl, hb, hg, rest⟩
  · exact .inl hn
  · exact .inr ⟨b, cap, cur, rfl, hb, h.heap hg (hS b rfl), rest⟩
theorem Kp.off {S S' : Nat → Prop} {w w' : World} (h : Kp S w w' S') {B e sz n : Nat} {v : Value} {xs : List Value} (ho : w.ownsRow B e sz v n xs) (hS : Off S v) : Off S' v := fun k hk => h.out (ho.lt k hk).2 (hS k hk)
theorem Kp.of_grown {S : Nat → Prop} {w w' : World} {row : Option Nat} (hg : w.grownBy w' row) (hr : ∀ k, row = some k → S k) : Kp S w w' S :=
  ⟨⟨hg.os, hg.tape, hg.output, hg.size⟩, fun i hi hS => hg.block i hi (fun e => hS (hr i e.symm)), fun i h => .inl h⟩
theorem grown_set (w : World) (g i : Nat) (u : Value) : w.grownBy (w.setCell ⟨g, i, none⟩ u) (some g) := ⟨rfl, rfl, rfl, by simp [World.setCell], fun j hj hne => by
    have : g ≠ j := fun e => hne (by rw [e])
    simp [World.setCell, Array.getElem?_modify, this]⟩
theorem Kp.put {S S' : Nat → Prop} {w0 w : World} (h : Kp S w0 w S') {b i : Nat} (hS : S' b) (u : Value) : Kp S w0 (w.setCell ⟨b, i, none⟩ u) S' :=
  h.trans (Kp.of_grown (grown_set w b i u) (fun k e => by injection e with e; subst e; exact hS))
/-- what S names has elements of these types -/
def TyS (w : World) (S : Nat → Prop) (T : List Nat) : Prop := ∀ k, S k → ∃ cs e, w.heap[k]? = some (.cells cs e (0, 0)) ∧ e ∈ T
theorem TyS.lt {w : World} {S : Nat → Prop} {T : List Nat} (h : TyS w S T) {k : Nat} (hk : S k) : k < w.heap.size := by
  obtain ⟨_, _, h, _⟩ := h k hk
  exact (Array.getElem?_eq_some_iff.1 h).1
theorem TyS.off {w : World} {S : Nat → Prop} {T : List Nat} (h : TyS w S T) {B e sz n : Nat} {v : Value} {xs : List Value} (ho : w.ownsRow B e sz v n xs) (he : e ∉ T) : Off S v := fun k hk hS => by
  obtain ⟨cs, e', hg, hm⟩ := h k hS
  exact own_ne ho hg (fun q => he (q ▸ hm)) hk
theorem TyS.ext {w w' : World} {S : Nat → Prop} {T : List Nat} (h : TyS w S T) (E : Ext w w') : TyS w' S T := fun k hk => by
  obtain ⟨cs, e, hg, hm⟩ := h k hk
  exact ⟨cs, e, E.heap hg, hm⟩
end Go.Proofs.YtnepdfpooobmcaaGreatDoor

/- Contracts and lemmas for the proofs of this seat; each theorem states its own conditions. -/
namespace Go.Proofs.YtnepdfpooobmcaaGreatDoor
/-! merge of inputs, in plain lists -/
structure Ent where
  ops : Ops
  im : Bool
  cuts : List ByteArray
  own : List Int
abbrev Bat := List Ent
end Go.Proofs.YtnepdfpooobmcaaGreatDoor
