/- Contracts and lemmas for the proof of CopiesSame; each theorem states its own conditions. -/
import Derived.Test.YtimchedebcoohaaGreatQCopiesSamebt
import Derived.Test.YtimchedebcoohaaGreatQCopiesSamebg
import Derived.Shelf.Strings.SlTrimAscii
import Derived.Ground.NamesProg
import Derived.Test.YtimchedebcoohaaGreatProg
import Derived.Test.YtimchedebcoohaaGreatQCopiesSameaa
import Derived.Test.YtimchedebcoohaaGreatQCopiesSameap
import Derived.Test.YtimchedebcoohaaGreatQCopiesSameaf
import Derived.Test.YtimchedebcoohaaGreatQCopiesSamean
import Derived.Lib.SlTrimSet
import Derived.Test.YtimchedebcoohaaGreatQCopiesSameaq
import Derived.Test.YtimchedebcoohaaGreatQCopiesSamear
import Derived.Test.YtimchedebcoohaaGreatQCopiesSameat
import Derived.WalkLawsBesides
import Derived.Carry
import Derived.Test.YtimchedebcoohaaGreatQCopiesSameam
import Derived.Test.YtimchedebcoohaaGreatQCopiesSamebi
import Derived.Test.YtimchedebcoohaaGreatQCopiesSameas
set_option linter.unusedVariables false
set_option linter.unusedSimpArgs false
/- Contracts and lemmas for the proofs of this seat; each theorem states its own conditions. -/
namespace Go.Proofs.YtimchedebcoohaaGreat
open Go.RowKit
/-- what stands after k rounds of Plain: w1 is the world ahead of the loop -/
def PS (w1 wr : World) (bx : Nat) (C : List ByteArray) (O : List Int) (k : Nat) : Prop :=
  ∃ a1 c1 a2 c2, wr.heap[bx]? = some (.cells #[.slice a1 (pl C O k).1.length c1, .slice a2 (pl C O k).2.length c2] 26 (0, 0)) ∧
    wr.ownsRow w1.heap.size 9 1 (.slice a1 (pl C O k).1.length c1) (pl C O k).1.length (cS (pl C O k).1) ∧
    wr.ownsRow w1.heap.size 3 1 (.slice a2 (pl C O k).2.length c2) (pl C O k).2.length (cI (pl C O k).2) ∧ Ext w1 wr
theorem PS_no {w1 wr : World} {bx : Nat} {C : List ByteArray} {O : List Int} {k : Nat} (h : PS w1 wr bx C O k) (ht : O.getD (k + 1) 0 = lastO (pl C O k).2) : PS w1 wr bx C O (k + 1) := by
  have e : pl C O (k + 1) = pl C O k := by simp only [pl, if_pos ht]
  unfold PS; rw [e]; exact h
theorem PS_yes {w1 w' : World} {bx : Nat} {C : List ByteArray} {O : List Int} {k : Nat} (hk : k < C.length) (hk' : k + 1 < O.length) (ht : O[k + 1] ≠ lastO (pl C O k).2) {v1 v2 : Value} {L : Nat → Bool} {x : Nat → Value}
    (h : TP w1 bx v1 v2 (pl C O k).1 (pl C O k).2 C[k] O[k + 1] L x w') (h4 : L 4 = true) (h9 : L 9 = true) (h11 : L 11 = true) (h13 : L 13 = true) : PS w1 w' bx C O (k + 1) := by
  have eO : O.getD (k + 1) 0 = O[k + 1] := by simp [hk']
  have e : pl C O (k + 1) = ((pl C O k).1 ++ [C[k]], (pl C O k).2 ++ [O[k + 1]]) := by simp only [pl, eO, if_neg ht, kAt_eq hk]
  obtain ⟨⟨a4, c4, e4⟩, o4⟩ := h.oa' h4
  obtain ⟨⟨a9, c9, e9⟩, o9⟩ := h.ob' h9
  have b := h.box
  rw [h11, h13, if_pos rfl, if_pos rfl, e4, e9] at b
  rw [e4] at o4; rw [e9] at o9
  unfold PS
  rw [e]
  simp only [List.length_append, List.length_singleton]
  exact ⟨a4, c4, a9, c9, b, by simpa [cS] using o4, by simpa [cI] using o9, h.ext⟩
end Go.Proofs.YtimchedebcoohaaGreat

/- Contracts and lemmas for the proofs of this seat; each theorem states its own conditions. -/
namespace Go.Proofs.YtimchedebcoohaaGreat
open Go.RowKit
end Go.Proofs.YtimchedebcoohaaGreat

/- Contracts and lemmas for the proofs of this seat; each theorem states its own conditions. -/
namespace Go.Proofs.YtimchedebcoohaaGreat
open Go.RowKit
/-! shard.Plain, Same, Part at whatever is handed in -/
theorem nilMap_is (w : World) : IsMap w nilMap [] [] := ⟨_, _, rfl, Seg.nil _ _, Seg.nil _ _⟩
theorem mapOk_of {C : List ByteArray} {O : List Int} (h : mapErr C O = 0) : MapOk C O := ok_of_mapErr h
def sameE (C C2 : List ByteArray) (O O2 : List Int) : Int := if mapErr C O ≠ 0 then mapErr C O else mapErr C2 O2
def sameV (C C2 : List ByteArray) (O O2 : List Int) : Bool := if sameE C C2 O O2 = 0 then sameB (pl C O C.length).1 (pl C2 O2 C2.length).1 (pl C O C.length).2 (pl C2 O2 C2.length).2 else false
def partE (C : List ByteArray) (O : List Int) (l : Prs) (n : Int) : Int := if mapErr C O ≠ 0 then mapErr C O else if storeErr l ≠ 0 then storeErr l else if n < 0 ∨ 4 ≤ n then 1 else 0
set_option maxRecDepth 10000 in
set_option maxHeartbeats 1000000 in
theorem part_bad (vm vl : Value) (C : List ByteArray) (O : List Int) (l : Prs) (n : Int) (w : World) (hm : IsMap w vm C O) (hk : ∀ k ∈ C, k.size ≤ 9223372036854775807) (hv : Seg w vl 2 l.length (cP l)) (sk : ∀ p ∈ l, p.1.size ≤ 9223372036854775807) (he : partE C O l n ≠ 0) :
    Calls Tryz.prog 23 #[vm, vl, .int .i64 n] w fun e w' => e = .returned (.tuple #[.slice none 0 0, .int .i64 (partE C O l n)]) ∧ Ext w w' := by
  obtain ⟨a1, k1, a2, k2, rfl, m1, m2⟩ := hm.unpack
  have b1 := heap_1 w (.cells #[.slice a1 C.length k1, .slice a2 O.length k2] 26) (.cells #[.int .i64 n] 3)
  have b2 := heap_2 w (.cells #[.slice a1 C.length k1, .slice a2 O.length k2] 26) (.cells #[.int .i64 n] 3)
  have E0 := ((Ext.refl w).alloc (.cells #[.slice a1 C.length k1, .slice a2 O.length k2] 26)).alloc (.cells #[.int .i64 n] 3)
  obtain ⟨w0, hw0⟩ : ∃ w0, (w.alloc (.cells #[.slice a1 C.length k1, .slice a2 O.length k2] 26)).alloc (.cells #[.int .i64 n] 3) = w0 := ⟨_, rfl⟩
  rw [hw0] at b1 b2 E0
  have x1 := blk2 b1
  have x2 := cell_of_one b2
  obtain ⟨al, cl, rfl⟩ := seg_form hv
  have MC := hid (mcheck_any _ C O w0 (hm.ext E0) hk)
  have SC := hid (fun w' (q : Ext w0 w') => scheck_any _ l w' (hv.ext (E0.trans q)) sk)
  have HPE := hid (show partE C O l n = if mapErr C O ≠ 0 then mapErr C O else if storeErr l ≠ 0 then storeErr l else if n < 0 ∨ 4 ≤ n then 1 else 0 from rfl)
  clear m1 m2 hm hv
  by_cases g1 : mapErr C O = 0
  · rw [g1] at MC
    by_cases g2 : storeErr l = 0
    · have hbad : n < 0 ∨ 4 ≤ n := by
        by_cases q : n < 0 ∨ 4 ≤ n
        · exact q
        · rw [HPE.out, if_neg (by simp [g1]), if_neg (by simp [g2]), if_neg q] at he; exact absurd rfl he
      have e1 : partE C O l n = 1 := by rw [HPE.out, if_neg (by simp [g1]), if_neg (by simp [g2]), if_pos hbad]
      rw [e1]
      rw [g2] at SC
      clear e1 he HPE g1 g2
      by_cases hn : n < 0
      · clear hbad
        go_enter Tryz.func23, Tryz.ntmps23
        go_wp2_with fail
        refine (MC.out).mono ?_
        rintro e w1 ⟨rfl, E1⟩
        have SC1 := hid (SC.out w1 E1)
        clear MC SC hw0
        go_wp2_with fail
        refine (SC1.out).mono ?_
        rintro e w2 ⟨rfl, E2⟩
        have y2 := (E1.trans E2).cell x2
        clear SC1
        go_wp2
        go_ret2
        exact ⟨rfl, E0.trans (E1.trans E2)⟩
      · have hn4 : n ≥ 4 := by omega
        clear hbad
        go_enter Tryz.func23, Tryz.ntmps23
        go_wp2_with fail
        refine (MC.out).mono ?_
        rintro e w1 ⟨rfl, E1⟩
        have SC1 := hid (SC.out w1 E1)
        clear MC SC hw0
        go_wp2_with fail
        refine (SC1.out).mono ?_
        rintro e w2 ⟨rfl, E2⟩
        have y2 := (E1.trans E2).cell x2
        clear SC1
        go_wp2
        go_ret2
        exact ⟨rfl, E0.trans (E1.trans E2)⟩
    · have e1 : partE C O l n = storeErr l := by rw [HPE.out, if_neg (by simp [g1]), if_pos g2]
      rw [e1]
      have q : (storeErr l != 0) = true := by simp [g2]
      clear e1 he HPE g1 g2
      generalize storeErr l = er at SC q ⊢
      go_enter Tryz.func23, Tryz.ntmps23
      go_wp2_with fail
      refine (MC.out).mono ?_
      rintro e w1 ⟨rfl, E1⟩
      have SC1 := hid (SC.out w1 E1)
      clear MC SC hw0
      go_wp2_with fail
      refine (SC1.out).mono ?_
      rintro e w2 ⟨rfl, E2⟩
      clear SC1
      go_wp2
      go_ret2
      exact ⟨rfl, E0.trans (E1.trans E2)⟩
  · have e1 : partE C O l n = mapErr C O := by rw [HPE.out, if_pos g1]
    rw [e1]
    have q : (mapErr C O != 0) = true := by simp [g1]
    clear e1 he HPE g1 SC
    generalize mapErr C O = er at MC q ⊢
    go_enter Tryz.func23, Tryz.ntmps23
    go_wp2_with fail
    refine (MC.out).mono ?_
    rintro e w1 ⟨rfl, E1⟩
    clear MC hw0
    go_wp2
    go_ret2
    exact ⟨rfl, E0.trans E1⟩
theorem part_all (vm vl : Value) (C : List ByteArray) (O : List Int) (l : Prs) (n : Int) (w : World) (hm : IsMap w vm C O) (hk : ∀ k ∈ C, k.size ≤ 9223372036854775807) (hv : Seg w vl 2 l.length (cP l)) (sk : ∀ p ∈ l, p.1.size ≤ 9223372036854775807) (hlen : l.length ≤ 1000000) :
    Calls Tryz.prog 23 #[vm, vl, .int .i64 n] w fun e w' => ∃ v' L, e = .returned (.tuple #[v', .int .i64 (partE C O l n)]) ∧ w'.ownsRow w.heap.size 33 2 v' L.length (cP L) ∧ (partE C O l n = 0 → L = partP C O l n) ∧ (partE C O l n ≠ 0 → L = []) ∧ Ext w w' := by
  by_cases h : partE C O l n = 0
  · have h1 : mapErr C O = 0 := by
      by_cases q : mapErr C O = 0
      · exact q
      · unfold partE at h; rw [if_pos q] at h; exact h
    have h2 : storeErr l = 0 := by
      by_cases q : storeErr l = 0
      · exact q
      · unfold partE at h; rw [if_neg (by simp [h1]), if_pos q] at h; exact h
    have h3 : ¬ (n < 0 ∨ 4 ≤ n) := by
      intro q
      unfold partE at h; rw [if_neg (by simp [h1]), if_neg (by simp [h2]), if_pos q] at h; cases h
    refine (part_ok vm vl C O l n w hm (mapOk_of h1) hk hv (store_ok h2) hlen (by omega) (by omega)).mono ?_
    rintro e w' ⟨v', rfl, ho, E⟩
    exact ⟨v', _, by rw [h], ho, fun _ => rfl, fun q => absurd h q, E⟩
  · refine (part_bad vm vl C O l n w hm hk hv sk h).mono ?_
    rintro e w' ⟨rfl, E⟩
    exact ⟨_, [], rfl, World.ownsRow_nil _ _ _ _, fun q => absurd q h, fun _ => rfl, E⟩
end Go.Proofs.YtimchedebcoohaaGreat

/- Contracts and lemmas for the proofs of this seat; each theorem states its own conditions. -/
namespace Go.Proofs.YtimchedebcoohaaGreat
open Go.Shelf
end Go.Proofs.YtimchedebcoohaaGreat

/- Contracts and lemmas for the proofs of this seat; each theorem states its own conditions. -/
namespace Go.Proofs.YtimchedebcoohaaGreat
open Go.RowKit
end Go.Proofs.YtimchedebcoohaaGreat

/- Contracts and lemmas for the proofs of this seat; each theorem states its own conditions. -/
namespace Go.Proofs.YtimchedebcoohaaGreat
open Go.RowKit
/-! the document's Key, Map, Whose -/
def alphaB : List UInt8 := [97, 98, 99, 100, 101, 102, 103, 104, 105, 106, 107, 108, 109, 110, 111, 112, 113, 114, 115, 116, 117, 118, 119, 120, 121, 122]
theorem alpha_let (c : UInt8) : alphaB.contains c = letB c := by
  have h : ∀ n : Fin 256, alphaB.contains (UInt8.ofNat n.val) = letB (UInt8.ofNat n.val) := by decide +kernel
  have := h ⟨c.toNat, c.toNat_lt⟩
  simpa using this
theorem dropWhile_nil {α : Type} {p : α → Bool} : ∀ {l : List α}, l.dropWhile p = [] ↔ l.all p = true
  | [] => by simp
  | x :: l => by
    rw [List.dropWhile_cons, List.all_cons]
    cases h : p x
    · simp
    · simp [dropWhile_nil (l := l)]
theorem all_rev {α : Type} (p : α → Bool) (l : List α) : l.reverse.all p = l.all p := by
  rw [Bool.eq_iff_iff, List.all_eq_true, List.all_eq_true]; simp
theorem drop_sub {α : Type} (p : α → Bool) : ∀ (l : List α), (l.dropWhile p).all p = l.all p
  | [] => rfl
  | x :: l => by
    rw [List.dropWhile_cons]
    cases h : p x
    · simp
    · simp [h, drop_sub p l]
theorem trim_nil (l cs : List UInt8) : Lib.trimS l cs = [] ↔ l.all (cs.contains ·) = true := by
  unfold Lib.trimS Lib.trimLeftS Lib.trimRightS
  rw [dropWhile_nil, all_rev, drop_sub, all_rev]
theorem key_trim {s : ByteArray} (h1 : 1 ≤ s.size) (h2 : s.size ≤ 6) : keyB s = decide (Lib.trimS s.data.toList alphaB = []) := by
  rw [Bool.eq_iff_iff, decide_eq_true_eq, trim_nil]
  have hne : s.toList.isEmpty = false := by
    have := size_toList s
    cases e : s.toList with
    | nil => rw [e] at this; simp at this; omega
    | cons a l => rfl
  have hal : s.toList.all letB = s.data.toList.all (alphaB.contains ·) := by
    rw [toList_data]; congr 1; funext c; exact (alpha_let c).symm
  simp [keyB, hne, h2, hal]
end Go.Proofs.YtimchedebcoohaaGreat

/- Contracts and lemmas for the proofs of this seat; each theorem states its own conditions. -/
namespace Go.Proofs.YtimchedebcoohaaGreat
open Go.RowKit
/-- the key ahead of the k-th one -/
def prevS (C : List ByteArray) (k : Nat) : ByteArray := if k = 0 then ⟨#[]⟩ else C.getD (k - 1) ⟨#[]⟩
theorem prevS_succ {C : List ByteArray} {k : Nat} (h : k < C.length) : prevS C (k + 1) = C[k] := by simp [prevS, h]
theorem blt_empty {s : ByteArray} (h : keyB s = true) : blt ⟨#[]⟩ s = true := by
  have h1 : ¬ s.toList = [] := by simp [keyB] at h; simpa using h.1.1
  unfold blt
  cases e : s.toList with
  | nil => exact absurd e h1
  | cons a l =>
    have : (⟨#[]⟩ : ByteArray).toList = [] := by rw [toList_data]
    rw [this]; rfl
theorem cut_prev {C : List ByteArray} {k : Nat} (h : k < C.length) : cutOk C k = (keyB C[k] && blt (prevS C k) C[k]) := by
  cases hk : keyB C[k] with
  | false => rw [cutOk_key h hk]; rfl
  | true =>
    cases k with
    | zero => rw [cutOk_zero h hk]; simp [prevS, blt_empty hk]
    | succ k =>
      rw [prevS_succ (show k < C.length by omega)]
      cases hb : blt (C[k]'(by omega)) C[k + 1] with
      | false => rw [cutOk_lt h hb]; rfl
      | true => rw [cutOk_yes h hk hb]; rfl
theorem own_any (O : List Int) : (List.range O.length).all (ownOk O) = !(O.any fun n => !(decide (0 ≤ n) && decide (n ≤ 3))) := by
  rw [Bool.eq_iff_iff]
  simp only [List.all_eq_true, List.mem_range, Bool.not_eq_true', List.any_eq_false]
  constructor
  · intro h x hx
    obtain ⟨i, hi, rfl⟩ := List.mem_iff_getElem.1 hx
    have := h i hi
    simp [ownOk, hi] at this
    simp; omega
  · intro h i hi
    have := h O[i] (List.getElem_mem hi)
    simp at this
    simp [ownOk, hi]; omega
theorem allTo_snoc {p : Nat → Bool} {k : Nat} (h : allTo p k) (hk : p k = true) : allTo p (k + 1) := fun j hj => by
  rcases Nat.lt_or_ge j k with h' | h'
  · exact h j h'
  · have : j = k := by omega
    subst this; exact hk
end Go.Proofs.YtimchedebcoohaaGreat

/- Contracts and lemmas for the proofs of this seat; each theorem states its own conditions. -/
namespace Go.Proofs.YtimchedebcoohaaGreat
open Go.RowKit Go.Maps
/-! maps of texts to numbers: m[k] -/
/-- what is there, 0 if nothing is -/
def atF (f : ByteArray → Option Int) (k : ByteArray) : Int := (f k).getD 0
section
variable {P : Program} (w : World) {ops : Array Oper} {rest : List Oper} {o : Oper} {a : Act} {Q : Exit → Act → World → Prop}
theorem wpList_lookup_mi (hg : o.guard = none) (m x : Operand) (t : TypeId) (hop : o.op = Op.lookup t m x false)
    (k e : TypeId) (K : Keyed P k) (ht : P.underlying t = some (.map k e)) (he : P.underlying e = some (.int .i64)) (hz : (zeroValue e).run P w = .ok (.int .i64 0) w) (b n : Nat) (D : DU) (f : ByteArray → Option Int) (hF : MapF kS okS dI D f)
    (hm : a.eval m = .map (some b)) (hown : w.ownsMap P k (plainElem P e) b n D) (key : Value) (kk : ByteArray) (hkk : okS kk) (hx : a.eval x = key) (hkey : Go.keyOf P k key = some (kS kk))
    (hK : wpList P ops Q rest (a.put o.dst (.int .i64 (atF f kk))) w) : wpList P ops Q (o :: rest) a w :=
  wpList_lookup_own_int w hg m x t hop k e .i64 K ht he hz b n D hm hown key _ hx hkey fun c hat _ => by
    have := hF.look dI_inj hkk hat
    subst this; exact hK
theorem wpList_lookup_mig (hg : Region.wanted o (yielded ops a.tmps) = true) (m x : Operand) (t : TypeId) (hop : o.op = Op.lookup t m x false)
    (k e : TypeId) (K : Keyed P k) (ht : P.underlying t = some (.map k e)) (he : P.underlying e = some (.int .i64)) (hz : (zeroValue e).run P w = .ok (.int .i64 0) w) (b n : Nat) (D : DU) (f : ByteArray → Option Int) (hF : MapF kS okS dI D f)
    (hm : a.eval m = .map (some b)) (hown : w.ownsMap P k (plainElem P e) b n D) (key : Value) (kk : ByteArray) (hkk : okS kk) (hx : a.eval x = key) (hkey : Go.keyOf P k key = some (kS kk))
    (hK : wpList P ops Q rest (a.put o.dst (.int .i64 (atF f kk))) w) : wpList P ops Q (o :: rest) a w := by
  refine wpList_step fun K' hK' => ?_
  rw [if_pos hg]
  obtain ⟨c, hrun, hat, hwc⟩ := hown.lookup_int K ht he hz hkey
  have := hF.look dI_inj hkk hat
  subst this
  unfold Oper.wp
  simp [execOp, hop, hm, hx, hrun, Result.andThen]
  exact hK' _ _ hK
end
end Go.Proofs.YtimchedebcoohaaGreat

/- Contracts and lemmas for the proofs of this seat; each theorem states its own conditions. -/
namespace Go.Proofs.YtimchedebcoohaaGreat
open Go.RowKit Go.Maps
/-! the document's Value, Store, Of -/
/-- what Of's map holds after k pairs -/
def ofF (l : Prs) : Nat → ByteArray → Option Int
  | 0 => fun _ => none
  | k + 1 => fun x => if x = (l.getD k (⟨#[]⟩, 0)).1 then some (l.getD k (⟨#[]⟩, 0)).2 else ofF l k x
theorem ofF_step (l : Prs) {k : Nat} (h : k < l.length) : ofF l (k + 1) = fun x => if x = l[k].1 then some l[k].2 else ofF l k x := by
  rw [ofF, show l.getD k (⟨#[]⟩, 0) = l[k] by simp [h]]
def PrsW (l : Prs) : Prop := ∀ p ∈ l, p.1.size ≤ maxLen ∧ -9223372036854775808 ≤ p.2 ∧ p.2 ≤ 9223372036854775807
def ORel (w : World) (l : Prs) (k : Nat) (wr : World) : Prop :=
  ∃ (D : DU), wr.ownsMap Tryz.prog 9 (plainElem Tryz.prog 3) w.heap.size k D ∧ MapF kS okS dI D (ofF l k) ∧ Ext w wr
theorem orel_put {w w3 : World} {l : Prs} {k : Nat} {D : DU} {key : ByteArray} {c : Int} (hF : MapF kS okS dI D (ofF l k)) (hst : ofF l (k + 1) = fun x => if x = key then some c else ofF l k x) (hk : key.size ≤ maxLen)
    (hown : w3.ownsMap Tryz.prog 9 (plainElem Tryz.prog 3) w.heap.size (k + 1) (D.put (kS key) (dI c))) (E : Ext w w3) : ORel w l (k + 1) w3 :=
  ⟨_, hown, by rw [hst]; exact hF.put kS_inj kS_is hk c, E⟩
end Go.Proofs.YtimchedebcoohaaGreat

/- Contracts and lemmas for the proofs of this seat; each theorem states its own conditions. -/
namespace Go.Proofs.YtimchedebcoohaaGreat
open Go.RowKit
/-! the document's Store -/
def prevP (l : Prs) (k : Nat) : ByteArray := if k = 0 then ⟨#[]⟩ else (l.getD (k - 1) (⟨#[]⟩, 0)).1
theorem prevP_succ {l : Prs} {k : Nat} (h : k < l.length) : prevP l (k + 1) = l[k].1 := by simp [prevP, h]
theorem prevP_blt {l : Prs} {k : Nat} (hk : k < l.length) (h : keyB l[k].1 = true) : (blt (prevP l k) l[k].1 = true) ↔ (0 < k → blt (l[k - 1]'(by omega)).1 l[k].1 = true) := by
  cases k with
  | zero => simp [prevP, blt_empty h]
  | succ k =>
    rw [prevP_succ (show k < l.length by omega)]
    simp
theorem leq_of_blt {a b : ByteArray} (h : blt a b = true) : Op.bytesLess b.toList a.toList = false ∧ (b.toList == a.toList) = false ∧ ¬ b.toList = a.toList := by
  have h4 : (b.toList == a.toList) = false := by
    cases hh : (b.toList == a.toList) with
    | false => rfl
    | true =>
      have h' : b = a := toList_inj (by simpa using hh)
      rw [h', blt_irrefl] at h; cases h
  exact ⟨blt_asymm h, h4, by simpa using h4⟩
theorem leq_of_not {a b : ByteArray} (h : blt a b = false) : Op.bytesLess b.toList a.toList = true ∨ (Op.bytesLess b.toList a.toList = false ∧ (b.toList == a.toList) = true ∧ b.toList = a.toList) := by
  cases h2 : Op.bytesLess b.toList a.toList with
  | true => exact .inl rfl
  | false =>
    refine .inr ⟨rfl, ?_⟩
    have : b.toList = a.toList := by
      rcases bl_tri b.toList a.toList with h' | h' | h'
      · rw [h2] at h'; cases h'
      · exact h'
      · have h'' : blt a b = true := h'
        rw [h] at h''; cases h''
    exact ⟨by simpa using this, this⟩
end Go.Proofs.YtimchedebcoohaaGreat

/- Contracts and lemmas for the proofs of this seat; each theorem states its own conditions. -/
namespace Go.Proofs.YtimchedebcoohaaGreat
open Go.RowKit
/-! the document's Deed -/
end Go.Proofs.YtimchedebcoohaaGreat

/- Contracts and lemmas for the proofs of this seat; each theorem states its own conditions. -/
namespace Go.Proofs.YtimchedebcoohaaGreat
open Go.RowKit Go.Maps
/-! the document's Touches -/
/-- a set of texts, as a map to true -/
def setF (L : List ByteArray) : ByteArray → Option Bool := fun x => if memB L x = true then some true else none
theorem setF_put {D : DU} {L : List ByteArray} {k : ByteArray} (h : MapF kS okS dB D (setF L)) (hk : okS k) : MapF kS okS dB (D.put (kS k) (dB true)) (setF (L ++ [k])) := by
  have := h.put kS_inj kS_is hk true
  refine (show (fun x => if x = k then some true else setF L x) = setF (L ++ [k]) from ?_) ▸ this
  funext x
  unfold setF
  by_cases e : x = k
  · simp [e, memB]
  · have e' : ¬ k = x := fun h => e h.symm
    have q : memB (L ++ [k]) x = memB L x := by simp [memB, e']
    rw [q]; simp [e]
theorem plainElem_bool {P : Program} {e : TypeId} (he : P.underlying e = some .bool) (b : Bool) : plainElem (H := Unit) P e (.bool b) = some (dB b, []) := by
  unfold plainElem
  rw [he]
  rfl
/-- two sets in memory -/
def TRel (w : World) (b c : Nat) (R W : List ByteArray) (wr : World) : Prop :=
  ∃ (D F : DU), wr.ownsMap Tryz.prog 9 (plainElem Tryz.prog 4) b R.length D ∧ MapF kS okS dB D (setF R) ∧ wr.ownsMap Tryz.prog 9 (plainElem Tryz.prog 4) c W.length F ∧ MapF kS okS dB F (setF W) ∧ Ext w wr
theorem TRel.ext {w w1 w2 : World} {b c : Nat} {R W : List ByteArray} (h : TRel w b c R W w1) (E : Ext w1 w2) : TRel w b c R W w2 := by
  obtain ⟨D, F, h1, h2, h3, h4, h5⟩ := h
  exact ⟨D, F, ownsMap_ext h1 E, h2, ownsMap_ext h3 E, h4, h5.trans E⟩
theorem TRel.lt {w w1 : World} {b c : Nat} {R W : List ByteArray} (h : TRel w b c R W w1) : b < w1.heap.size ∧ c < w1.heap.size := by
  obtain ⟨D, F, h1, h2, h3, h4, h5⟩ := h
  exact ⟨h1.lt, h3.lt⟩
theorem TRel.start (w w0 : World) (E : Ext w w0) : TRel w w0.heap.size (w0.heap.size + 1) [] [] ((w0.alloc (.map #[] 0)).alloc (.map #[] 0)) := by
  have h1 := (World.ownsMap_made w0 Tryz.prog 9 (plainElem (H := Unit) Tryz.prog 4)).alloc (.map #[] 0)
  have h2 := World.ownsMap_made (w0.alloc (.map #[] 0)) Tryz.prog 9 (plainElem (H := Unit) Tryz.prog 4)
  have e : setF [] = fun _ => none := by funext x; simp [setF, memB]
  exact ⟨.map [], .map [], h1, e ▸ MapF.empty, by simpa using h2, e ▸ MapF.empty, (E.alloc _).alloc _⟩
theorem ksz {k : ByteArray} (h : keyB k = true) : okS k := by
  have := keyB_size h
  unfold okS maxLen; omega
section
variable {ops : Array Oper} {rest : List Oper} {o : Oper} {a : Act} {Q : Exit → Act → World → Prop}
/-- one more in the first set -/
theorem wpList_setR {w0 w : World} {b c : Nat} {R W : List ByteArray} (hT : TRel w0 b c R W w) (hb : w0.heap.size ≤ b) (hne : b ≠ c) (hn : R.length < 1000) (hg : o.guard = none) (m x y : Operand) (t : TypeId) (hop : o.op = Op.mapUpdate t m x y)
    (ht : Tryz.prog.underlying t = some (.map 9 4)) (hm : a.eval m = .map (some b)) (k : ByteArray) (hk : keyB k = true) (hx : a.eval x = .string k) (hy : a.eval y = .bool true)
    (hK : ∀ w', TRel w0 b c (R ++ [k]) W w' → w.grownBy w' (some b) → wpList Tryz.prog ops Q rest (a.put o.dst undef) w') : wpList Tryz.prog ops Q (o :: rest) a w := by
  obtain ⟨D, F, h1, h2, h3, h4, h5⟩ := hT
  refine wpList_mapUpdate_own w hg m x y t hop 9 4 lawS ht _ b R.length D hm h1 (by unfold maxLen; omega) _ _ (kS k) hx hy (WideMaps.keyOf_string_mk Tryz.underlying9 (P := Tryz.prog) (k := 9) (s := k) (ksz hk)) (dB true) [] (plainElem_bool Tryz.underlying4 true) fun w' hown hgr => ?_
  exact hK w' ⟨_, F, by simpa using hown, setF_put h2 (ksz hk), h3.kept hgr (by simpa using Ne.symm hne), h4, h5.grown hgr (fun j hj => by injection hj with hj; omega)⟩ hgr
/-- one more in the second -/
theorem wpList_setW {w0 w : World} {b c : Nat} {R W : List ByteArray} (hT : TRel w0 b c R W w) (hb : w0.heap.size ≤ c) (hne : b ≠ c) (hn : W.length < 1000) (hg : o.guard = none) (m x y : Operand) (t : TypeId) (hop : o.op = Op.mapUpdate t m x y)
    (ht : Tryz.prog.underlying t = some (.map 9 4)) (hm : a.eval m = .map (some c)) (k : ByteArray) (hk : keyB k = true) (hx : a.eval x = .string k) (hy : a.eval y = .bool true)
    (hK : ∀ w', TRel w0 b c R (W ++ [k]) w' → w.grownBy w' (some c) → wpList Tryz.prog ops Q rest (a.put o.dst undef) w') : wpList Tryz.prog ops Q (o :: rest) a w := by
  obtain ⟨D, F, h1, h2, h3, h4, h5⟩ := hT
  refine wpList_mapUpdate_own w hg m x y t hop 9 4 lawS ht _ c W.length F hm h3 (by unfold maxLen; omega) _ _ (kS k) hx hy (WideMaps.keyOf_string_mk Tryz.underlying9 (P := Tryz.prog) (k := 9) (s := k) (ksz hk)) (dB true) [] (plainElem_bool Tryz.underlying4 true) fun w' hown hgr => ?_
  exact hK w' ⟨D, _, h1.kept hgr (by simpa using hne), h2, by simpa using hown, setF_put h4 (ksz hk), h5.grown hgr (fun j hj => by injection hj with hj; omega)⟩ hgr
end
end Go.Proofs.YtimchedebcoohaaGreat
