/- Contracts and lemmas for the proof of LockPlays; each theorem states its own conditions. -/
import Derived.Test.YtomgeolmfpijoaaDoorQLockPlaysbh
import Derived.Test.YtomgeolmfpijoaaDoorQLockPlaysah
import Derived.Test.YtomgeolmfpijoaaDoorQLockPlaysac
import Derived.Test.YtomgeolmfpijoaaDoorQLockPlaysak
import Derived.Test.YtomgeolmfpijoaaDoorQLockPlaysaq
set_option linter.unusedVariables false
set_option linter.unusedSimpArgs false
/- Contracts and lemmas for the proofs of this seat; each theorem states its own conditions. -/
namespace Go.Proofs.YtomgeolmfpijoaaDoor
open Go.RowKit Go.Maps
/-! the document's Clash -/
theorem plainElem_bool_inv2 {P : Program} {e : TypeId} (he : P.underlying e = some .bool) {v : Value} {z : DU × List MemPlace} (h : plainElem P e v = some z) : ∃ a, v = .bool a ∧ z = (dB a, []) := plainElem_bool_inv he h
/-- is a text in a set of one's own? -/
theorem look_set {w : World} {b n : Nat} {D : DU} {R : List ByteArray} (hown : w.ownsMap Tryd.prog 9 (plainElem Tryd.prog 4) b n D) (hF : MapF kS okS dB D (setF R)) {x : ByteArray} (hx : okS x) :
    (Instr.lookup 205 (.map (some b)) (.string x) false).run Tryd.prog w = .ok (.bool (memB R x)) w := by
  have hzero := Tryd.zeroValue4
  have hz : (zeroValue 4).run Tryd.prog w = .ok (.bool false) w := hzero w
  obtain ⟨v, ps, hrun, hv⟩ := hown.lookup lawS Tryd.underlying205 hz (plainElem_bool Tryd.underlying4 false) (WideMaps.keyOf_string_mk Tryd.underlying9 (P := Tryd.prog) (k := 9) (s := x) hx)
  obtain ⟨c, rfl, hc⟩ := plainElem_bool_inv Tryd.underlying4 hv
  have hc1 : D.atKey (kS x) (dB false) = dB c := congrArg Prod.fst hc
  have := hF.look dB_inj hx hc1
  rw [hrun, this]
  unfold setF
  cases memB R x <;> rfl
theorem TRel.look1 {w0 w : World} {b c : Nat} {R W : List ByteArray} (h : TRel w0 b c R W w) {x : ByteArray} (hx : okS x) : (Instr.lookup 205 (.map (some b)) (.string x) false).run Tryd.prog w = .ok (.bool (memB R x)) w := by
  obtain ⟨D, F, h1, h2, h3, h4, h5⟩ := h
  exact look_set h1 h2 hx
theorem TRel.look2 {w0 w : World} {b c : Nat} {R W : List ByteArray} (h : TRel w0 b c R W w) {x : ByteArray} (hx : okS x) : (Instr.lookup 205 (.map (some c)) (.string x) false).run Tryd.prog w = .ok (.bool (memB W x)) w := by
  obtain ⟨D, F, h1, h2, h3, h4, h5⟩ := h
  exact look_set h3 h4 hx
theorem wrs_okS {d : Ops} (h : DeedOk d) : (∀ k ∈ rds d, okS k) ∧ ∀ k ∈ wrs d, okS k := by
  refine ⟨fun k hk => ?_, fun k hk => ?_⟩
  · unfold rds at hk
    obtain ⟨o, ho, hk⟩ := List.mem_flatMap.1 hk
    have oo := h.ops o ho
    rcases kinds oo with e | e | e | e | e
    all_goals simp [rdO, e] at hk
    · subst hk; exact ksz oo.key
    · subst hk; exact ksz (oo.from_ (.inl e)).1
    · subst hk; exact ksz oo.key
    · rcases hk with rfl | rfl
      · exact ksz oo.key
      · exact ksz (oo.from_ (.inr e)).1
  · unfold wrs at hk
    obtain ⟨o, ho, hk⟩ := List.mem_flatMap.1 hk
    have oo := h.ops o ho
    rcases kinds oo with e | e | e | e | e
    all_goals simp [wrO, e] at hk
    · subst hk; exact ksz oo.key
    · subst hk; exact ksz oo.key
    · subst hk; exact ksz oo.key
    · rcases hk with rfl | rfl
      · exact ksz oo.key
      · exact ksz (oo.from_ (.inr e)).1
/-- a loop over a set of texts: what stands behind it, and what has been seen -/
def CRel (w : World) (b r n : Nat) (D : DU) (P : ByteArray → Prop) (wr : World) : Prop :=
  ∃ (left : Lit → Bool) (cnt : Nat), wr.ranges Tryd.prog 9 (plainElem Tryd.prog 4) b r n D left cnt ∧ (∀ k, okS k → left (kS k) = false → P k) ∧ Ext w wr
theorem CRel.step {left : Lit → Bool} {P : ByteArray → Prop} {x : ByteArray} (hP : ∀ k, okS k → left (kS k) = false → P k) (hx : P x) : ∀ k, okS k → (left (kS k) && !(kS k).sameKey (kS x)) = false → P k := by
  intro k hk h
  by_cases e : k = x
  · subst e; exact hx
  · rw [sameKey_kS e] at h
    exact hP k hk (by simpa using h)
theorem clash_t1 {a b : Ops} {k : ByteArray} (h : k ∈ wrs a) (m : memB (rds b) k = true) : clashB a b = true := by
  have : meets (wrs a) (rds b) = true := meets_iff.2 ⟨k, h, memB_iff.1 m⟩
  simp [clashB, this]
theorem clash_t2 {a b : Ops} {k : ByteArray} (h : k ∈ wrs a) (m : memB (wrs b) k = true) : clashB a b = true := by
  have : meets (wrs a) (wrs b) = true := meets_iff.2 ⟨k, h, memB_iff.1 m⟩
  simp [clashB, this]
theorem clash_t3 {a b : Ops} {k : ByteArray} (h : k ∈ rds a) (m : memB (wrs b) k = true) : clashB a b = true := by
  have : meets (rds a) (wrs b) = true := meets_iff.2 ⟨k, h, memB_iff.1 m⟩
  simp [clashB, this]
theorem clash_f {a b : Ops} (h1 : ∀ k ∈ wrs a, memB (rds b) k = false ∧ memB (wrs b) k = false) (h2 : ∀ k ∈ rds a, memB (wrs b) k = false) : clashB a b = false := by
  have q1 : meets (wrs a) (wrs b) = false := by
    rw [Bool.eq_false_iff]; intro h
    obtain ⟨k, hk, hb⟩ := meets_iff.1 h
    exact memB_not.1 (h1 k hk).2 hb
  have q2 : meets (wrs a) (rds b) = false := by
    rw [Bool.eq_false_iff]; intro h
    obtain ⟨k, hk, hb⟩ := meets_iff.1 h
    exact memB_not.1 (h1 k hk).1 hb
  have q3 : meets (rds a) (wrs b) = false := by
    rw [Bool.eq_false_iff]; intro h
    obtain ⟨k, hk, hb⟩ := meets_iff.1 h
    exact memB_not.1 (h2 k hk) hb
  simp [clashB, q1, q2, q3]
set_option maxRecDepth 10000 in
set_option maxHeartbeats 4000000 in
theorem rclash_any (va vb : Value) (a b : Ops) (w : World) (ha : Seg w va 4 a.length (cO a)) (hb : Seg w vb 4 b.length (cO b)) (oa : DeedOk a) (ob : DeedOk b) :
    Calls Tryd.prog 107 #[.agg #[va], .agg #[vb]] w fun e w' => e = .returned (.bool (clashB a b)) ∧ Ext w w' := by
  obtain ⟨x1, c1, rfl⟩ := seg_form ha
  obtain ⟨x2, c2, rfl⟩ := seg_form hb
  have b1 := heap_1 w (.cells #[.slice x1 a.length c1] 46) (.cells #[.slice x2 b.length c2] 46)
  have b2 := heap_2 w (.cells #[.slice x1 a.length c1] 46) (.cells #[.slice x2 b.length c2] 46)
  have E := ((Ext.refl w).alloc (.cells #[.slice x1 a.length c1] 46)).alloc (.cells #[.slice x2 b.length c2] 46)
  have y1 := cell_of_one b1
  have y2 := cell_of_one b2
  have K1 := hid (touches_any (.slice x1 a.length c1) a _ (ha.ext E) oa)
  have hb := hb.ext E
  clear b1 b2 ha
  have HOA := hid (wrs_okS oa)
  go_enter Tryd.func107, Tryd.ntmps107
  go_wp2_with fail
  refine (K1.out).mono ?_
  clear K1
  rintro e w1 ⟨br, bw, rfl, _, _, T1⟩
  have E1 := T1.choose_spec.choose_spec.2.2.2.2
  have z2 := E1.cell y2
  replace hb := hb.ext E1
  replace E := E.trans E1
  have K2 := hid (touches_any (.slice x2 b.length c2) b _ hb ob)
  clear y1 y2 E1 hb
  go_wp2_with fail
  refine (K2.out).mono ?_
  clear K2
  rintro e w2 ⟨bs, bx, rfl, _, _, T2⟩
  have E1 := T2.choose_spec.choose_spec.2.2.2.2
  replace T1 := T1.ext E1
  replace E := E.trans E1
  clear E1 z2
  obtain ⟨D, F, h1, h2, h3, h4, _⟩ := T1
  have HT2 := hid T2
  clear T2
  go_wp2_with (first
    | (at_range; refine wpList_range_own _ rfl _ 205 rfl 9 4 lawS Tryd.underlying205 _ bw (wrs a).length _ rfl h3 ?_; intro w3 hrg0 hg0 hs0)
    | go_in)
  go_frame
  have E3 := ext_of_grown hg0
  go_loopw [9] (fun _ wr => CRel w2 bw w2.heap.size (wrs a).length F (fun k => k ∈ wrs a → memB (rds b) k = false ∧ memB (wrs b) k = false) wr) (fun _ wr => wr.rangeLeft bw w2.heap.size)
  case atStart =>
    refine ⟨_, _, by simpa using hrg0, fun k hk hl hm => ?_, E3⟩
    rw [h4.has hk] at hl
    have : setF (wrs a) k = some true := setF_some.2 hm
    rw [this] at hl; cases hl
  case round =>
    clear hrg0 hg0 hs0 E3
    obtain ⟨wo, rfl⟩ : ∃ wo : World, wo = wr := ⟨_, rfl⟩
    obtain ⟨left, cnt, hrg, hP, Er⟩ := hrel
    go_wp2_with (first
      | (at_next; refine wpList_next_set _ rfl _ rfl 9 4 lawS Tryd.underlying9 Tryd.underlying4 bw w2.heap.size (wrs a).length F (wrs a) h4 _ _ rfl hrg ?_ ?_)
      | go_in)
    · intro hl0
      have P1 := hid (fun k hk => hP k (HOA.out.2 k hk) (hl0 _) hk)
      have h1o := ownsMap_ext h1 Er
      clear hP hl0
      go_wp2_with (first
        | (at_range; refine wpList_range_own _ rfl _ 205 rfl 9 4 lawS Tryd.underlying205 _ br (rds a).length _ rfl h1o ?_; intro w4 hrg1 hg1 hs1)
        | go_in)
      go_frame
      have E4 := ext_of_grown hg1
      go_loopw [10] (fun _ wr => CRel wo br wo.heap.size (rds a).length D (fun k => k ∈ rds a → memB (wrs b) k = false) wr) (fun _ wr => wr.rangeLeft br wo.heap.size)
      case atStart =>
        refine ⟨_, _, by simpa using hrg1, fun k hk hl hm => ?_, E4⟩
        rw [h2.has hk] at hl
        have : setF (rds a) k = some true := setF_some.2 hm
        rw [this] at hl; cases hl
      case round =>
        clear hrg1 hg1 hs1 E4
        obtain ⟨wu, rfl⟩ : ∃ wu : World, wu = wr := ⟨_, rfl⟩
        obtain ⟨left2, cnt2, hrg2, hP2, Es⟩ := hrel
        go_wp2_with (first
          | (at_next; refine wpList_next_set _ rfl _ rfl 9 4 lawS Tryd.underlying9 Tryd.underlying4 br wo.heap.size (rds a).length D (rds a) h2 _ _ rfl hrg2 ?_ ?_)
          | go_in)
        · intro hl1
          have P2 := hid (fun k hk => hP2 k (HOA.out.1 k hk) (hl1 _) hk)
          have hr := hid (clash_f P1.out P2.out)
          clear hP2 hl1
          go_wp2
          go_ret
          exact ⟨rB hr.out.symm, E.trans (Er.trans Es)⟩
        · intro x w5 cnt1 hwx hlx hxR hrg3 hlt hg3 hs3 hen
          have Et : Ext wo w5 := Es.grown hg3 (fun k hk => by injection hk with hk; omega)
          have L2 := (HT2.out.ext (Er.trans Et)).look2 hwx
          have hPs := hid hP2
          clear hP2
          cases m2 : memB (wrs b) x with
          | true =>
            have hr := hid (clash_t3 hxR m2)
            rw [m2] at L2
            clear m2
            go_wp2
            go_ret
            exact ⟨rB hr.out.symm, E.trans (Er.trans Et)⟩
          | false =>
            have hst := hid (CRel.step hPs.out (x := x) (fun _ => m2))
            rw [m2] at L2
            clear m2
            go_wp2
            go_roundw
            case rel => exact ⟨_, cnt1, hrg3, hst.out, Et⟩
            case measure => rw [hrg3.left_eq, hrg2.left_eq]; exact hlt
    · intro x w4 cnt1 hwx hlx hxR hrg1 hlt hg1 hs1 hen
      have Et : Ext w2 w4 := Er.grown hg1 (fun k hk => by injection hk with hk; omega)
      have L1 := (HT2.out.ext Et).look1 hwx
      have L2 := (HT2.out.ext Et).look2 hwx
      have hPs := hid hP
      clear hP
      cases m1 : memB (rds b) x with
      | true =>
        have hr := hid (clash_t1 hxR m1)
        rw [m1] at L1
        clear m1
        go_wp2
        go_ret
        exact ⟨rB hr.out.symm, E.trans Et⟩
      | false =>
        rw [m1] at L1
        cases m2 : memB (wrs b) x with
        | true =>
          have hr := hid (clash_t2 hxR m2)
          rw [m2] at L2
          clear m1 m2
          go_wp2
          go_ret
          exact ⟨rB hr.out.symm, E.trans Et⟩
        | false =>
          have hst := hid (CRel.step hPs.out (x := x) (fun _ => ⟨m1, m2⟩))
          rw [m2] at L2
          clear m1 m2
          go_wp2
          go_roundw
          case rel => exact ⟨_, cnt1, hrg1, hst.out, Et⟩
          case measure => rw [hrg1.left_eq, hrg.left_eq]; exact hlt
end Go.Proofs.YtomgeolmfpijoaaDoor

/- Contracts and lemmas for the proofs of this seat; each theorem states its own conditions. -/
namespace Go.Proofs.YtomgeolmfpijoaaDoor
open Go.RowKit
/-! what slices.DeleteFunc's walk leans on -/
theorem grown_of_ext {w w' : World} (h : Ext w w') {row : Option Nat} : w.grownBy w' row := ⟨h.os, h.tape, h.output, h.size', fun i hi _ => Below.block h i hi⟩
theorem row_grown (w : World) (g : Nat) (cs : Array Value) : w.grownBy (w.setRow g cs) (some g) := by
  have hB := below_setRow (Below.refl 0 w) (Nat.zero_le g) cs
  exact ⟨hB.os, hB.tape, hB.output, hB.size, fun k _ hne => setRow_other w g k _ (fun e => hne (by rw [e]))⟩
theorem own_cell_set {w : World} {B e sz n c g i : Nat} {xs : List Value} (h : w.ownsRow B e sz (.slice (some ⟨g, 0, none⟩) n c) n xs) (hi : i < xs.length) (u : Value) : (w.setCell ⟨g, i, none⟩ u).ownsRow B e sz (.slice (some ⟨g, 0, none⟩) n c) n (xs.set i u) := by
  obtain ⟨h0, h1⟩ := h
  rcases h1 with ⟨h1, _⟩ | ⟨g', cap, cur, h1, h2, h3, h4, h5, h6, h7⟩
  · cases h1
  · injection h1 with e1 _ e3
    injection e1 with e1; injection e1 with e1
    subst e1; subst e3
    refine ⟨by simpa using h0, .inr ⟨g, c, cur.setIfInBounds i u, rfl, h2, ?_, h4, h5, by simpa using h6, ?_⟩⟩
    · simp [World.setCell, Array.getElem?_modify, h3]
    · show (cur.setIfInBounds i u).toList.take (n * sz) = xs.set i u
      rw [← h7]
      rw [Array.toList_setIfInBounds, List.take_set]
theorem own_free {w : World} {B e sz n c g : Nat} {xs : List Value} (h : w.ownsRow B e sz (.slice (some ⟨g, 0, none⟩) n c) n xs) (i : Nat) : w.frozen? ⟨g, i, none⟩ = false := by
  obtain ⟨cur, hc⟩ := own_heap h
  simp [World.frozen?, hc]
theorem own_cell_at {w : World} {B e sz n c g i : Nat} {xs : List Value} (h : w.ownsRow B e sz (.slice (some ⟨g, 0, none⟩) n c) n xs) (hi : i < xs.length) : ∃ u, w.cell? ⟨g, i, none⟩ = some u := by
  have hn : 0 < n := by
    rcases Nat.eq_zero_or_pos n with e | e
    · have := h.1; rw [e] at this; omega
    · exact e
  obtain ⟨_, _, he, _, _, _, hc⟩ := seg_cells (own_seg h) hn
  injection he with he; injection he with he1 he2
  subst he1; subst he2
  have := hc i xs[i] (List.getElem?_eq_getElem hi)
  rw [Nat.zero_add] at this
  exact ⟨_, this⟩
/-- two stores into one's own row, side by side -/
theorem own_two {w : World} {B e sz n c g i : Nat} {xs : List Value} (h : w.ownsRow B e sz (.slice (some ⟨g, 0, none⟩) n c) n xs) (hi : i + 1 < xs.length) (u : Value) :
    (∃ z, w.cell? ⟨g, i, none⟩ = some z) ∧ w.frozen? ⟨g, i, none⟩ = false ∧ (∃ z, (w.setCell ⟨g, i, none⟩ u).cell? ⟨g, i + 1, none⟩ = some z) ∧ (w.setCell ⟨g, i, none⟩ u).frozen? ⟨g, i + 1, none⟩ = false := by
  have h2 := own_cell_set h (i := i) (by omega) u
  exact ⟨own_cell_at h (by omega), own_free h i, own_cell_at h2 (by rw [List.length_set]; omega), own_free h2 (i + 1)⟩
theorem first_of {α : Type} {p : α → Bool} {L : List α} (h : ¬ ∀ x ∈ L, p x = false) : ∃ i, ∃ (hi : i < L.length), (∀ j (h : j < i), p (L[j]'(by omega)) = false) ∧ p L[i] = true := by
  induction L with
  | nil => exact absurd (by simp) h
  | cons x L ih =>
    cases hx : p x with
    | true => exact ⟨0, by simp, fun j hj => by omega, by simpa using hx⟩
    | false =>
      obtain ⟨i, hi, h1, h2⟩ := ih fun hh => h fun y hy => by
        rcases List.mem_cons.1 hy with e | e
        · rw [e]; exact hx
        · exact hh y e
      refine ⟨i + 1, by simpa using hi, fun j hj => ?_, by simpa using h2⟩
      cases j with
      | zero => simpa using hx
      | succ j => simpa using h1 j (by omega)
theorem first_fil {α : Type} {p : α → Bool} {L : List α} {i : Nat} (hi : i < L.length) (hlo : ∀ j (h : j < i), p (L[j]'(by omega)) = false) (hp : p L[i] = true) :
    ((L.take (i + 1)).filter fun x => !p x).length = i ∧ ((L.take (i + 1)).filter fun x => !p x) ++ [L[i]] ++ L.drop (i + 1) = L := by
  have e : ((L.take (i + 1)).filter fun x => !p x) = L.take i := by
    rw [List.take_succ_eq_append_getElem hi, List.filter_append]
    have e1 : (L.take i).filter (fun x => !p x) = L.take i := List.filter_eq_self.2 fun x hx => by
      obtain ⟨j, hj, rfl⟩ := List.mem_iff_getElem.1 hx
      simp only [List.length_take] at hj
      rw [List.getElem_take]
      simp [hlo j (by omega)]
    rw [e1]; simp [hp]
  rw [e]
  refine ⟨by rw [List.length_take]; omega, ?_⟩
  rw [List.append_assoc, List.singleton_append, ← List.drop_eq_getElem_cons hi, List.take_append_drop]
theorem del_step {α : Type} {p : α → Bool} {L mid : List α} {i j : Nat} (hj : j < L.length) (hf : ((L.take j).filter fun x => !p x).length = i) (hm : i + mid.length = j) (hij : i < j) :
    (p L[j] = true → ∃ mid', ((L.take (j + 1)).filter fun x => !p x).length = i ∧ i + mid'.length = j + 1 ∧ ((L.take (j + 1)).filter fun x => !p x) ++ mid' ++ L.drop (j + 1) = ((L.take j).filter fun x => !p x) ++ mid ++ L.drop j) ∧
    (p L[j] = false → ∃ mid', ((L.take (j + 1)).filter fun x => !p x).length = i + 1 ∧ i + 1 + mid'.length = j + 1 ∧ ((L.take (j + 1)).filter fun x => !p x) ++ mid' ++ L.drop (j + 1) = (((L.take j).filter fun x => !p x) ++ mid ++ L.drop j).set i L[j]) := by
  have e1 : (L.take (j + 1)).filter (fun x => !p x) = (L.take j).filter (fun x => !p x) ++ [L[j]].filter (fun x => !p x) := by
    rw [List.take_succ_eq_append_getElem hj, List.filter_append]
  have e2 := List.drop_eq_getElem_cons hj
  generalize (L.take j).filter (fun x => !p x) = A at hf e1
  generalize L[j] = x at e1 e2
  refine ⟨fun h => ⟨mid ++ [x], ?_, by simp; omega, ?_⟩, fun h => ?_⟩
  · rw [e1]; simp [h, hf]
  · rw [e1, e2]; simp [h]
  · obtain ⟨m0, rest, rfl⟩ : ∃ m0 rest, mid = m0 :: rest := by
      cases mid with
      | nil => simp at hm; omega
      | cons m0 rest => exact ⟨m0, rest, rfl⟩
    refine ⟨rest ++ [x], ?_, by simp at hm ⊢; omega, ?_⟩
    · rw [e1]; simp [h, hf]
    · rw [e1, e2, List.append_assoc A (m0 :: rest), List.set_append, if_neg (by omega), hf, Nat.sub_self]
      simp [h]
end Go.Proofs.YtomgeolmfpijoaaDoor
