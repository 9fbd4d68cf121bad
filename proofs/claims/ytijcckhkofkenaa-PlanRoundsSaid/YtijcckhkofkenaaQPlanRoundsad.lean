/- Contracts and lemmas for the proof of PlanRounds; each theorem states its own conditions. -/
import Derived.Test.YtijcckhkofkenaaQPlanRoundsac
import Derived.WalkKit
import Derived.Orders
set_option linter.unusedVariables false
set_option linter.unusedSimpArgs false
/- Contracts and lemmas for the proofs of this seat; each theorem states its own conditions. -/
namespace Go.Proofs.Ytijcckhkofkenaa
open Go.RowKit Go.Shelf
/-- strings compared -/
def cmpB (a b : ByteArray) : Int := if blt a b then -1 else if a = b then 0 else 1
theorem cmpL : ∀ x y : List UInt8, Lib.compareBytes x y = if Op.bytesLess x y then -1 else if x = y then 0 else 1
  | [], [] => rfl
  | [], _ :: _ => rfl
  | _ :: _, [] => by simp [Lib.compareBytes, Op.bytesLess]
  | a :: x, b :: y => by
    have ih := cmpL x y
    simp only [Lib.compareBytes, Op.bytesLess]
    by_cases h1 : a < b
    · simp [h1]
    · by_cases h2 : b < a
      · have hne : a ≠ b := by rintro rfl; exact h1 h2
        simp [h1, h2, hne]
      · have he : a = b := by
          rw [u8_lt] at h1 h2
          exact u8_eq.2 (by omega)
        subst he
        simp [ih, UInt8.lt_irrefl]
theorem cmp_eq (a b : ByteArray) : Lib.compareBytes a.data.toList b.data.toList = cmpB a b := by
  rw [cmpL, ← toList_data, ← toList_data]
  unfold cmpB blt
  have : (a.toList = b.toList) = (a = b) := propext ⟨toList_inj, fun h => by rw [h]⟩
  simp only [this]
theorem compare_any (a b : ByteArray) (w : World) : Calls Try.prog 133 #[.string a, .string b] w fun e w' => e = .returned (.int .i64 (cmpB a b)) ∧ w = w' := by
  have := Any.strings_Compare lays106 a b w
  rw [cmp_eq] at this
  exact this.mono fun _ _ ⟨h1, h2⟩ => ⟨h1, h2.symm⟩
theorem findc_any (p : ByteArray × Int) (key : ByteArray) (w : World) : Calls Try.prog 132 #[.agg #[.string p.1, .int .i64 p.2], .string key] w fun e w' => e = .returned (.int .i64 (cmpB p.1 key)) ∧ Ext w w' := by
  go_enter Try.func132, Try.ntmps132
  go_wp2_with fail
  refine (compare_any _ _ _).mono ?_
  rintro e w' ⟨rfl, rfl⟩
  go_wp2
  go_ret
  exact ⟨rfl, by (repeat (first | (with_reducible assumption) | (with_reducible exact Ext.refl _) | (with_reducible refine Ext.drew ?_) | (with_reducible refine Ext.drewN ?_ _) | (with_reducible refine Ext.alloc ?_ _) | (with_reducible refine Ext.trans ?_ (by with_reducible assumption))))⟩
theorem cmpB_lt {a b : ByteArray} (h : blt a b = true) : cmpB a b = -1 := by simp [cmpB, h]
theorem cmpB_ge {a b : ByteArray} (h : blt a b = false) : 0 ≤ cmpB a b := by
  unfold cmpB; rw [if_neg (by simp [h])]; split <;> decide
theorem cmpB_zero {a b : ByteArray} (h : blt a b = false) : (cmpB a b == 0) = (a.toList == b.toList) := by
  by_cases e : a = b
  · subst e; simp [cmpB, h]
  · have : (a.toList == b.toList) = false := by
      simp; exact fun h => e (toList_inj h)
    rw [this]; simp [cmpB, h, e]
set_option maxRecDepth 10000 in
set_option maxHeartbeats 1000000 in
theorem bsearchP_any (v : Value) (l : Prs) (t : ByteArray) (w : World) (hv : Seg w v 2 l.length (cP l)) (hd : dropsB (bltAt (keysP l) t) l.length) (hn : l.length < 1000000000) :
    Calls Try.prog 131 #[v, .string t, .func (.func 132) #[] #[]] w fun e w' => ∃ i : Nat, cutAt (bltAt (keysP l) t) l.length i ∧ e = .returned (.tuple #[.int .i64 i, .bool (hitS (keysP l) t i)]) ∧ Ext w w' := by
  obtain ⟨h0, a, cap, rfl, h1, h2, h3⟩ := hv
  unfold maxLen at h2
  go_enter Try.func131, Try.ntmps131
  go_wp2
  go_loopw [9, 10, 11] (fun x y _ wr => ∃ i j : Nat, x = .int .i64 i ∧ y = .int .i64 j ∧ bsInv (bltAt (keysP l) t) l.length i j ∧ Ext w wr) (fun x y _ _ => (intOf y).toNat - (intOf x).toNat)
  case atStart => exact ⟨0, l.length, rfl, rfl, bsInv_start _ _, Ext.refl _⟩
  case round =>
    obtain ⟨i, j, rfl, rfl, hinv, E⟩ := hrel
    have hij := hinv.1
    have hjn := hinv.2.1
    by_cases hlt : i < j
    · obtain ⟨b, off, rfl, hc⟩ := h3 (by omega)
      have c := seg_pair hc (show (i + j) / 2 < l.length by omega)
      have c0 := E.cell c.1
      have c1 := E.cell c.2
      clear hc h3 c
      have he : bltAt (keysP l) t ((i + j) / 2) = blt (l[(i + j) / 2]'(by omega)).1 t := by rw [bltAt, keysP_at (by omega)]
      cases hb : blt (l[(i + j) / 2]'(by omega)).1 t with
      | true =>
        have hs := bsInv_up hd hinv hlt (by rw [he, hb])
        have q := cmpB_lt hb
        clear he
        go_wp2_with fail
        refine (findc_any (l[(i + j) / 2]'(by omega)) t _).mono ?_
        rw [q]
        rintro e w' ⟨rfl, E2⟩
        clear q
        go_wp2
        go_roundw
        case rel => exact ⟨(i + j) / 2 + 1, j, by go_num, rfl, hs, by (repeat (first | (with_reducible assumption) | (with_reducible exact Ext.refl _) | (with_reducible refine Ext.drew ?_) | (with_reducible refine Ext.drewN ?_ _) | (with_reducible refine Ext.alloc ?_ _) | (with_reducible refine Ext.trans ?_ (by with_reducible assumption))))⟩
        case measure => simp [intOf]; omega
      | false =>
        have hs := bsInv_down hd hinv hlt (by rw [he, hb])
        have q := cmpB_ge hb
        clear he
        go_wp2_with fail
        refine (findc_any (l[(i + j) / 2]'(by omega)) t _).mono ?_
        generalize cmpB (l[(i + j) / 2]'(by omega)).1 t = n at q ⊢
        rintro e w' ⟨rfl, E2⟩
        go_wp2
        go_roundw
        case rel => exact ⟨i, (i + j) / 2, rfl, by go_num, hs, by (repeat (first | (with_reducible assumption) | (with_reducible exact Ext.refl _) | (with_reducible refine Ext.drew ?_) | (with_reducible refine Ext.drewN ?_ _) | (with_reducible refine Ext.alloc ?_ _) | (with_reducible refine Ext.trans ?_ (by with_reducible assumption))))⟩
        case measure => simp [intOf]; omega
    · obtain rfl : i = j := by omega
      by_cases hin : i < l.length
      · obtain ⟨b, off, rfl, hc⟩ := h3 (by omega)
        have c := seg_pair hc hin
        have c0 := E.cell c.1
        have c1 := E.cell c.2
        clear hc h3 c
        have hf : blt l[i].1 t = false := by
          have := hinv.2.2.2 i (Nat.le_refl _) hin
          rwa [bltAt, keysP_at hin] at this
        have hq : hitS (keysP l) t i = (cmpB l[i].1 t == 0) := by
          rw [hitS_eq (by rw [keysP_len]; exact hin), cmpB_zero hf, keysP_get]
        have HQ := hid hq
        clear hq
        go_wp2_with fail
        refine (findc_any l[i] t _).mono ?_
        generalize cmpB l[i].1 t = n at HQ ⊢
        rintro e w' ⟨rfl, E2⟩
        go_wp2
        all_goals (
          go_ret2
          exact ⟨i, bsInv_end hinv, rT2 rfl (vB (by rw [HQ.out]; try simp_all)), by (repeat (first | (with_reducible assumption) | (with_reducible exact Ext.refl _) | (with_reducible refine Ext.drew ?_) | (with_reducible refine Ext.drewN ?_ _) | (with_reducible refine Ext.alloc ?_ _) | (with_reducible refine Ext.trans ?_ (by with_reducible assumption))))⟩)
      · have HQ := hid (hitS_out (ks := keysP l) (t := t) (i := i) (by rw [keysP_len]; exact hin))
        go_wp2
        go_ret2
        exact ⟨i, bsInv_end hinv, rT2 rfl (vB HQ.out.symm), E⟩
set_option maxRecDepth 10000 in
theorem sfind_any (v : Value) (l : Prs) (t : ByteArray) (w : World) (hv : Seg w v 2 l.length (cP l)) (hs : srtP l) (hn : l.length < 1000000000) :
    Calls Try.prog 102 #[v, .string t] w fun e w' => ∃ i : Nat, cutAt (bltAt (keysP l) t) l.length i ∧ e = .returned (.tuple #[.int .i64 i, .bool (hitS (keysP l) t i)]) ∧ Ext w w' := by
  have hd := dropsB_blt (srtP_keys hs) t
  rw [keysP_len] at hd
  go_enter Try.func102, Try.ntmps102
  go_wp2_with fail
  refine (bsearchP_any v l t _ hv hd hn).mono ?_
  rintro e w' ⟨i, hc, rfl, E⟩
  go_wp2
  go_ret2
  exact ⟨i, hc, rfl, E⟩
theorem hit_lt {ks : List ByteArray} {t : ByteArray} {i : Nat} (h : hitS ks t i = true) : i < ks.length := by
  simp only [hitS, Bool.and_eq_true, decide_eq_true_eq] at h; exact h.1
theorem sat_any (v : Value) (l : Prs) (t : ByteArray) (w : World) (hv : Seg w v 2 l.length (cP l)) (hs : srtP l) (hn : l.length < 1000000000) :
    Calls Try.prog 100 #[v, .string t] w fun e w' => e = .returned (.int .i64 (valP l t)) ∧ Ext w w' := by
  obtain ⟨h0, a, cap, rfl, h1, h2, h3⟩ := hv
  have hv : Seg w (.slice a l.length cap) 2 l.length (cP l) := ⟨h0, a, cap, rfl, h1, h2, h3⟩
  unfold maxLen at h2
  go_enter Try.func100, Try.ntmps100
  go_wp2_with fail
  refine (sfind_any _ l t _ hv hs hn).mono ?_
  rintro e w' ⟨i, hc, rfl, E⟩
  have hval := val_cut hs hc
  cases hh : hitS (keysP l) t i with
  | true =>
    have hi := hit_lt hh
    rw [keysP_len] at hi
    rw [dif_pos hi, if_pos hh] at hval
    have HV := hid hval
    obtain ⟨b, off, rfl, hcc⟩ := h3 (by omega)
    have c1 := E.cell (seg_pair hcc hi).2
    clear hval hcc h3
    go_wp2
    go_ret
    exact ⟨rI HV.out.symm, E⟩
  | false =>
    have hv0 : valP l t = 0 := by rw [hval]; split <;> simp [hh]
    have HV := hid hv0
    clear hval hv0
    go_wp2
    go_ret
    exact ⟨rI HV.out.symm, E⟩
end Go.Proofs.Ytijcckhkofkenaa

/- Contracts and lemmas for the proofs of this seat; each theorem states its own conditions. -/
namespace Go.Proofs.Ytijcckhkofkenaa
/-! A region that draws its order: one step law an operation, under an invariant that is told by the set of operations that have been carried out. -/
def upd {α : Type} (f : Nat → α) (i : Nat) (v : α) : Nat → α := fun j => if j = i then v else f j
theorem upd_same {α : Type} (f : Nat → α) (i : Nat) (v : α) : upd f i v i = v := by simp [upd]
theorem upd_ne {α : Type} (f : Nat → α) {i j : Nat} (v : α) (h : j ≠ i) : upd f i v j = f j := by simp [upd, h]
def dstOf (ops : Array Oper) (i : Nat) : Option Tmp := (ops[i]?).bind (·.dst)
def frT (ops : Array Oper) (x : Nat → Value) : Nat → Array Value → Array Value
  | 0, t => t
  | k + 1, t => match dstOf ops k with
    | some d => (frT ops x k t).setIfInBounds d (x k)
    | none => frT ops x k t
/-- the frame once the operations have left x in their slots -/
def fr (ops : Array Oper) (a0 : Act) (x : Nat → Value) : Act := ⟨frT ops x ops.size a0.tmps, a0.defers⟩
theorem frT_congr {ops : Array Oper} {x y : Nat → Value} {t : Array Value} : ∀ k, (∀ i, i < k → x i = y i) → frT ops x k t = frT ops y k t
  | 0, _ => rfl
  | k + 1, h => by
    have ih := frT_congr (ops := ops) (t := t) k (fun i hi => h i (by omega))
    simp only [frT]
    rw [ih, h k (by omega)]
theorem frT_none {ops : Array Oper} {x : Nat → Value} {t : Array Value} {i : Nat} (h : dstOf ops i = none) (v : Value) : ∀ k, frT ops (upd x i v) k t = frT ops x k t
  | 0 => rfl
  | k + 1 => by
    simp only [frT]
    rw [frT_none h v k]
    cases hk : dstOf ops k with
    | none => rfl
    | some d =>
      have : k ≠ i := fun e => by rw [e, h] at hk; cases hk
      simp only [upd_ne x v this]
theorem frT_put {ops : Array Oper} {x : Nat → Value} {t : Array Value} {i d : Nat} (hd : ∀ i j d, dstOf ops i = some d → dstOf ops j = some d → i = j) (h : dstOf ops i = some d) (v : Value) :
    ∀ k, i < k → (frT ops x k t).setIfInBounds d v = frT ops (upd x i v) k t
  | 0, hk => absurd hk (by omega)
  | k + 1, hk => by
    simp only [frT]
    by_cases e : i = k
    · subst e
      simp only [h, upd_same]
      rw [frT_congr (x := upd x i v) (y := x) i (fun j hj => upd_ne x v (by omega))]
      exact Array.setIfInBounds_setIfInBounds _
    · have ih := frT_put (x := x) (t := t) hd h v k (by omega)
      cases hk' : dstOf ops k with
      | none => simpa using ih
      | some d' =>
        have hne : d' ≠ d := fun e' => by subst e'; exact e (hd i k d' h hk')
        simp only [upd_ne x v (Ne.symm e)]
        rw [← ih]
        exact Array.setIfInBounds_comm _ _ hne
theorem frT_start {ops : Array Oper} {t : Array Value} : ∀ k, frT ops (fun i => match dstOf ops i with | some d => t.getD d undef | none => undef) k t = t
  | 0 => rfl
  | k + 1 => by
    simp only [frT]
    rw [frT_start k]
    cases hk : dstOf ops k with
    | none => rfl
    | some d =>
      apply Array.ext
      · simp
      · intro m h1 h2
        have h2' : m < t.size := h2
        show (t.setIfInBounds d (t.getD d undef))[m]'(by simpa using h2') = t[m]
        rw [Array.getElem_setIfInBounds]
        split
        · rename_i e; subst e; simp [h2']
        · rfl
theorem Oper.upon_both {P : Program} {o : Oper} {a : Act} {K K' : Act → World → Prop} {Q Q' : Exit → Act → World → Prop} (hk : ∀ a w, K a w → K' a w) (hq : ∀ e a w, e ≠ .normal → Q e a w → Q' e a w) {r : Result Next} (h : o.upon P a K Q r) : o.upon P a K' Q' r := by
  cases r with
  | ok n w' =>
    cases n <;> simp only [Oper.upon] at h ⊢ <;>
      first
        | exact hk _ _ h
        | exact Calls.mono h (fun e w'' he => by
            cases e with
            | returned v => exact hk _ _ he
            | panicked c => exact hq _ _ _ (by simp) he
            | outgrown => obtain ⟨a, w, hh⟩ := he; exact ⟨a, w, hq _ _ _ (by simp) hh⟩)
        | exact Rows.mono h (fun _ _ he => hk _ _ he)
        | exact h
  | halt x w' => cases x <;> simp only [Oper.upon] at h ⊢ <;> first | exact hq _ _ _ (by simp) h | exact h
/-- the check of a region's form -/
def regB (ops : Array Oper) : Bool :=
  (List.range ops.size).all (fun i => match ops[i]? with | some o => o.after.all (fun e => !Region.binds .any e || decide (e.on < i)) | none => true) &&
  (List.range ops.size).all (fun i => (List.range ops.size).all fun j => decide (i = j) || (match dstOf ops i, dstOf ops j with | some d, some d' => decide (d ≠ d') | _, _ => true))
theorem regB_dst {ops : Array Oper} (h : regB ops = true) : ∀ i j d, dstOf ops i = some d → dstOf ops j = some d → i = j := by
  intro i j d hi hj
  have hlt : ∀ k d, dstOf ops k = some d → k < ops.size := fun k d hk => by
    rcases Nat.lt_or_ge k ops.size with h | h
    · exact h
    · simp [dstOf, Array.getElem?_eq_none h] at hk
  simp only [regB, Bool.and_eq_true, List.all_eq_true, List.mem_range] at h
  have := h.2 i (hlt i d hi) j (hlt j d hj)
  simp only [hi, hj, Bool.or_eq_true, decide_eq_true_eq, ne_eq, not_true_eq_false, decide_false, Bool.false_eq_true, or_false] at this
  exact this
theorem regB_on {ops : Array Oper} (h : regB ops = true) {i : Nat} {o : Oper} (ho : ops[i]? = some o) : ∀ e ∈ o.after, Region.binds .any e = true → e.on < i := by
  have hlt : i < ops.size := (Array.getElem?_eq_some_iff.1 ho).1
  simp only [regB, Bool.and_eq_true, List.all_eq_true, List.mem_range] at h
  have := h.1 i hlt
  simp only [ho, Array.all_eq_true_iff_forall_mem] at this
  intro e he hb
  have h2 := this e he
  rw [hb] at h2
  simpa using h2
/-- the set of what has been carried out is closed under what must come first -/
def Closed (ops : Array Oper) (L : Nat → Bool) : Prop := ∀ j o, ops[j]? = some o → L j = true → ∀ e ∈ o.after, Region.binds .any e = true → L e.on = true
def waitsB (ops : Array Oper) (j i : Nat) : Bool := match ops[j]? with
  | some o => o.after.any fun e => Region.binds .any e && e.on == i
  | none => false
theorem Closed.notYet {ops : Array Oper} {L : Nat → Bool} (h : Closed ops L) {j i : Nat} (hw : waitsB ops j i = true) (hL : L i = false) : L j = false := by
  unfold waitsB at hw
  cases hj : L j with
  | false => rfl
  | true =>
    cases ho : ops[j]? with
    | none => rw [ho] at hw; cases hw
    | some o =>
      rw [ho] at hw
      obtain ⟨e, he, hb⟩ := Array.any_eq_true'.1 hw
      simp only [Bool.and_eq_true, beq_iff_eq] at hb
      have := h j o ho hj e he hb.1
      rw [hb.2, hL] at this; cases this
theorem Closed.done {ops : Array Oper} {L : Nat → Bool} (h : Closed ops L) {j i : Nat} (hw : waitsB ops j i = true) (hL : L j = true) : L i = true := by
  cases hi : L i with
  | true => rfl
  | false => have := h.notYet hw hi; rw [hL] at this; cases this
/-- what one operation must show -/
def StepOk (P : Program) (ops : Array Oper) (a0 : Act) (c : Nat → Option Value) (G : (Nat → Bool) → (Nat → Value) → World → Prop) (i : Nat) (o : Oper) : Prop :=
  ∀ (L : Nat → Bool) (x : Nat → Value) (w : World), L i = false → Closed ops L → (∀ e ∈ o.after, Region.binds .any e = true → L e.on = true ∧ ∀ v, c e.on = some v → x e.on = v) → G L x w →
    wpList P ops (fun e a' w' => e = .normal ∧ ∃ v, a' = (fr ops a0 x).put o.dst v ∧ (∀ u, c i = some u → v = u) ∧ G (upd L i true) (upd x i v) w') [o] (fr ops a0 x) w
theorem wp_region_inv {P : Program} {ops : Array Oper} {id : Nat} {Q : Exit → Act → World → Prop} {a0 : Act} {w : World} (hm : P.follows .mixedOrders = true) (hB : regB ops = true)
    (c : Nat → Option Value) (G : (Nat → Bool) → (Nat → Value) → World → Prop)
    (h0 : G (fun _ => false) (fun i => match dstOf ops i with | some d => a0.tmps.getD d undef | none => undef) w.drew)
    (hstep : ∀ i o, ops[i]? = some o → StepOk P ops a0 c G i o)
    (hend : ∀ L x w', (∀ i, i < ops.size → L i = true ∧ ∀ v, c i = some v → x i = v) → G L x w' → Q .normal (fr ops a0 x) w') : (Code.region id ops true).wp P Q a0 w := by
  refine wp_region_any hm ?_
  have key : ∀ fuel (listed : Array Bool) (x : Nat → Value) (w : World), listed.size = ops.size → listed.toList.count false = fuel →
      (∀ i, listed.getD i false = true → ∀ v, c i = some v → x i = v) → Closed ops (fun i => listed.getD i false) → G (fun i => listed.getD i false) x w → wpAny P .any ops Q fuel listed (fr ops a0 x) w := by
    intro fuel
    induction fuel with
    | zero =>
      intro listed x w hs hc hv hcl hG
      have hall : ∀ i, i < ops.size → listed.getD i false = true := fun i hi => by
        have h1 : i < listed.size := by omega
        have := List.count_eq_zero.1 hc
        cases hb : listed[i] with
        | true => simp [h1, hb]
        | false => exact absurd (by rw [← hb]; exact Array.getElem_mem_toList h1) this
      refine ⟨?_, hend _ _ _ (fun i hi => ⟨hall i hi, hv i (hall i hi)⟩) hG⟩
      unfold Region.ready
      rw [List.filter_eq_nil_iff]
      intro i hi
      have h1 : i < listed.size := by rw [hs]; exact List.mem_range.1 hi
      have := hall i (List.mem_range.1 hi)
      have : listed[i] = true := by simpa [h1] using this
      simp [h1, this]
    | succ fuel ih =>
      intro listed x w hs hc hv hcl hG
      refine ⟨fun hr => ?_, fun i hi => ?_⟩
      · have hall : ∀ i, i < ops.size → listed.getD i false = true := fun i => by
          induction i using Nat.strongRecOn with
          | _ i ihi =>
            intro hi
            have h1 : i < listed.size := by omega
            cases hb : listed[i] with
            | true => simp [h1, hb]
            | false =>
              exfalso
              have : i ∈ Region.ready .any ops listed := by
                rw [mem_ready]
                refine ⟨by simp [h1, hb], ops[i], by simp [hi], fun e he hb' => ihi e.on (regB_on hB (by simp [hi]) e he hb') (Nat.lt_trans (regB_on hB (by simp [hi]) e he hb') hi)⟩
              rw [hr] at this; cases this
        exact hend _ _ _ (fun i hi => ⟨hall i hi, hv i (hall i hi)⟩) hG
      · obtain ⟨hun, o, ho, hdeps⟩ := mem_ready.1 hi
        have hlt : i < ops.size := (Array.getElem?_eq_some_iff.1 ho).1
        have h1 : i < listed.size := by omega
        have hun' : listed[i] = false := by simpa [h1] using hun
        have hL : listed.getD i false = false := by simp [h1, hun']
        have hst := hstep i o ho (fun j => listed.getD j false) x w hL hcl (fun e he hb => ⟨hdeps e he hb, hv _ (hdeps e he hb)⟩) hG
        have hdst : dstOf ops i = o.dst := by simp [dstOf, ho]
        have fin : ∀ (v : Value) (w' : World), (∀ u, c i = some u → v = u) → G (upd (fun j => listed.getD j false) i true) (upd x i v) w' → wpAny P .any ops Q fuel (listed.setIfInBounds i true) ((fr ops a0 x).put o.dst v) w' := by
          intro v w' hcv hG'
          have e1 : (fr ops a0 x).put o.dst v = fr ops a0 (upd x i v) := by
            cases hd : o.dst with
            | none => simp only [Act.put, fr]; rw [frT_none (by rw [hdst, hd])]
            | some d => simp only [Act.put, fr]; rw [frT_put (regB_dst hB) (by rw [hdst, hd]) v _ hlt]
          have e2 : (upd (fun j => listed.getD j false) i true) = fun j => (listed.setIfInBounds i true).getD j false := by
            funext j
            by_cases hj : j = i
            · subst hj; simp [upd, h1]
            · rw [upd_ne _ _ hj, getD_set_ne false (Ne.symm hj)]
          rw [e1]
          rw [e2] at hG'
          have hcl' : Closed ops (fun j => (listed.setIfInBounds i true).getD j false) := by
            intro j oj hoj hj e he hb
            by_cases hji : j = i
            · subst hji
              have : oj = o := Option.some.inj (hoj.symm.trans ho)
              subst this
              exact getD_set_true (hdeps e he hb)
            · have hj' : listed.getD j false = true := by rw [← getD_set_ne false (Ne.symm hji)]; exact hj
              exact getD_set_true (hcl j oj hoj hj' e he hb)
          refine ih _ _ _ (by simpa using hs) ?_ ?_ hcl' hG'
          · rw [Array.toList_setIfInBounds, List.count_set (by simpa using h1)]
            simp only [Array.getElem_toList, hun', hc]
            simp
          · intro j hj u hu
            by_cases hji : j = i
            · subst hji; rw [upd_same]; exact hcv u hu
            · rw [upd_ne _ _ hji]
              rw [getD_set_ne false (Ne.symm hji)] at hj
              exact hv j hj u hu
        unfold wpOp
        simp only [ho]
        unfold wpList at hst
        split
        · rename_i hw
          rw [if_pos hw] at hst
          rcases hst with hst | ⟨_, hst⟩
          · left
            refine Oper.upon_both (fun a' w' hh => ?_) (fun e a' w' hne hh => ?_) hst
            · obtain ⟨_, v, rfl, hv2, hv3⟩ := hh
              exact fin v w' hv2 hv3
            · exact absurd hh.1 hne
          · obtain ⟨a', w', he, _⟩ := hst; cases he
        · rename_i hw
          rw [if_neg hw] at hst
          obtain ⟨_, v, he, hv2, hv3⟩ := hst
          rw [he]
          exact fin v w hv2 hv3
  have hst := key ops.size (Array.replicate ops.size false) _ w.drew (by simp) (by simp) (fun i hi => by
    by_cases h : i < ops.size <;> simp [h] at hi) (fun j o _ hj => by
    by_cases h : j < ops.size <;> simp [h] at hj) (by
    have e : (fun i => (Array.replicate ops.size false).getD i false) = fun _ => false := by
      funext i; by_cases h : i < ops.size <;> simp [h]
    rw [e]; exact h0)
  rw [show fr ops a0 (fun i => match dstOf ops i with | some d => a0.tmps.getD d undef | none => undef) = a0 from by
    simp only [fr]; rw [frT_start]] at hst
  exact hst
/-- the frame, operation by operation -/
def frL (x : Nat → Value) : List Oper → Nat → Array Value → Array Value
  | [], _, t => t
  | o :: r, k, t => frL x r (k + 1) (match o.dst with | some d => t.setIfInBounds d (x k) | none => t)
theorem frL_eq {x : Nat → Value} {t : Array Value} : ∀ (l2 l1 : List Oper), frL x l2 l1.length (frT (l1 ++ l2).toArray x l1.length t) = frT (l1 ++ l2).toArray x (l1 ++ l2).length t
  | [], l1 => by simp [frL]
  | o :: r, l1 => by
    have ih := frL_eq (x := x) (t := t) r (l1 ++ [o])
    simp only [List.append_assoc, List.singleton_append, List.length_append, List.length_cons, List.length_nil, Nat.zero_add] at ih
    simp only [frL, List.length_append, List.length_cons]
    have hd : dstOf (l1 ++ o :: r).toArray l1.length = o.dst := by simp [dstOf]
    rw [← ih, frT, hd]
theorem fr_lit {l : List Oper} {a0 : Act} {x : Nat → Value} : fr l.toArray a0 x = ⟨frL x l 0 a0.tmps, a0.defers⟩ := by
  have := frL_eq (x := x) (t := a0.tmps) l []
  simp only [List.nil_append, List.length_nil, frT] at this
  simp only [fr, List.size_toArray]
  rw [this]
def AllFrom (p : Nat → Oper → Prop) : List Oper → Nat → Prop
  | [], _ => True
  | o :: r, k => p k o ∧ AllFrom p r (k + 1)
theorem AllFrom.get {p : Nat → Oper → Prop} {l : List Oper} : ∀ {k : Nat}, AllFrom p l k → ∀ i o, l[i]? = some o → p (k + i) o := by
  induction l with
  | nil => intro k _ i o ho; simp at ho
  | cons o' r ih =>
    intro k h i o ho
    cases i with
    | zero => simp at ho; subst ho; exact h.1
    | succ i =>
      have := ih h.2 i o (by simpa using ho)
      rw [show k + (i + 1) = k + 1 + i from by omega]; exact this
/-- what one operation must show, with the frame written as frL -/
def Step (P : Program) (l : List Oper) (t0 : Array Value) (ds : List Deferred) (c : Nat → Option Value) (G : (Nat → Bool) → (Nat → Value) → World → Prop) (i : Nat) (o : Oper) : Prop :=
  ∀ (L : Nat → Bool) (x : Nat → Value) (w : World), L i = false → Closed l.toArray L → (∀ e ∈ o.after, Region.binds .any e = true → L e.on = true ∧ ∀ v, c e.on = some v → x e.on = v) → G L x w →
    wpList P l.toArray (fun e a' w' => e = .normal ∧ ∃ v, a' = (⟨frL x l 0 t0, ds⟩ : Act).put o.dst v ∧ (∀ u, c i = some u → v = u) ∧ G (upd L i true) (upd x i v) w') [o] ⟨frL x l 0 t0, ds⟩ w
theorem wp_region_lit_inv {P : Program} {l : List Oper} {id : Nat} {Q : Exit → Act → World → Prop} {t0 : Array Value} {ds : List Deferred} {w : World} (hm : P.follows .mixedOrders = true) (hB : regB l.toArray = true)
    (c : Nat → Option Value) (G : (Nat → Bool) → (Nat → Value) → World → Prop)
    (h0 : G (fun _ => false) (fun i => match dstOf l.toArray i with | some d => t0.getD d undef | none => undef) w.drew)
    (hstep : AllFrom (Step P l t0 ds c G) l 0)
    (hend : ∀ L x w', (∀ i, i < l.length → L i = true ∧ ∀ v, c i = some v → x i = v) → G L x w' → Q .normal ⟨frL x l 0 t0, ds⟩ w') : (Code.region id l.toArray true).wp P Q ⟨t0, ds⟩ w := by
  refine wp_region_inv hm hB c G h0 (fun i o ho => ?_) (fun L x w' h hG => ?_)
  · have := hstep.get i o (by simpa using ho)
    rw [Nat.zero_add] at this
    intro L x w hL hcl hd hG
    rw [fr_lit]
    exact this L x w hL hcl hd hG
  · rw [fr_lit]
    exact hend L x w' (fun i hi => h i (by simpa using hi)) hG
end Go.Proofs.Ytijcckhkofkenaa
