/- Contracts and lemmas for the proof of ShardSays; each theorem states its own conditions. -/
import Derived.Test.YtghemmmkbpfdhaaDoorQShardSaysbn
import Derived.Test.YtghemmmkbpfdhaaDoorQShardSaysbu
import Derived.Test.YtghemmmkbpfdhaaDoorQShardSaysbv
import Derived.Test.YtghemmmkbpfdhaaDoorQShardSaysbp
import Derived.Test.YtghemmmkbpfdhaaDoorQShardSaysbj
set_option linter.unusedVariables false
set_option linter.unusedSimpArgs false
/- Contracts and lemmas for the proofs of this seat; each theorem states its own conditions. -/
namespace Go.Proofs.YtghemmmkbpfdhaaDoor
open Go.RowKit Go.Maps
/-! the document's Touches -/
/-- a set of texts, as a map to true -/
def setF (L : List ByteArray) : ByteArray → Option Bool := fun x => if memB L x = true then some true else none
theorem setF_put {D : DU} {L : List ByteArray} {k : ByteArray} (h : MapF kS okS dB D (setF L)) (hk : okS k) : MapF kS okS dB (D.put (kS k) (dB true)) (setF (L ++ [k])) := by
  have := h.put kS_inj kS_is hk true
  refine (show (fun x => if x = k then some true else setF L x) = setF (L ++ [k]) from ?_) ▸ this
  funext x
  unfold setF
  by_cases e : x = k
  · simp [e, memB]
  · have e' : ¬ k = x := fun h => e h.symm
    have q : memB (L ++ [k]) x = memB L x := by simp [memB, e']
    rw [q]; simp [e]
theorem plainElem_bool {P : Program} {e : TypeId} (he : P.underlying e = some .bool) (b : Bool) : plainElem (H := Unit) P e (.bool b) = some (dB b, []) := by
  unfold plainElem
  rw [he]
  rfl
/-- two sets in memory -/
def TRel (w : World) (b c : Nat) (R W : List ByteArray) (wr : World) : Prop :=
  ∃ (D F : DU), wr.ownsMap Tryd.prog 9 (plainElem Tryd.prog 4) b R.length D ∧ MapF kS okS dB D (setF R) ∧ wr.ownsMap Tryd.prog 9 (plainElem Tryd.prog 4) c W.length F ∧ MapF kS okS dB F (setF W) ∧ Ext w wr
theorem TRel.ext {w w1 w2 : World} {b c : Nat} {R W : List ByteArray} (h : TRel w b c R W w1) (E : Ext w1 w2) : TRel w b c R W w2 := by
  obtain ⟨D, F, h1, h2, h3, h4, h5⟩ := h
  exact ⟨D, F, ownsMap_ext h1 E, h2, ownsMap_ext h3 E, h4, h5.trans E⟩
theorem TRel.lt {w w1 : World} {b c : Nat} {R W : List ByteArray} (h : TRel w b c R W w1) : b < w1.heap.size ∧ c < w1.heap.size := by
  obtain ⟨D, F, h1, h2, h3, h4, h5⟩ := h
  exact ⟨h1.lt, h3.lt⟩
theorem TRel.start (w w0 : World) (E : Ext w w0) : TRel w w0.heap.size (w0.heap.size + 1) [] [] ((w0.alloc (.map #[] 0)).alloc (.map #[] 0)) := by
  have h1 := (World.ownsMap_made w0 Tryd.prog 9 (plainElem (H := Unit) Tryd.prog 4)).alloc (.map #[] 0)
  have h2 := World.ownsMap_made (w0.alloc (.map #[] 0)) Tryd.prog 9 (plainElem (H := Unit) Tryd.prog 4)
  have e : setF [] = fun _ => none := by funext x; simp [setF, memB]
  exact ⟨.map [], .map [], h1, e ▸ MapF.empty, by simpa using h2, e ▸ MapF.empty, (E.alloc _).alloc _⟩
theorem ksz {k : ByteArray} (h : keyB k = true) : okS k := by
  have := keyB_size h
  unfold okS maxLen; omega
section
variable {ops : Array Oper} {rest : List Oper} {o : Oper} {a : Act} {Q : Exit → Act → World → Prop}
/-- one more in the first set -/
theorem wpList_setR {w0 w : World} {b c : Nat} {R W : List ByteArray} (hT : TRel w0 b c R W w) (hb : w0.heap.size ≤ b) (hne : b ≠ c) (hn : R.length < 1000) (hg : o.guard = none) (m x y : Operand) (t : TypeId) (hop : o.op = Op.mapUpdate t m x y)
    (ht : Tryd.prog.underlying t = some (.map 9 4)) (hm : a.eval m = .map (some b)) (k : ByteArray) (hk : keyB k = true) (hx : a.eval x = .string k) (hy : a.eval y = .bool true)
    (hK : ∀ w', TRel w0 b c (R ++ [k]) W w' → w.grownBy w' (some b) → wpList Tryd.prog ops Q rest (a.put o.dst undef) w') : wpList Tryd.prog ops Q (o :: rest) a w := by
  obtain ⟨D, F, h1, h2, h3, h4, h5⟩ := hT
  refine wpList_mapUpdate_own w hg m x y t hop 9 4 lawS ht _ b R.length D hm h1 (by unfold maxLen; omega) _ _ (kS k) hx hy (WideMaps.keyOf_string_mk Tryd.underlying9 (P := Tryd.prog) (k := 9) (s := k) (ksz hk)) (dB true) [] (plainElem_bool Tryd.underlying4 true) fun w' hown hgr => ?_
  exact hK w' ⟨_, F, by simpa using hown, setF_put h2 (ksz hk), h3.kept hgr (by simpa using Ne.symm hne), h4, h5.grown hgr (fun j hj => by injection hj with hj; omega)⟩ hgr
/-- one more in the second -/
theorem wpList_setW {w0 w : World} {b c : Nat} {R W : List ByteArray} (hT : TRel w0 b c R W w) (hb : w0.heap.size ≤ c) (hne : b ≠ c) (hn : W.length < 1000) (hg : o.guard = none) (m x y : Operand) (t : TypeId) (hop : o.op = Op.mapUpdate t m x y)
    (ht : Tryd.prog.underlying t = some (.map 9 4)) (hm : a.eval m = .map (some c)) (k : ByteArray) (hk : keyB k = true) (hx : a.eval x = .string k) (hy : a.eval y = .bool true)
    (hK : ∀ w', TRel w0 b c R (W ++ [k]) w' → w.grownBy w' (some c) → wpList Tryd.prog ops Q rest (a.put o.dst undef) w') : wpList Tryd.prog ops Q (o :: rest) a w := by
  obtain ⟨D, F, h1, h2, h3, h4, h5⟩ := hT
  refine wpList_mapUpdate_own w hg m x y t hop 9 4 lawS ht _ c W.length F hm h3 (by unfold maxLen; omega) _ _ (kS k) hx hy (WideMaps.keyOf_string_mk Tryd.underlying9 (P := Tryd.prog) (k := 9) (s := k) (ksz hk)) (dB true) [] (plainElem_bool Tryd.underlying4 true) fun w' hown hgr => ?_
  exact hK w' ⟨D, _, h1.kept hgr (by simpa using hne), h2, by simpa using hown, setF_put h4 (ksz hk), h5.grown hgr (fun j hj => by injection hj with hj; omega)⟩ hgr
end
end Go.Proofs.YtghemmmkbpfdhaaDoor

/- Contracts and lemmas for the proofs of this seat; each theorem states its own conditions. -/
namespace Go.Proofs.YtghemmmkbpfdhaaDoor
open Go.RowKit Go.Maps
/-! the document's Run -/
/-- values that may be -/
def FV (f : ByteArray → Option Int) : Prop := ∀ x c, f x = some c → valB c = true
theorem FV.at {f : ByteArray → Option Int} (h : FV f) (x : ByteArray) : -1000000000 ≤ atF f x ∧ atF f x ≤ 1000000000 := by
  unfold atF
  cases hf : f x with
  | none => simp
  | some c => exact valB_iff.1 (h x c hf)
theorem FV.put {f : ByteArray → Option Int} (h : FV f) (k : ByteArray) {c : Int} (hc : valB c = true) : FV (fun x => if x = k then some c else f x) := by
  intro x z hz
  dsimp only at hz
  split at hz
  · injection hz with hz; subst hz; exact hc
  · exact h x z hz
theorem atF_put (f : ByteArray → Option Int) (k : ByteArray) (c : Int) : atF (fun x => if x = k then some c else f x) = setV (atF f) k c := by
  funext x
  unfold setV
  show ((if x = k then some c else f x).getD 0) = if k = x then c else atF f x
  by_cases e : x = k
  · rw [if_pos e, if_pos e.symm]; rfl
  · rw [if_neg e, if_neg (fun q => e q.symm)]; rfl
theorem atF_same (f : ByteArray → Option Int) (k : ByteArray) (c : Int) : atF (fun x => if x = k then some c else f x) k = c := by
  rw [atF_put]; simp [setV]
theorem runV_app (v : Vls) (a b : Ops) : runV v (a ++ b) = (runV v a).bind fun u => runV u b := by
  induction a generalizing v with
  | nil => rfl
  | cons o a ih =>
    simp only [List.cons_append, runV]
    split
    · exact ih _
    · rfl
theorem runV_step {v u : Vls} {d : Ops} {k : Nat} (hk : k < d.length) (h : runV v (d.take k) = some u) : runV v (d.take (k + 1)) = if (doV u d[k]).2 then some (doV u d[k]).1 else none := by
  rw [List.take_succ_eq_append_getElem hk, runV_app, h]
  simp only [Option.bind_some, runV]
theorem runV_off {v : Vls} {d : Ops} {k : Nat} (h : runV v (d.take k) = none) : runV v d = none := by
  have := runV_app v (d.take k) (d.drop k)
  rw [List.take_append_drop, h] at this
  exact this
theorem runV_bad {v u : Vls} {d : Ops} {k : Nat} (hk : k < d.length) (h : runV v (d.take k) = some u) (hb : (doV u d[k]).2 = false) : stepV v d = v ∧ okV v d = false := by
  have h1 := runV_step hk h
  rw [hb] at h1
  have h2 := runV_off h1
  unfold stepV okV
  rw [h2]; exact ⟨rfl, rfl⟩
/-- what m[x] answers -/
theorem look_int {w : World} {b n : Nat} {D : DU} {f : ByteArray → Option Int} (hown : w.ownsMap Tryd.prog 9 (plainElem Tryd.prog 3) b n D) (hF : MapF kS okS dI D f) {x : ByteArray} (hx : okS x) :
    (Instr.lookup 80 (.map (some b)) (.string x) false).run Tryd.prog w = .ok (.int .i64 (atF f x)) w := by
  have hzero := Tryd.zeroValue3
  obtain ⟨c, hrun, hat, _⟩ := hown.lookup_int lawS Tryd.underlying80 Tryd.underlying3 (hzero w) (WideMaps.keyOf_string_mk Tryd.underlying9 (P := Tryd.prog) (k := 9) (s := x) hx)
  have := hF.look dI_inj hx hat
  rw [hrun, this]; rfl
/-- the copy so far -/
def CpRel (w0 : World) (b bo r n : Nat) (D : DU) (f : ByteArray → Option Int) (wr : World) : Prop :=
  ∃ (left : Lit → Bool) (cnt m : Nat) (Do : DU) (g : ByteArray → Option Int), wr.ranges Tryd.prog 9 (plainElem Tryd.prog 3) b r n D left cnt ∧ wr.ownsMap Tryd.prog 9 (plainElem Tryd.prog 3) bo m Do ∧ MapF kS okS dI Do g ∧
    (∀ x, okS x → (left (kS x) = true → g x = none) ∧ (left (kS x) = false → g x = f x)) ∧ m + cnt ≤ n ∧ Ext w0 wr
theorem cp_step {f g : ByteArray → Option Int} {left : Lit → Bool} {x : ByteArray} {c : Int} (h : ∀ x, okS x → (left (kS x) = true → g x = none) ∧ (left (kS x) = false → g x = f x)) (hf : f x = some c) :
    ∀ y, okS y → ((left (kS y) && !(kS y).sameKey (kS x)) = true → (if y = x then some c else g y) = none) ∧ ((left (kS y) && !(kS y).sameKey (kS x)) = false → (if y = x then some c else g y) = f y) := by
  intro y hy
  by_cases e : y = x
  · subst e
    rw [sameKey_self]
    simp [hf]
  · rw [sameKey_kS e, if_neg e]
    simpa using h y hy
/-- what a run has made so far -/
def RnRel (w0 : World) (bo n : Nat) (v : Vls) (d : Ops) (k : Nat) (wr : World) : Prop :=
  ∃ (m : Nat) (Do : DU) (g : ByteArray → Option Int), wr.ownsMap Tryd.prog 9 (plainElem Tryd.prog 3) bo m Do ∧ MapF kS okS dI Do g ∧ FV g ∧ runV v (d.take k) = some (atF g) ∧ m ≤ n + 2 * k ∧ Ext w0 wr
end Go.Proofs.YtghemmmkbpfdhaaDoor
