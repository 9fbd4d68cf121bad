/- Contracts and lemmas for the proof of TopLog; each theorem states its own conditions. -/
import Derived.Test.YtddghaoejnbkaaaGreatDoorQTopLogbi
import Derived.Test.YtddghaoejnbkaaaGreatDoorQTopLogba
set_option linter.unusedVariables false
set_option linter.unusedSimpArgs false
/- Contracts and lemmas for the proofs of this seat; each theorem states its own conditions. -/
namespace Go.Proofs.YtddghaoejnbkaaaGreatDoor
/-! parts of a store, all and turned, in plain lists -/
/-- what the last one says -/
def lastV (v : Int) : Prs → ByteArray → Int
  | [], _ => v
  | x :: l, k => lastV (if x.1 = k then x.2 else v) l k
theorem lastV_app (v : Int) (a b : Prs) (k : ByteArray) : lastV v (a ++ b) k = lastV (lastV v a k) b k := by
  induction a generalizing v with
  | nil => rfl
  | cons x a ih => rw [List.cons_append, lastV, ih]; rfl
theorem lastV_filter (p : ByteArray → Bool) (v : Int) (l : Prs) (k : ByteArray) : lastV v (l.filter fun x => p x.1) k = if p k = true then lastV v l k else v := by
  induction l generalizing v with
  | nil => simp [lastV]
  | cons x l ih =>
    rw [List.filter_cons]
    by_cases h : x.1 = k
    · subst h
      cases hp : p x.1
      · rw [if_neg (by simp), ih]; simp [hp]
      · rw [if_pos rfl, lastV, ih, lastV]; simp [hp]
    · cases hp : p x.1
      · rw [if_neg (by simp), ih, lastV, if_neg h]
      · rw [if_pos rfl, lastV, ih, lastV, if_neg h]
theorem val_no {l : Prs} {k : ByteArray} (h : ∀ x ∈ l, x.1 ≠ k) : valP l k = 0 := by
  induction l with
  | nil => rfl
  | cons x l ih => rw [valP, if_neg (h x (by simp)), ih fun y hy => h y (by simp [hy])]
theorem lastV_store {l : Prs} (hs : srtP l) (hz : ∀ x ∈ l, x.2 ≠ 0) (v : Int) (k : ByteArray) : lastV v l k = if valP l k = 0 then v else valP l k := by
  induction l generalizing v with
  | nil => simp [lastV, valP]
  | cons x l ih =>
    obtain ⟨h1, h2⟩ := srtP_cons.1 hs
    rw [lastV, ih h2 (fun y hy => hz y (by simp [hy])), valP]
    by_cases e : x.1 = k
    · subst e
      have h0 : valP l x.1 = 0 := val_no fun y hy e => by have := h1 y hy; rw [e, blt_irrefl] at this; cases this
      rw [if_pos rfl, h0, if_pos rfl, if_pos rfl, if_neg (hz x (by simp))]
    · rw [if_neg e, if_neg e]
/-- one put after the other -/
def foldW (A : Prs) (l : Prs) : Prs := l.foldl (fun a x => withP a x.1 x.2) A
theorem foldW_app (A l m : Prs) : foldW A (l ++ m) = foldW (foldW A l) m := by unfold foldW; rw [List.foldl_append]
theorem foldW_one (A : Prs) (x : ByteArray × Int) : foldW A [x] = withP A x.1 x.2 := rfl
theorem foldW_ok : ∀ {l A : Prs}, StoreOk A → (∀ x ∈ l, keyB x.1 = true ∧ -1000000000 ≤ x.2 ∧ x.2 ≤ 1000000000) → StoreOk (foldW A l) ∧ (foldW A l).length ≤ A.length + l.length ∧ ∀ k, valP (foldW A l) k = lastV (valP A k) l k
  | [], A, h, _ => ⟨h, Nat.le_refl _, fun k => rfl⟩
  | x :: l, A, h, hl => by
    obtain ⟨q1, q2⟩ := hl x (by simp)
    obtain ⟨a, b, c⟩ := foldW_ok (l := l) (storeOk_with h q1 q2) fun y hy => hl y (by simp [hy])
    have hw := with_len A x.1 x.2
    refine ⟨a, by have e : foldW A (x :: l) = foldW (withP A x.1 x.2) l := rfl
                  rw [e, List.length_cons]; omega, fun k => ?_⟩
    have e : foldW A (x :: l) = foldW (withP A x.1 x.2) l := rfl
    rw [e, c k, val_with h.srt, lastV]
/-- the parts below i, in a row -/
def allP (P : Nat → Prs) : Nat → Prs
  | 0 => []
  | i + 1 => allP P i ++ P i
/-- the parts of a store -/
def parP (C : List ByteArray) (O : List Int) (S : Prs) (i : Nat) : Prs := partP C O S (i : Int)
theorem par_ok {S : Prs} (h : StoreOk S) (C : List ByteArray) (O : List Int) (i : Nat) : StoreOk (parP C O S i) := storeOk_filter h _
theorem par_len (C : List ByteArray) (O : List Int) (S : Prs) (i : Nat) : (parP C O S i).length ≤ S.length := List.length_filter_le _ _
theorem par_val {S : Prs} (h : StoreOk S) (C : List ByteArray) (O : List Int) (i : Nat) (k : ByteArray) : valP (parP C O S i) k = if whose C O k = (i : Int) then valP S k else 0 := by
  unfold parP
  rw [partP, val_filter h.srt]
  by_cases e : whose C O k = (i : Int)
  · rw [if_pos (by simp [e]), if_pos e]
  · rw [if_neg (by simp [e]), if_neg e]
theorem par_mem {C : List ByteArray} {O : List Int} {S : Prs} {i : Nat} {x : ByteArray × Int} (h : x ∈ parP C O S i) : whose C O x.1 = (i : Int) ∧ x ∈ S := by
  unfold parP partP at h
  obtain ⟨h1, h2⟩ := List.mem_filter.1 h
  exact ⟨by simpa using h2, h1⟩
theorem all_mem {C : List ByteArray} {O : List Int} {S : Prs} {x : ByteArray × Int} : ∀ {i : Nat}, x ∈ allP (parP C O S) i → x ∈ S
  | 0, h => by simp [allP] at h
  | i + 1, h => by
    rcases List.mem_append.1 h with h | h
    · exact all_mem h
    · exact (par_mem h).2
theorem all_pr {C : List ByteArray} {O : List Int} {S : Prs} (hS : StoreOk S) {i : Nat} : ∀ x ∈ allP (parP C O S) i, keyB x.1 = true ∧ -1000000000 ≤ x.2 ∧ x.2 ≤ 1000000000 := fun x hx => ⟨hS.key x (all_mem hx), (hS.val x (all_mem hx)).2⟩
theorem all_last {C : List ByteArray} {O : List Int} (hm : MapOk C O) {S : Prs} (hS : StoreOk S) (k : ByteArray) : ∀ i : Nat, lastV 0 (allP (parP C O S) i) k = if whose C O k < (i : Int) then valP S k else 0
  | 0 => by rw [if_neg (by have := (whose_rng hm k).1; simp; omega)]; rfl
  | i + 1 => by
    have hp := par_ok hS C O i
    rw [allP, lastV_app, all_last hm hS k i, lastV_store hp.srt hp.nz, par_val hS]
    by_cases e : whose C O k = (i : Int)
    · rw [if_pos e]
      have h1 : ¬ whose C O k < (i : Int) := by omega
      have h2 : whose C O k < ((i + 1 : Nat) : Int) := by omega
      rw [if_neg h1, if_pos h2]
      split
      · rename_i h; exact h.symm
      · rfl
    · rw [if_neg e, if_pos rfl]
      by_cases e2 : whose C O k < (i : Int)
      · rw [if_pos e2, if_pos (by omega)]
      · rw [if_neg e2, if_neg (by omega)]
/-- all that all have is the store -/
theorem all_store {C : List ByteArray} {O : List Int} (hm : MapOk C O) {S : Prs} (hS : StoreOk S) : foldW [] (allP (parP C O S) 4) = S := by
  obtain ⟨a, _, c⟩ := foldW_ok (l := allP (parP C O S) 4) storeOk_nil (all_pr hS)
  refine store_ext a hS fun k => ?_
  have hr : whose C O k < ((4 : Nat) : Int) := (whose_rng hm k).2
  rw [c k]
  show lastV 0 _ k = _
  rw [all_last hm hS, if_pos hr]
/-- all of whom a map names -/
def toP (C : List ByteArray) (O : List Int) (l : Prs) (a : Nat) : Prs := l.filter fun x => decide (whose C O x.1 = (a : Int))
theorem turn_store {C C' : List ByteArray} {O O' : List Int} (hm : MapOk C O) {S : Prs} (hS : StoreOk S) (a : Nat) : foldW [] (toP C' O' (allP (parP C O S) 4) a) = parP C' O' S a := by
  obtain ⟨p, _, c⟩ := foldW_ok (l := toP C' O' (allP (parP C O S) 4) a) storeOk_nil (fun x hx => all_pr hS x (List.mem_filter.1 hx).1)
  refine store_ext p (par_ok hS C' O' a) fun k => ?_
  have hr : whose C O k < ((4 : Nat) : Int) := (whose_rng hm k).2
  rw [c k, par_val hS]
  show lastV 0 _ k = _
  unfold toP
  rw [lastV_filter (fun k => decide (whose C' O' k = (a : Int))), all_last hm hS, if_pos hr]
  simp
theorem toP_add (C : List ByteArray) (O : List Int) (l : Prs) (x : ByteArray × Int) (a : Nat) : toP C O (l ++ [x]) a = if whose C O x.1 = (a : Int) then toP C O l a ++ [x] else toP C O l a := by
  unfold toP
  rw [List.filter_append]
  by_cases e : whose C O x.1 = (a : Int)
  · simp [e]
  · simp [e]
/-- how many have another owner by another map -/
def movedN (C C' : List ByteArray) (O O' : List Int) (l : Prs) : Nat := l.countP fun x => whose C' O' x.1 != whose C O x.1
theorem moved_app (C C' : List ByteArray) (O O' : List Int) (l m : Prs) : movedN C C' O O' (l ++ m) = movedN C C' O O' l + movedN C C' O O' m := List.countP_append
theorem moved_one (C C' : List ByteArray) (O O' : List Int) (x : ByteArray × Int) : movedN C C' O O' [x] = if whose C' O' x.1 = whose C O x.1 then 0 else 1 := by
  unfold movedN
  rw [List.countP_cons]
  by_cases e : whose C' O' x.1 = whose C O x.1
  · simp [e]
  · simp [e]
theorem moved_to (C C' : List ByteArray) (O O' : List Int) (S : Prs) : ∀ i : Nat, movedN C C' O O' (allP (parP C O S) i) = movedN C C' O O' (S.filter fun x => decide (0 ≤ whose C O x.1) && decide (whose C O x.1 < (i : Int)))
  | 0 => by
    have : (S.filter fun x => decide (0 ≤ whose C O x.1) && decide (whose C O x.1 < ((0 : Nat) : Int))) = [] := by
      rw [List.filter_eq_nil_iff]
      intro x _
      simp
    rw [this]; rfl
  | i + 1 => by
    rw [allP, moved_app, moved_to C C' O O' S i]
    unfold movedN parP partP
    induction S with
    | nil => rfl
    | cons x S ih =>
      simp only [List.filter_cons]
      by_cases e : whose C O x.1 = (i : Int)
      · have h1 : (decide (0 ≤ whose C O x.1) && decide (whose C O x.1 < (i : Int))) = false := by simp; omega
        have h2 : (!(whose C O x.1 != (i : Int))) = true := by simp [e]
        have h3 : (decide (0 ≤ whose C O x.1) && decide (whose C O x.1 < ((i + 1 : Nat) : Int))) = true := by simp; omega
        rw [h1, h2, h3]
        simp only [Bool.false_eq_true, if_false, if_true, List.countP_cons]
        omega
      · have h2 : (!(whose C O x.1 != (i : Int))) = false := by simp [e]
        have h3 : (decide (0 ≤ whose C O x.1) && decide (whose C O x.1 < ((i + 1 : Nat) : Int))) = (decide (0 ≤ whose C O x.1) && decide (whose C O x.1 < (i : Int))) := by
          congr 1
          rw [decide_eq_decide]
          constructor <;> intro h <;> omega
        rw [h2, h3]
        cases decide (0 ≤ whose C O x.1) && decide (whose C O x.1 < (i : Int))
        · simpa using ih
        · simp only [Bool.false_eq_true, if_false, if_true, List.countP_cons]
          omega
theorem moved_all {C : List ByteArray} {O : List Int} (hm : MapOk C O) (C' : List ByteArray) (O' : List Int) (S : Prs) : movedN C C' O O' (allP (parP C O S) 4) = movedN C C' O O' S := by
  rw [moved_to]
  congr 1
  rw [List.filter_eq_self]
  intro x _
  have := whose_rng hm x.1
  simp; omega
theorem moved_le (C C' : List ByteArray) (O O' : List Int) (S : Prs) : movedN C C' O O' S ≤ S.length := List.countP_le_length
theorem filter_two {α : Type} {p q r : α → Bool} (h1 : ∀ x, p x = true → r x = true) (h2 : ∀ x, q x = true → r x = true) (h3 : ∀ x, p x = true → q x = true → False) : ∀ l : List α, (l.filter p).length + (l.filter q).length ≤ (l.filter r).length
  | [] => by simp
  | x :: l => by
    have ih := filter_two h1 h2 h3 l
    simp only [List.filter_cons]
    cases hp : p x with
    | true =>
      cases hq : q x with
      | true => exact absurd hq (fun e => h3 x hp e)
      | false => rw [if_pos rfl, if_neg (by simp), if_pos (h1 x hp)]; simp only [List.length_cons]; omega
    | false =>
      cases hq : q x with
      | true => rw [if_neg (by simp), if_pos rfl, if_pos (h2 x hq)]; simp only [List.length_cons]; omega
      | false =>
        rw [if_neg (by simp), if_neg (by simp)]
        split
        · simp only [List.length_cons]; omega
        · exact ih
theorem all_len0 (C : List ByteArray) (O : List Int) (S : Prs) : ∀ i : Nat, (allP (parP C O S) i).length ≤ (S.filter fun x => decide (0 ≤ whose C O x.1) && decide (whose C O x.1 < (i : Int))).length
  | 0 => by simp [allP]
  | i + 1 => by
    rw [allP, List.length_append]
    have ih := all_len0 C O S i
    have e : parP C O S i = S.filter fun x => !(whose C O x.1 != (i : Int)) := rfl
    have h := filter_two (p := fun x : ByteArray × Int => decide (0 ≤ whose C O x.1) && decide (whose C O x.1 < (i : Int))) (q := fun x => !(whose C O x.1 != (i : Int))) (r := fun x => decide (0 ≤ whose C O x.1) && decide (whose C O x.1 < ((i + 1 : Nat) : Int)))
      (fun x hx => by simp only [Bool.and_eq_true, decide_eq_true_eq] at hx ⊢; omega) (fun x hx => by simp only [Bool.and_eq_true, decide_eq_true_eq, Bool.not_eq_true', bne_eq_false_iff_eq] at hx ⊢; omega) (fun x hx hy => by simp only [Bool.and_eq_true, decide_eq_true_eq, Bool.not_eq_true', bne_eq_false_iff_eq] at hx hy; omega) S
    rw [e]; omega
theorem all_len (C : List ByteArray) (O : List Int) (S : Prs) (i : Nat) : (allP (parP C O S) i).length ≤ S.length := by
  have := all_len0 C O S i
  have h2 := List.length_filter_le (fun x : ByteArray × Int => decide (0 ≤ whose C O x.1) && decide (whose C O x.1 < (i : Int))) S
  omega
end Go.Proofs.YtddghaoejnbkaaaGreatDoor

/- Contracts and lemmas for the proofs of this seat; each theorem states its own conditions. -/
namespace Go.Proofs.YtddghaoejnbkaaaGreatDoor
open Go.RowKit
/-! two appends in one region that draws its order -/
/-- append under a frame of appends: at the operation -/
theorem wpList_appG {P : Program} {w : World} {ops : Array Oper} {rest : List Oper} {o : Oper} {a : Act} {Q : Exit → Act → World → Prop} (hgd : o.guard = none) (s x : Operand) (t : TypeId)
    (ho : o.op = .call { callee := .builtin .append, args := #[s, x], argTypes := #[t, t] })
    (base : Nat) (e : TypeId) (z : Value) (size bytes : Nat) (ht : P.underlying t = some (.slice e))
    (hinfo : (P.info? e).map (fun i => (i.zero, i.size, i.bytes)) = some (some z, size, bytes)) (hzs : z.cells.size = size) (hsz : 0 < size)
    (v : Value) (n : Nat) (xs : List Value) (hs : a.eval s = v) (hown : w.ownsRow base e size v n xs)
    (xv : Value) (m : Nat) (news : List Value) (hx : a.eval x = xv) (hm : 0 < m) (hseg : Seg w xv size m news) (h1 : ∀ u ∈ news, u.oneCell' = true)
    (hbytes : (n + m) * bytes ≤ 140737488355328) (h63 : n + m ≤ maxLen) (hbase : base ≤ w.heap.size)
    (G : Nat → Option (Nat × List Value)) (hG : ∀ g, v.ownBlock = some g → ∃ o, o = n * size ∧ G g = some (o, news)) (hGlt : ∀ k, w.heap.size ≤ k → G k = none)
    (h : ∀ v' w', OwnG G base e size v' (n + m) (xs ++ news) w' → GF G w w' → (∀ k, v'.ownBlock = some k → v.ownBlock = some k ∨ w.heap.size ≤ k) → wpList P ops Q rest (a.put o.dst v') w') : wpList P ops Q (o :: rest) a w := by
  obtain ⟨hl, ad, cap, rfl, hc1, hc2, hc3⟩ := hseg
  obtain ⟨b, off, rfl, h6⟩ := hc3 hm
  obtain ⟨v', w', r1, r2, r3, _, r5⟩ := run_app (P := P) w t o.type e z size bytes ht hinfo hzs hsz base v n xs hown ⟨b, off, none⟩ m cap news hl (fun j u hu => by rw [addr_add]; exact h6 j u hu) h1 hbytes h63 hbase G (fun g hg => by obtain ⟨o', e, h⟩ := hG g hg; rw [← e]; exact h) hGlt
  refine wpList_plain hgd fun K hK => ?_
  unfold Oper.wp
  simp [execOp, ho, resolve, invoke, builtin, hs, hx, r1, Result.andThen]
  exact hK _ _ (h v' w' r2 r3 r5)
/-- what two appends turn: r's row by ns, w's row by ms -/
def G2 (r : Value) (n : Nat) (ns : List Value) (u : Value) (m : Nat) (ms : List Value) : Nat → Option (Nat × List Value) := fun g =>
  if r.ownBlock = some g then some (n, ns) else if u.ownBlock = some g then some (m, ms) else none
theorem g2_fst {r u : Value} {n m : Nat} {ns ms : List Value} : ∀ g, r.ownBlock = some g → G2 r n ns u m ms g = some (n, ns) := fun g h => by simp [G2, h]
theorem g2_snd {r u : Value} {n m : Nat} {ns ms : List Value} (ha : ∀ k, r.ownBlock = some k → u.ownBlock ≠ some k) : ∀ g, u.ownBlock = some g → G2 r n ns u m ms g = some (m, ms) := fun g h => by
  have : r.ownBlock ≠ some g := fun e => ha g e h
  simp [G2, h, this]
theorem g2_none {r u : Value} {n m : Nat} {ns ms : List Value} {N : Nat} (hr : ∀ k, r.ownBlock = some k → k < N) (hu : ∀ k, u.ownBlock = some k → k < N) : ∀ k, N ≤ k → G2 r n ns u m ms k = none := fun k hk => by
  have h1 : r.ownBlock ≠ some k := fun e => by have := hr k e; omega
  have h2 : u.ownBlock ≠ some k := fun e => by have := hu k e; omega
  simp [G2, h1, h2]
theorem g2_own_fst {r u : Value} {n m B e : Nat} {ns ms xs : List Value} {w : World} (h : w.ownsRow B e 1 r n xs) : OwnG (G2 r n ns u m ms) B e 1 r n xs w :=
  ⟨h, fun g hg o os ho => by rw [g2_fst g hg] at ho; injection ho with ho; injection ho with h1 h2; left; omega⟩
theorem g2_own_snd {r u : Value} {n m B e : Nat} {ns ms xs : List Value} {w : World} (ha : ∀ k, r.ownBlock = some k → u.ownBlock ≠ some k) (h : w.ownsRow B e 1 u m xs) : OwnG (G2 r n ns u m ms) B e 1 u m xs w :=
  ⟨h, fun g hg o os ho => by rw [g2_snd ha g hg] at ho; injection ho with ho; injection ho with h1 h2; left; omega⟩
theorem g2_fst1 {r u : Value} {n m : Nat} {ns ms : List Value} : ∀ g, r.ownBlock = some g → ∃ o, o = n * 1 ∧ G2 r n ns u m ms g = some (o, ns) := fun g h => ⟨n, by omega, g2_fst g h⟩
theorem g2_snd1 {r u : Value} {n m : Nat} {ns ms : List Value} (ha : ∀ k, r.ownBlock = some k → u.ownBlock ≠ some k) : ∀ g, u.ownBlock = some g → ∃ o, o = m * 1 ∧ G2 r n ns u m ms g = some (o, ms) := fun g h => ⟨m, by omega, g2_snd ha g h⟩
/-- a fresh block with some cells -/
def NewB (N : Nat) (cs : Array Value) (e : TypeId) (m : Nat) (v : Value) (w : World) : Prop := ∃ b, v = .slice (some ⟨b, 0, none⟩) m m ∧ w.heap[b]? = some (.cells cs e (0, 0)) ∧ N ≤ b
theorem NewB.st {G : Nat → Option (Nat × List Value)} {N m : Nat} {cs : Array Value} {e : TypeId} {v : Value} {w w' : World} (hG : ∀ k, N ≤ k → G k = none) (hF : GF G w w') (h : NewB N cs e m v w) : NewB N cs e m v w' := by
  obtain ⟨b, h1, h2, h3⟩ := h
  exact ⟨b, h1, gf_heap hF h2 (hG b h3), h3⟩
theorem NewB.seg {N m : Nat} {cs : List Value} {e : TypeId} {v : Value} {w : World} (h : NewB N cs.toArray e m v w) (hl : cs.length = m) (hm : m ≤ 10) : Seg w v 1 m cs := by
  obtain ⟨b, rfl, h2, _⟩ := h
  exact seg_blk h2 (by omega) (Nat.le_refl _) (by unfold maxLen; omega)
theorem gf_size {G : Nat → Option (Nat × List Value)} {w w' : World} (h : GF G w w') : w.heap.size ≤ w'.heap.size := h.2.2.2.1
theorem phNew {G : Nat → Option (Nat × List Value)} {w0 w' : World} {x : Nat → Value} {cs : Array Value} {e : TypeId} {m : Nat} (hE : GF G w0 w') :
    PR.PhOk (GF G) w0 (.p (NewB w0.heap.size cs e m)) x w' (.slice (some ⟨w'.heap.size, 0, none⟩) m m) (w'.alloc (.cells cs e (0, 0))) :=
  PR.phN (gf_fr G) ⟨_, rfl, heap_alloc_new _ _, gf_size hE⟩ hE (gf_ext ((Ext.refl _).alloc _))
/-- what the first append leaves -/
def App1 (G : Nat → Option (Nat × List Value)) (N B e : Nat) (r : Value) (n : Nat) (xs : List Value) (v : Value) (w : World) : Prop :=
  OwnG G B e 1 v n xs w ∧ ∀ k, v.ownBlock = some k → r.ownBlock = some k ∨ (N ≤ k ∧ k < w.heap.size)
theorem App1.st {G : Nat → Option (Nat × List Value)} {N B e n : Nat} {r v : Value} {xs : List Value} {w w' : World} (hF : GF G w w') (h : App1 G N B e r n xs v w) : App1 G N B e r n xs v w' :=
  ⟨OwnG.st hF h.1, fun k hk => by
    rcases h.2 k hk with a | ⟨a, b⟩
    · exact .inl a
    · exact .inr ⟨a, Nat.lt_of_lt_of_le b (gf_size hF)⟩⟩
/-- and the second -/
def App2 (G : Nat → Option (Nat × List Value)) (N B e : Nat) (r : Value) (n : Nat) (xs : List Value) (l : List Value) (v : Value) (w : World) : Prop :=
  OwnG G B e 1 v n xs w ∧ (∀ k, v.ownBlock = some k → r.ownBlock = some k ∨ N ≤ k) ∧ ∀ u ∈ l, ∀ k, u.ownBlock = some k → v.ownBlock ≠ some k
theorem App2.st {G : Nat → Option (Nat × List Value)} {N B e n : Nat} {r v : Value} {xs l : List Value} {w w' : World} (hF : GF G w w') (h : App2 G N B e r n xs l v w) : App2 G N B e r n xs l v w' := ⟨OwnG.st hF h.1, h.2.1, h.2.2⟩
theorem app1_mk {G : Nat → Option (Nat × List Value)} {N B e n : Nat} {r v : Value} {xs : List Value} {w' w'' : World} (hN : N ≤ w'.heap.size) (o1 : OwnG G B e 1 v n xs w'') (o3 : ∀ k, v.ownBlock = some k → r.ownBlock = some k ∨ w'.heap.size ≤ k) : App1 G N B e r n xs v w'' :=
  ⟨o1, fun k hk => by
    rcases o3 k hk with a | a
    · exact .inl a
    · exact .inr ⟨by omega, (o1.1.lt k hk).2⟩⟩
theorem app2_mk {G : Nat → Option (Nat × List Value)} {w0 : World} {N B e n n1 : Nat} {r u v v1 : Value} {xs xs1 : List Value} {w' w'' : World} (hN : N ≤ w'.heap.size) (hr : ∀ k, r.ownBlock = some k → k < N) (hu : ∀ k, u.ownBlock = some k → k < N) (ha : ∀ k, r.ownBlock = some k → u.ownBlock ≠ some k)
    (u1 : PR.Up (GF G) w0 w' (App1 G N B e r n1 xs1 v1)) (o1 : OwnG G B e 1 v n xs w'') (o3 : ∀ k, v.ownBlock = some k → u.ownBlock = some k ∨ w'.heap.size ≤ k) : App2 G N B e u n xs [v1] v w'' := by
  have h1 := u1.now (fun a b => App1.st a b)
  refine ⟨o1, fun k hk => ?_, fun y hy k hk hk' => ?_⟩
  · rcases o3 k hk with a | a
    · exact .inl a
    · exact .inr (by omega)
  · simp at hy; subst hy
    rcases h1.2 k hk with a | ⟨a, b⟩
    · rcases o3 k hk' with c | c
      · exact ha k a c
      · have := hr k a; omega
    · rcases o3 k hk' with c | c
      · have := hu k c; omega
      · omega
end Go.Proofs.YtddghaoejnbkaaaGreatDoor
