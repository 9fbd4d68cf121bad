/- Contracts and lemmas for the proof of MergeOrder; each theorem states its own conditions. -/
import Derived.Test.YtijcckhkofkenaaQMergeOrderbt
import Derived.Test.YtijcckhkofkenaaQMergeOrderbf
set_option linter.unusedVariables false
set_option linter.unusedSimpArgs false
/- Contracts and lemmas for the proofs of this seat; each theorem states its own conditions. -/
namespace Go.Proofs.Ytijcckhkofkenaa
open Go.RowKit Go.Maps
/-! the table's steps, in memory -/
theorem grown_then_ext {a b c : World} {row : Option Nat} (h : a.grownBy b row) (k : Ext b c) : a.grownBy c row := h.trans (grown_of_ext k)
theorem Mid.ext {w0 w w' : World} {B bt bk bd : Nat} {A : List Ops} {g : Nat → Bool} {F : ByteArray → Option SV} {G : Int → Option SV} {Cl : ByteArray → Clm} {N X : Nat} {key : ByteArray} {l' : Clm} {v : Value} (h : Mid w0 B bt bk bd A g F G Cl N X key l' v w) (E : Ext w w') : Mid w0 B bt bk bd A g F G Cl N X key l' v w' := by
  obtain ⟨w1, h1, h2, h3, h4, h5⟩ := h
  exact ⟨w1, h1, grown_then_ext h2 E, own_ext h3 E, h4, h5⟩
theorem Mid.box {w0 w : World} {B bt bk bd : Nat} {A : List Ops} {g : Nat → Bool} {F : ByteArray → Option SV} {G : Int → Option SV} {Cl : ByteArray → Clm} {N X : Nat} {key : ByteArray} {l' : Clm} {v : Value} (h : Mid w0 B bt bk bd A g F G Cl N X key l' v w) : w.heap[bt]? = some (.cells #[.map (some bk), .map (some bd), .int .i64 X] 134 (0, 0)) := by
  obtain ⟨w1, h1, h2, _⟩ := h
  exact grown_heap h2 h1.box (claim_ne_box h1 key).1
/-- blocks of other elements stand -/
theorem TFr.heapG {B bt bk bd : Nat} {w w' : World} (h : TFr B bt bk bd w w') {A : List Ops} {g : Nat → Bool} {F : ByteArray → Option SV} {G : Int → Option SV} {Cl : ByteArray → Clm} {N X : Nat} (hl : LockG w B bt bk bd A g F G Cl N X) {i e : Nat} {cs : Array Value} (hi : w.heap[i]? = some (.cells cs e (0, 0))) (h1 : e ≠ 139) (h2 : e ≠ 134) : w'.heap[i]? = some (.cells cs e (0, 0)) := by
  rcases h.2.2.2.2 i (Array.getElem?_eq_some_iff.1 hi).1 with e' | ⟨_, e' | e' | e' | ⟨cs', e'⟩⟩
  · rw [e']; exact hi
  · subst e'; rw [hl.box] at hi; injection hi with hi; injection hi with _ hi; exact absurd hi.symm h2
  · subst e'
    obtain ⟨n, D, ⟨es, clock, hm, _⟩, _⟩ := hl.km
    rw [hm] at hi; cases hi
  · subst e'
    obtain ⟨n, D, ⟨es, clock, hm, _⟩, _⟩ := hl.dm
    rw [hm] at hi; cases hi
  · rw [e'] at hi; injection hi with hi; injection hi with _ hi; exact absurd hi.symm h1
theorem TFr.ownG {B bt bk bd : Nat} {w w' : World} (h : TFr B bt bk bd w w') {A : List Ops} {g : Nat → Bool} {F : ByteArray → Option SV} {G : Int → Option SV} {Cl : ByteArray → Clm} {N X : Nat} (hl : LockG w B bt bk bd A g F G Cl N X) {B' e sz n : Nat} {v : Value} {xs : List Value} (ho : w.ownsRow B' e sz v n xs) (h1 : e ≠ 139) (h2 : e ≠ 134) : w'.ownsRow B' e sz v n xs := by
  refine ⟨ho.1, ?_⟩
  rcases ho.2 with hn | ⟨b, cap, cur, rfl, hb, hg, rest⟩
  · exact .inl hn
  · exact .inr ⟨b, cap, cur, rfl, hb, h.heapG hl hg h1 h2, rest⟩
theorem TFr.of_grown {B bt bk bd i : Nat} {w w' : World} (hg : w.grownBy w' (some i)) (hB : B ≤ i) (hi : i = bt ∨ i = bk ∨ i = bd) : TFr B bt bk bd w w' :=
  ⟨hg.os, hg.tape, hg.output, hg.size, fun j hj => by
    by_cases e : j = i
    · subst e
      refine .inr ⟨hB, ?_⟩
      rcases hi with e | e | e
      · exact .inl e
      · exact .inr (.inl e)
      · exact .inr (.inr (.inl e))
    · exact .inl (hg.block j hj (fun e' => e (Option.some.inj e')))⟩
theorem not_map_row {w : World} {B e sz n b : Nat} {v : Value} {xs : List Value} (h : w.ownsRow B e sz v n xs) {R : Value → Option (DU × List MemPlace)} {k : TypeId} {m : Nat} {D : DU} (hm : w.ownsMap Try.prog k R b m D) : v.ownBlock ≠ some b := by
  obtain ⟨es, clock, hm, _⟩ := hm
  exact own_not_map h hm
theorem G_none {A : List Ops} {g : Nat → Bool} {G : Int → Option SV} (h : ∀ z : Int, (∀ n : Nat, z = (n : Int) → n < A.length → g n = false → False) → G z = none) : G (A.length : Int) = none :=
  h _ fun n e h1 _ => by omega
/-- next++ -/
theorem lock_next {w : World} {B bt bk bd : Nat} {A : List Ops} {g : Nat → Bool} {F : ByteArray → Option SV} {G : Int → Option SV} {Cl : ByteArray → Clm} {N X : Nat} (h : LockG w B bt bk bd A g F G Cl N X) (Y : Nat) :
    LockG (w.setCell ⟨bt, 2, none⟩ (.int .i64 Y)) B bt bk bd A g F G Cl N Y ∧ TFr B bt bk bd w (w.setCell ⟨bt, 2, none⟩ (.int .i64 Y)) := by
  have hb := h.box
  have hg : w.grownBy (w.setCell ⟨bt, 2, none⟩ (.int .i64 Y)) (some bt) := ⟨rfl, rfl, rfl, by simp [World.setCell], fun j hj hne => by
    have : bt ≠ j := fun e => hne (by rw [e])
    simp [World.setCell, Array.getElem?_modify, this]⟩
  have hmk : ∀ {b : Nat} {k : TypeId} {m : Nat} {D : DU}, w.ownsMap Try.prog k svElem b m D → some b ≠ some bt := by
    rintro b k m D ⟨es, clock, hm, _⟩ e
    injection e with e; subst e; rw [hb] at hm; cases hm
  refine ⟨⟨h.hBt, h.hBk, h.hBd, h.ne, ?_, ?_, ?_, fun k => ?_, h.apart, fun n h1 h2 => ?_⟩, TFr.of_grown hg h.hBt (.inl rfl)⟩
  · simp [World.setCell, Array.getElem?_modify, hb]
  · obtain ⟨n, D, a, b⟩ := h.km
    exact ⟨n, D, a.kept hg (hmk a), b⟩
  · obtain ⟨n, D, a, b⟩ := h.dm
    exact ⟨n, D, a.kept hg (hmk a), b⟩
  · exact kept_ne hg (h.keys k) (claim_ne_box h k).1
  · obtain ⟨s, e, o⟩ := h.rows n h1 h2
    exact ⟨s, e, kept_ne hg o (own_ne o hb (by decide))⟩
/-- a deed's row comes in -/
theorem lock_deed {w w' : World} {B bt bk bd : Nat} {A : List Ops} {g : Nat → Bool} {F : ByteArray → Option SV} {G : Int → Option SV} {Cl : ByteArray → Clm} {N X : Nat} (h : LockG w B bt bk bd A g F G Cl N X) (hg0 : g A.length = false) (hG : G (A.length : Int) = none) {d : Ops} {sv : SV} {n : Nat} {D : DU}
    (hmap : w.ownsMap Try.prog 3 svElem bd n D) (hn : n ≤ A.length) (hF : MapF kI okI dV D G) (hsz : size D = liveN g A.length) (hok : okI (A.length : Int)) (ho : w.ownsRow B 9 1 (svV sv) (tkL d).length (cS (tkL d)))
    (hmap' : w'.ownsMap Try.prog 3 svElem bd (n + 1) (D.put (kI A.length) (dV sv))) (hg' : w.grownBy w' (some bd)) :
    LockG w' B bt bk bd (A ++ [d]) g F (fun z => if z = (A.length : Int) then some sv else G z) Cl N X ∧ TFr B bt bk bd w w' := by
  have hbt : bt ≠ bd := by
    rintro rfl
    obtain ⟨es, clock, hm, _⟩ := hmap
    have := h.box; rw [hm] at this; cases this
  have hl : (A ++ [d]).length = A.length + 1 := by simp
  have htd := hmap.tidy lawInt
  have hhas : has D (kI A.length) = false := by rw [hF.has hok, hG]; rfl
  refine ⟨⟨h.hBt, h.hBk, h.hBd, h.ne, ?_, ?_, ⟨n + 1, _, hmap', by omega, hF.put kI_inj kI_is hok sv, ?_⟩, fun k => ?_, h.apart, fun m h1 h2 => ?_⟩, TFr.of_grown hg' h.hBd (.inr (.inr rfl))⟩
  · exact grown_heap hg' h.box (fun e => hbt (by injection e with e; exact e.symm))
  · obtain ⟨m, D', a, b⟩ := h.km
    exact ⟨m, D', a.kept hg' (fun e => h.ne (by injection e)), b⟩
  · rw [size_put htd, hhas, hsz, hl]
    simp [liveN, hg0]
  · exact kept_ne hg' (h.keys k) (not_map_row (h.keys k) hmap)
  · rw [hl] at h1
    by_cases e : m = A.length
    · subst e
      refine ⟨sv, by simp, ?_⟩
      have : (A ++ [d]).getD A.length [] = d := by simp
      rw [this]
      exact kept_ne hg' ho (not_map_row ho hmap)
    · obtain ⟨s, e1, o⟩ := h.rows m (by omega) h2
      refine ⟨s, by rw [if_neg (by omega)]; exact e1, ?_⟩
      rw [getD_app (by omega)]
      exact kept_ne hg' o (not_map_row o hmap)
/-- a deed goes -/
theorem lock_gone {w w' : World} {B bt bk bd : Nat} {A : List Ops} {g : Nat → Bool} {F : ByteArray → Option SV} {G : Int → Option SV} {Cl : ByteArray → Clm} {N X : Nat} (h : LockG w B bt bk bd A g F G Cl N X) {s : Nat} (hs : s < A.length) (hg0 : g s = false) {n : Nat} {D : DU}
    (hmap : w.ownsMap Try.prog 3 svElem bd n D) (hn : n ≤ A.length) (hF : MapF kI okI dV D G) (hsz : size D = liveN g A.length) (hok : okI (s : Int))
    (hmap' : w'.ownsMap Try.prog 3 svElem bd n (D.del (kI s))) (hg' : w.grownBy w' (some bd)) :
    LockG w' B bt bk bd A (goneW g s) F (fun z => if z = (s : Int) then none else G z) Cl N X ∧ TFr B bt bk bd w w' := by
  have hbt : bt ≠ bd := by
    rintro rfl
    obtain ⟨es, clock, hm, _⟩ := hmap
    have := h.box; rw [hm] at this; cases this
  have htd := hmap.tidy lawInt
  obtain ⟨s0, hs0, _⟩ := h.rows s hs hg0
  have hhas : has D (kI s) = true := by rw [hF.has hok, hs0]; rfl
  refine ⟨⟨h.hBt, h.hBk, h.hBd, h.ne, ?_, ?_, ⟨n, _, hmap', hn, hF.del kI_inj (s : Int), ?_⟩, fun k => ?_, h.apart, fun m h1 h2 => ?_⟩, TFr.of_grown hg' h.hBd (.inr (.inr rfl))⟩
  · exact grown_heap hg' h.box (fun e => hbt (by injection e with e; exact e.symm))
  · obtain ⟨m, D', a, b⟩ := h.km
    exact ⟨m, D', a.kept hg' (fun e => h.ne (by injection e)), b⟩
  · have := size_del (k := kI s) htd
    rw [hhas, hsz] at this
    have l := (live_gone hg0 (n := A.length)).1 hs
    simp at this; omega
  · exact kept_ne hg' (h.keys k) (not_map_row (h.keys k) hmap)
  · unfold goneW at h2
    split at h2
    · cases h2
    · rename_i hne
      obtain ⟨s', e1, o⟩ := h.rows m h1 h2
      exact ⟨s', by rw [if_neg (by omega)]; exact e1, kept_ne hg' o (not_map_row o hmap)⟩
/-- the table anew -/
theorem LockG.st {w : World} {B bt bk bd : Nat} {A : List Ops} {g : Nat → Bool} {F : ByteArray → Option SV} {G : Int → Option SV} {Cl : ByteArray → Clm} {N : Nat} (h : LockG w B bt bk bd A g F G Cl N A.length) (hN : N ≤ 32 * (A.length + (A.length - liveN g A.length))) (hc : ∀ k, Cl k = clmTo A g k A.length)
    (hnone : ∀ z : Int, (∀ n : Nat, z = (n : Int) → n < A.length → g n = false → False) → G z = none) (hlat : ∀ n, A.length ≤ n → g n = false) (hfew : A.length ≤ 60) (hd : ∀ d ∈ A, DeedOk d) : LockSt w B bt bk bd A g F G := by
  obtain ⟨h1, h2, h3, h4, h5, ⟨n, D, a, b, c⟩, h7, h8, h9, h10⟩ := h
  exact ⟨h1, h2, h3, h4, h5, ⟨n, D, a, by omega, c⟩, h7, fun k => by rw [← hc]; exact h8 k, h9, h10, hnone, hlat, hfew, hd⟩
/-- other rows may turn -/
theorem LockSt.kept {w w' : World} {B bt bk bd b e : Nat} {A : List Ops} {g : Nat → Bool} {F : ByteArray → Option SV} {G : Int → Option SV} (h : LockSt w B bt bk bd A g F G) {cs : Array Value} (hb : w.heap[b]? = some (.cells cs e (0, 0))) (h1 : 139 ≠ e) (h2 : 134 ≠ e) (h3 : 9 ≠ e) (hg : w.grownBy w' (some b)) : LockSt w' B bt bk bd A g F G where
  hBt := h.hBt
  hBk := h.hBk
  hBd := h.hBd
  ne := h.ne
  box := grown_heap hg h.box fun e' => by
    injection e' with e'; subst e'; rw [h.box] at hb; injection hb with hb; injection hb with _ hb; exact h2 hb
  km := by
    obtain ⟨n, D, a, r⟩ := h.km
    refine ⟨n, D, a.kept hg fun e' => ?_, r⟩
    obtain ⟨es, clock, hm, _⟩ := a
    injection e' with e'; subst e'; rw [hm] at hb; cases hb
  dm := by
    obtain ⟨n, D, a, r⟩ := h.dm
    refine ⟨n, D, a.kept hg fun e' => ?_, r⟩
    obtain ⟨es, clock, hm, _⟩ := a
    injection e' with e'; subst e'; rw [hm] at hb; cases hb
  keys := fun k => kept_ne hg (h.keys k) (own_ne (h.keys k) hb h1)
  apart := h.apart
  rows := fun n x y => by obtain ⟨s, q, o⟩ := h.rows n x y; exact ⟨s, q, kept_ne hg o (own_ne o hb h3)⟩
  nones := h.nones
  later := h.later
  few := h.few
  dok := h.dok
theorem grown_cell (w : World) (g i : Nat) (u : Value) : w.grownBy (w.setCell ⟨g, i, none⟩ u) (some g) := ⟨rfl, rfl, rfl, by simp [World.setCell], fun j hj hne => by
    have : g ≠ j := fun e => hne (by rw [e])
    simp [World.setCell, Array.getElem?_modify, this]⟩
end Go.Proofs.Ytijcckhkofkenaa

/- Contracts and lemmas for the proofs of this seat; each theorem states its own conditions. -/
namespace Go.Proofs.Ytijcckhkofkenaa
open Go.RowKit
/-! two appends in one region that draws its order -/
/-- append under a frame of appends: at the operation -/
theorem wpList_appG {P : Program} {w : World} {ops : Array Oper} {rest : List Oper} {o : Oper} {a : Act} {Q : Exit → Act → World → Prop} (hgd : o.guard = none) (s x : Operand) (t : TypeId)
    (ho : o.op = .call { callee := .builtin .append, args := #[s, x], argTypes := #[t, t] })
    (base : Nat) (e : TypeId) (z : Value) (size bytes : Nat) (ht : P.underlying t = some (.slice e))
    (hinfo : (P.info? e).map (fun i => (i.zero, i.size, i.bytes)) = some (some z, size, bytes)) (hzs : z.cells.size = size) (hsz : 0 < size)
    (v : Value) (n : Nat) (xs : List Value) (hs : a.eval s = v) (hown : w.ownsRow base e size v n xs)
    (xv : Value) (m : Nat) (news : List Value) (hx : a.eval x = xv) (hm : 0 < m) (hseg : Seg w xv size m news) (h1 : ∀ u ∈ news, u.oneCell' = true)
    (hbytes : (n + m) * bytes ≤ 140737488355328) (h63 : n + m ≤ maxLen) (hbase : base ≤ w.heap.size)
    (G : Nat → Option (Nat × List Value)) (hG : ∀ g, v.ownBlock = some g → ∃ o, o = n * size ∧ G g = some (o, news)) (hGlt : ∀ k, w.heap.size ≤ k → G k = none)
    (h : ∀ v' w', OwnG G base e size v' (n + m) (xs ++ news) w' → GF G w w' → (∀ k, v'.ownBlock = some k → v.ownBlock = some k ∨ w.heap.size ≤ k) → wpList P ops Q rest (a.put o.dst v') w') : wpList P ops Q (o :: rest) a w := by
  obtain ⟨hl, ad, cap, rfl, hc1, hc2, hc3⟩ := hseg
  obtain ⟨b, off, rfl, h6⟩ := hc3 hm
  obtain ⟨v', w', r1, r2, r3, _, r5⟩ := run_app (P := P) w t o.type e z size bytes ht hinfo hzs hsz base v n xs hown ⟨b, off, none⟩ m cap news hl (fun j u hu => by rw [addr_add]; exact h6 j u hu) h1 hbytes h63 hbase G (fun g hg => by obtain ⟨o', e, h⟩ := hG g hg; rw [← e]; exact h) hGlt
  refine wpList_plain hgd fun K hK => ?_
  unfold Oper.wp
  simp [execOp, ho, resolve, invoke, builtin, hs, hx, r1, Result.andThen]
  exact hK _ _ (h v' w' r2 r3 r5)
/-- what two appends turn: r's row by ns, w's row by ms -/
def G2 (r : Value) (n : Nat) (ns : List Value) (u : Value) (m : Nat) (ms : List Value) : Nat → Option (Nat × List Value) := fun g =>
  if r.ownBlock = some g then some (n, ns) else if u.ownBlock = some g then some (m, ms) else none
theorem g2_fst {r u : Value} {n m : Nat} {ns ms : List Value} : ∀ g, r.ownBlock = some g → G2 r n ns u m ms g = some (n, ns) := fun g h => by simp [G2, h]
theorem g2_snd {r u : Value} {n m : Nat} {ns ms : List Value} (ha : ∀ k, r.ownBlock = some k → u.ownBlock ≠ some k) : ∀ g, u.ownBlock = some g → G2 r n ns u m ms g = some (m, ms) := fun g h => by
  have : r.ownBlock ≠ some g := fun e => ha g e h
  simp [G2, h, this]
theorem g2_none {r u : Value} {n m : Nat} {ns ms : List Value} {N : Nat} (hr : ∀ k, r.ownBlock = some k → k < N) (hu : ∀ k, u.ownBlock = some k → k < N) : ∀ k, N ≤ k → G2 r n ns u m ms k = none := fun k hk => by
  have h1 : r.ownBlock ≠ some k := fun e => by have := hr k e; omega
  have h2 : u.ownBlock ≠ some k := fun e => by have := hu k e; omega
  simp [G2, h1, h2]
theorem g2_own_fst {r u : Value} {n m B e : Nat} {ns ms xs : List Value} {w : World} (h : w.ownsRow B e 1 r n xs) : OwnG (G2 r n ns u m ms) B e 1 r n xs w :=
  ⟨h, fun g hg o os ho => by rw [g2_fst g hg] at ho; injection ho with ho; injection ho with h1 h2; left; omega⟩
theorem g2_own_snd {r u : Value} {n m B e : Nat} {ns ms xs : List Value} {w : World} (ha : ∀ k, r.ownBlock = some k → u.ownBlock ≠ some k) (h : w.ownsRow B e 1 u m xs) : OwnG (G2 r n ns u m ms) B e 1 u m xs w :=
  ⟨h, fun g hg o os ho => by rw [g2_snd ha g hg] at ho; injection ho with ho; injection ho with h1 h2; left; omega⟩
theorem g2_fst1 {r u : Value} {n m : Nat} {ns ms : List Value} : ∀ g, r.ownBlock = some g → ∃ o, o = n * 1 ∧ G2 r n ns u m ms g = some (o, ns) := fun g h => ⟨n, by omega, g2_fst g h⟩
theorem g2_snd1 {r u : Value} {n m : Nat} {ns ms : List Value} (ha : ∀ k, r.ownBlock = some k → u.ownBlock ≠ some k) : ∀ g, u.ownBlock = some g → ∃ o, o = m * 1 ∧ G2 r n ns u m ms g = some (o, ms) := fun g h => ⟨m, by omega, g2_snd ha g h⟩
/-- a fresh block with some cells -/
def NewB (N : Nat) (cs : Array Value) (e : TypeId) (m : Nat) (v : Value) (w : World) : Prop := ∃ b, v = .slice (some ⟨b, 0, none⟩) m m ∧ w.heap[b]? = some (.cells cs e (0, 0)) ∧ N ≤ b
theorem NewB.st {G : Nat → Option (Nat × List Value)} {N m : Nat} {cs : Array Value} {e : TypeId} {v : Value} {w w' : World} (hG : ∀ k, N ≤ k → G k = none) (hF : GF G w w') (h : NewB N cs e m v w) : NewB N cs e m v w' := by
  obtain ⟨b, h1, h2, h3⟩ := h
  exact ⟨b, h1, gf_heap hF h2 (hG b h3), h3⟩
theorem NewB.seg {N m : Nat} {cs : List Value} {e : TypeId} {v : Value} {w : World} (h : NewB N cs.toArray e m v w) (hl : cs.length = m) (hm : m ≤ 10) : Seg w v 1 m cs := by
  obtain ⟨b, rfl, h2, _⟩ := h
  exact seg_blk h2 (by omega) (Nat.le_refl _) (by unfold maxLen; omega)
theorem gf_size {G : Nat → Option (Nat × List Value)} {w w' : World} (h : GF G w w') : w.heap.size ≤ w'.heap.size := h.2.2.2.1
theorem phNew {G : Nat → Option (Nat × List Value)} {w0 w' : World} {x : Nat → Value} {cs : Array Value} {e : TypeId} {m : Nat} (hE : GF G w0 w') :
    PR.PhOk (GF G) w0 (.p (NewB w0.heap.size cs e m)) x w' (.slice (some ⟨w'.heap.size, 0, none⟩) m m) (w'.alloc (.cells cs e (0, 0))) :=
  PR.phN (gf_fr G) ⟨_, rfl, heap_alloc_new _ _, gf_size hE⟩ hE (gf_ext ((Ext.refl _).alloc _))
/-- what the first append leaves -/
def App1 (G : Nat → Option (Nat × List Value)) (N B e : Nat) (r : Value) (n : Nat) (xs : List Value) (v : Value) (w : World) : Prop :=
  OwnG G B e 1 v n xs w ∧ ∀ k, v.ownBlock = some k → r.ownBlock = some k ∨ (N ≤ k ∧ k < w.heap.size)
theorem App1.st {G : Nat → Option (Nat × List Value)} {N B e n : Nat} {r v : Value} {xs : List Value} {w w' : World} (hF : GF G w w') (h : App1 G N B e r n xs v w) : App1 G N B e r n xs v w' :=
  ⟨OwnG.st hF h.1, fun k hk => by
    rcases h.2 k hk with a | ⟨a, b⟩
    · exact .inl a
    · exact .inr ⟨a, Nat.lt_of_lt_of_le b (gf_size hF)⟩⟩
/-- and the second -/
def App2 (G : Nat → Option (Nat × List Value)) (N B e : Nat) (r : Value) (n : Nat) (xs : List Value) (l : List Value) (v : Value) (w : World) : Prop :=
  OwnG G B e 1 v n xs w ∧ (∀ k, v.ownBlock = some k → r.ownBlock = some k ∨ N ≤ k) ∧ ∀ u ∈ l, ∀ k, u.ownBlock = some k → v.ownBlock ≠ some k
theorem App2.st {G : Nat → Option (Nat × List Value)} {N B e n : Nat} {r v : Value} {xs l : List Value} {w w' : World} (hF : GF G w w') (h : App2 G N B e r n xs l v w) : App2 G N B e r n xs l v w' := ⟨OwnG.st hF h.1, h.2.1, h.2.2⟩
theorem app1_mk {G : Nat → Option (Nat × List Value)} {N B e n : Nat} {r v : Value} {xs : List Value} {w' w'' : World} (hN : N ≤ w'.heap.size) (o1 : OwnG G B e 1 v n xs w'') (o3 : ∀ k, v.ownBlock = some k → r.ownBlock = some k ∨ w'.heap.size ≤ k) : App1 G N B e r n xs v w'' :=
  ⟨o1, fun k hk => by
    rcases o3 k hk with a | a
    · exact .inl a
    · exact .inr ⟨by omega, (o1.1.lt k hk).2⟩⟩
theorem app2_mk {G : Nat → Option (Nat × List Value)} {w0 : World} {N B e n n1 : Nat} {r u v v1 : Value} {xs xs1 : List Value} {w' w'' : World} (hN : N ≤ w'.heap.size) (hr : ∀ k, r.ownBlock = some k → k < N) (hu : ∀ k, u.ownBlock = some k → k < N) (ha : ∀ k, r.ownBlock = some k → u.ownBlock ≠ some k)
    (u1 : PR.Up (GF G) w0 w' (App1 G N B e r n1 xs1 v1)) (o1 : OwnG G B e 1 v n xs w'') (o3 : ∀ k, v.ownBlock = some k → u.ownBlock = some k ∨ w'.heap.size ≤ k) : App2 G N B e u n xs [v1] v w'' := by
  have h1 := u1.now (fun a b => App1.st a b)
  refine ⟨o1, fun k hk => ?_, fun y hy k hk hk' => ?_⟩
  · rcases o3 k hk with a | a
    · exact .inl a
    · exact .inr (by omega)
  · simp at hy; subst hy
    rcases h1.2 k hk with a | ⟨a, b⟩
    · rcases o3 k hk' with c | c
      · exact ha k a c
      · have := hr k a; omega
    · rcases o3 k hk' with c | c
      · have := hu k c; omega
      · omega
end Go.Proofs.Ytijcckhkofkenaa
