/- Contracts and lemmas for the proof of TextLines; each theorem states its own conditions. -/
import Derived.Test.YtnepdfpooobmcaaGreatDoorQTextLinesbd
set_option linter.unusedVariables false
set_option linter.unusedSimpArgs false
/- Contracts and lemmas for the proofs of this seat; each theorem states its own conditions. -/
namespace Go.Proofs.YtnepdfpooobmcaaGreatDoor
open Go.RowKit
/-! two appends in one region that draws its order -/
/-- append under a frame of appends: at the operation -/
theorem wpList_appG {P : Program} {w : World} {ops : Array Oper} {rest : List Oper} {o : Oper} {a : Act} {Q : Exit → Act → World → Prop} (hgd : o.guard = none) (s x : Operand) (t : TypeId)
    (ho : o.op = .call { callee := .builtin .append, args := #[s, x], argTypes := #[t, t] })
    (base : Nat) (e : TypeId) (z : Value) (size bytes : Nat) (ht : P.underlying t = some (.slice e))
    (hinfo : (P.info? e).map (fun i => (i.zero, i.size, i.bytes)) = some (some z, size, bytes)) (hzs : z.cells.size = size) (hsz : 0 < size)
    (v : Value) (n : Nat) (xs : List Value) (hs : a.eval s = v) (hown : w.ownsRow base e size v n xs)
    (xv : Value) (m : Nat) (news : List Value) (hx : a.eval x = xv) (hm : 0 < m) (hseg : Seg w xv size m news) (h1 : ∀ u ∈ news, u.oneCell' = true)
    (hbytes : (n + m) * bytes ≤ 140737488355328) (h63 : n + m ≤ maxLen) (hbase : base ≤ w.heap.size)
    (G : Nat → Option (Nat × List Value)) (hG : ∀ g, v.ownBlock = some g → ∃ o, o = n * size ∧ G g = some (o, news)) (hGlt : ∀ k, w.heap.size ≤ k → G k = none)
    (h : ∀ v' w', OwnG G base e size v' (n + m) (xs ++ news) w' → GF G w w' → (∀ k, v'.ownBlock = some k → v.ownBlock = some k ∨ w.heap.size ≤ k) → wpList P ops Q rest (a.put o.dst v') w') : wpList P ops Q (o :: rest) a w := by
  obtain ⟨hl, ad, cap, rfl, hc1, hc2, hc3⟩ := hseg
  obtain ⟨b, off, rfl, h6⟩ := hc3 hm
  obtain ⟨v', w', r1, r2, r3, _, r5⟩ := run_app (P := P) w t o.type e z size bytes ht hinfo hzs hsz base v n xs hown ⟨b, off, none⟩ m cap news hl (fun j u hu => by rw [addr_add]; exact h6 j u hu) h1 hbytes h63 hbase G (fun g hg => by obtain ⟨o', e, h⟩ := hG g hg; rw [← e]; exact h) hGlt
  refine wpList_plain hgd fun K hK => ?_
  unfold Oper.wp
  simp [execOp, ho, resolve, invoke, builtin, hs, hx, r1, Result.andThen]
  exact hK _ _ (h v' w' r2 r3 r5)
/-- what two appends turn: r's row by ns, w's row by ms -/
def G2 (r : Value) (n : Nat) (ns : List Value) (u : Value) (m : Nat) (ms : List Value) : Nat → Option (Nat × List Value) := fun g =>
  if r.ownBlock = some g then some (n, ns) else if u.ownBlock = some g then some (m, ms) else none
theorem g2_fst {r u : Value} {n m : Nat} {ns ms : List Value} : ∀ g, r.ownBlock = some g → G2 r n ns u m ms g = some (n, ns) := fun g h => by simp [G2, h]
theorem g2_own_fst {r u : Value} {n m B e : Nat} {ns ms xs : List Value} {w : World} (h : w.ownsRow B e 1 r n xs) : OwnG (G2 r n ns u m ms) B e 1 r n xs w :=
  ⟨h, fun g hg o os ho => by rw [g2_fst g hg] at ho; injection ho with ho; injection ho with h1 h2; left; omega⟩
theorem g2_fst1 {r u : Value} {n m : Nat} {ns ms : List Value} : ∀ g, r.ownBlock = some g → ∃ o, o = n * 1 ∧ G2 r n ns u m ms g = some (o, ns) := fun g h => ⟨n, by omega, g2_fst g h⟩
/-- a fresh block with some cells -/
def NewB (N : Nat) (cs : Array Value) (e : TypeId) (m : Nat) (v : Value) (w : World) : Prop := ∃ b, v = .slice (some ⟨b, 0, none⟩) m m ∧ w.heap[b]? = some (.cells cs e (0, 0)) ∧ N ≤ b
theorem NewB.st {G : Nat → Option (Nat × List Value)} {N m : Nat} {cs : Array Value} {e : TypeId} {v : Value} {w w' : World} (hG : ∀ k, N ≤ k → G k = none) (hF : GF G w w') (h : NewB N cs e m v w) : NewB N cs e m v w' := by
  obtain ⟨b, h1, h2, h3⟩ := h
  exact ⟨b, h1, gf_heap hF h2 (hG b h3), h3⟩
theorem NewB.seg {N m : Nat} {cs : List Value} {e : TypeId} {v : Value} {w : World} (h : NewB N cs.toArray e m v w) (hl : cs.length = m) (hm : m ≤ 10) : Seg w v 1 m cs := by
  obtain ⟨b, rfl, h2, _⟩ := h
  exact seg_blk h2 (by omega) (Nat.le_refl _) (by unfold maxLen; omega)
theorem gf_size {G : Nat → Option (Nat × List Value)} {w w' : World} (h : GF G w w') : w.heap.size ≤ w'.heap.size := h.2.2.2.1
theorem phNew {G : Nat → Option (Nat × List Value)} {w0 w' : World} {x : Nat → Value} {cs : Array Value} {e : TypeId} {m : Nat} (hE : GF G w0 w') :
    PR.PhOk (GF G) w0 (.p (NewB w0.heap.size cs e m)) x w' (.slice (some ⟨w'.heap.size, 0, none⟩) m m) (w'.alloc (.cells cs e (0, 0))) :=
  PR.phN (gf_fr G) ⟨_, rfl, heap_alloc_new _ _, gf_size hE⟩ hE (gf_ext ((Ext.refl _).alloc _))
/-- what the first append leaves -/
def App1 (G : Nat → Option (Nat × List Value)) (N B e : Nat) (r : Value) (n : Nat) (xs : List Value) (v : Value) (w : World) : Prop :=
  OwnG G B e 1 v n xs w ∧ ∀ k, v.ownBlock = some k → r.ownBlock = some k ∨ (N ≤ k ∧ k < w.heap.size)
theorem App1.st {G : Nat → Option (Nat × List Value)} {N B e n : Nat} {r v : Value} {xs : List Value} {w w' : World} (hF : GF G w w') (h : App1 G N B e r n xs v w) : App1 G N B e r n xs v w' :=
  ⟨OwnG.st hF h.1, fun k hk => by
    rcases h.2 k hk with a | ⟨a, b⟩
    · exact .inl a
    · exact .inr ⟨a, Nat.lt_of_lt_of_le b (gf_size hF)⟩⟩
/-- and the second -/
def App2 (G : Nat → Option (Nat × List Value)) (N B e : Nat) (r : Value) (n : Nat) (xs : List Value) (l : List Value) (v : Value) (w : World) : Prop :=
  OwnG G B e 1 v n xs w ∧ (∀ k, v.ownBlock = some k → r.ownBlock = some k ∨ N ≤ k) ∧ ∀ u ∈ l, ∀ k, u.ownBlock = some k → v.ownBlock ≠ some k
theorem App2.st {G : Nat → Option (Nat × List Value)} {N B e n : Nat} {r v : Value} {xs l : List Value} {w w' : World} (hF : GF G w w') (h : App2 G N B e r n xs l v w) : App2 G N B e r n xs l v w' := ⟨OwnG.st hF h.1, h.2.1, h.2.2⟩
end Go.Proofs.YtnepdfpooobmcaaGreatDoor
