/- Contracts and lemmas for the proof of LockPlays; each theorem states its own conditions. -/
import Derived.Test.YtomgeolmfpijoaaDoorQLockPlaysay
import Derived.Test.YtomgeolmfpijoaaDoorQLockPlaysab
import Derived.OpenShut
import Derived.Test.YtomgeolmfpijoaaDoorQLockPlaysaf
set_option linter.unusedVariables false
set_option linter.unusedSimpArgs false
/- Contracts and lemmas for the proofs of this seat; each theorem states its own conditions. -/
namespace Go.Proofs.YtomgeolmfpijoaaDoor
open Go.RowKit
/-! two appends in one region that draws its order -/
/-- append under a frame of appends: at the operation -/
theorem wpList_appG {P : Program} {w : World} {ops : Array Oper} {rest : List Oper} {o : Oper} {a : Act} {Q : Exit → Act → World → Prop} (hgd : o.guard = none) (s x : Operand) (t : TypeId)
    (ho : o.op = .call { callee := .builtin .append, args := #[s, x], argTypes := #[t, t] })
    (base : Nat) (e : TypeId) (z : Value) (size bytes : Nat) (ht : P.underlying t = some (.slice e))
    (hinfo : (P.info? e).map (fun i => (i.zero, i.size, i.bytes)) = some (some z, size, bytes)) (hzs : z.cells.size = size) (hsz : 0 < size)
    (v : Value) (n : Nat) (xs : List Value) (hs : a.eval s = v) (hown : w.ownsRow base e size v n xs)
    (xv : Value) (m : Nat) (news : List Value) (hx : a.eval x = xv) (hm : 0 < m) (hseg : Seg w xv size m news) (h1 : ∀ u ∈ news, u.oneCell' = true)
    (hbytes : (n + m) * bytes ≤ 140737488355328) (h63 : n + m ≤ maxLen) (hbase : base ≤ w.heap.size)
    (G : Nat → Option (Nat × List Value)) (hG : ∀ g, v.ownBlock = some g → ∃ o, o = n * size ∧ G g = some (o, news)) (hGlt : ∀ k, w.heap.size ≤ k → G k = none)
    (h : ∀ v' w', OwnG G base e size v' (n + m) (xs ++ news) w' → GF G w w' → (∀ k, v'.ownBlock = some k → v.ownBlock = some k ∨ w.heap.size ≤ k) → wpList P ops Q rest (a.put o.dst v') w') : wpList P ops Q (o :: rest) a w := by
  obtain ⟨hl, ad, cap, rfl, hc1, hc2, hc3⟩ := hseg
  obtain ⟨b, off, rfl, h6⟩ := hc3 hm
  obtain ⟨v', w', r1, r2, r3, _, r5⟩ := run_app (P := P) w t o.type e z size bytes ht hinfo hzs hsz base v n xs hown ⟨b, off, none⟩ m cap news hl (fun j u hu => by rw [addr_add]; exact h6 j u hu) h1 hbytes h63 hbase G (fun g hg => by obtain ⟨o', e, h⟩ := hG g hg; rw [← e]; exact h) hGlt
  refine wpList_plain hgd fun K hK => ?_
  unfold Oper.wp
  simp [execOp, ho, resolve, invoke, builtin, hs, hx, r1, Result.andThen]
  exact hK _ _ (h v' w' r2 r3 r5)
/-- what two appends turn: r's row by ns, w's row by ms -/
def G2 (r : Value) (n : Nat) (ns : List Value) (u : Value) (m : Nat) (ms : List Value) : Nat → Option (Nat × List Value) := fun g =>
  if r.ownBlock = some g then some (n, ns) else if u.ownBlock = some g then some (m, ms) else none
theorem g2_fst {r u : Value} {n m : Nat} {ns ms : List Value} : ∀ g, r.ownBlock = some g → G2 r n ns u m ms g = some (n, ns) := fun g h => by simp [G2, h]
theorem g2_snd {r u : Value} {n m : Nat} {ns ms : List Value} (ha : ∀ k, r.ownBlock = some k → u.ownBlock ≠ some k) : ∀ g, u.ownBlock = some g → G2 r n ns u m ms g = some (m, ms) := fun g h => by
  have : r.ownBlock ≠ some g := fun e => ha g e h
  simp [G2, h, this]
theorem g2_none {r u : Value} {n m : Nat} {ns ms : List Value} {N : Nat} (hr : ∀ k, r.ownBlock = some k → k < N) (hu : ∀ k, u.ownBlock = some k → k < N) : ∀ k, N ≤ k → G2 r n ns u m ms k = none := fun k hk => by
  have h1 : r.ownBlock ≠ some k := fun e => by have := hr k e; omega
  have h2 : u.ownBlock ≠ some k := fun e => by have := hu k e; omega
  simp [G2, h1, h2]
theorem g2_own_fst {r u : Value} {n m B e : Nat} {ns ms xs : List Value} {w : World} (h : w.ownsRow B e 1 r n xs) : OwnG (G2 r n ns u m ms) B e 1 r n xs w :=
  ⟨h, fun g hg o os ho => by rw [g2_fst g hg] at ho; injection ho with ho; injection ho with h1 h2; left; omega⟩
theorem g2_own_snd {r u : Value} {n m B e : Nat} {ns ms xs : List Value} {w : World} (ha : ∀ k, r.ownBlock = some k → u.ownBlock ≠ some k) (h : w.ownsRow B e 1 u m xs) : OwnG (G2 r n ns u m ms) B e 1 u m xs w :=
  ⟨h, fun g hg o os ho => by rw [g2_snd ha g hg] at ho; injection ho with ho; injection ho with h1 h2; left; omega⟩
theorem g2_fst1 {r u : Value} {n m : Nat} {ns ms : List Value} : ∀ g, r.ownBlock = some g → ∃ o, o = n * 1 ∧ G2 r n ns u m ms g = some (o, ns) := fun g h => ⟨n, by omega, g2_fst g h⟩
theorem g2_snd1 {r u : Value} {n m : Nat} {ns ms : List Value} (ha : ∀ k, r.ownBlock = some k → u.ownBlock ≠ some k) : ∀ g, u.ownBlock = some g → ∃ o, o = m * 1 ∧ G2 r n ns u m ms g = some (o, ms) := fun g h => ⟨m, by omega, g2_snd ha g h⟩
/-- a fresh block with some cells -/
def NewB (N : Nat) (cs : Array Value) (e : TypeId) (m : Nat) (v : Value) (w : World) : Prop := ∃ b, v = .slice (some ⟨b, 0, none⟩) m m ∧ w.heap[b]? = some (.cells cs e (0, 0)) ∧ N ≤ b
theorem NewB.st {G : Nat → Option (Nat × List Value)} {N m : Nat} {cs : Array Value} {e : TypeId} {v : Value} {w w' : World} (hG : ∀ k, N ≤ k → G k = none) (hF : GF G w w') (h : NewB N cs e m v w) : NewB N cs e m v w' := by
  obtain ⟨b, h1, h2, h3⟩ := h
  exact ⟨b, h1, gf_heap hF h2 (hG b h3), h3⟩
theorem NewB.seg {N m : Nat} {cs : List Value} {e : TypeId} {v : Value} {w : World} (h : NewB N cs.toArray e m v w) (hl : cs.length = m) (hm : m ≤ 10) : Seg w v 1 m cs := by
  obtain ⟨b, rfl, h2, _⟩ := h
  exact seg_blk h2 (by omega) (Nat.le_refl _) (by unfold maxLen; omega)
theorem gf_size {G : Nat → Option (Nat × List Value)} {w w' : World} (h : GF G w w') : w.heap.size ≤ w'.heap.size := h.2.2.2.1
theorem phNew {G : Nat → Option (Nat × List Value)} {w0 w' : World} {x : Nat → Value} {cs : Array Value} {e : TypeId} {m : Nat} (hE : GF G w0 w') :
    PR.PhOk (GF G) w0 (.p (NewB w0.heap.size cs e m)) x w' (.slice (some ⟨w'.heap.size, 0, none⟩) m m) (w'.alloc (.cells cs e (0, 0))) :=
  PR.phN (gf_fr G) ⟨_, rfl, heap_alloc_new _ _, gf_size hE⟩ hE (gf_ext ((Ext.refl _).alloc _))
/-- what the first append leaves -/
def App1 (G : Nat → Option (Nat × List Value)) (N B e : Nat) (r : Value) (n : Nat) (xs : List Value) (v : Value) (w : World) : Prop :=
  OwnG G B e 1 v n xs w ∧ ∀ k, v.ownBlock = some k → r.ownBlock = some k ∨ (N ≤ k ∧ k < w.heap.size)
theorem App1.st {G : Nat → Option (Nat × List Value)} {N B e n : Nat} {r v : Value} {xs : List Value} {w w' : World} (hF : GF G w w') (h : App1 G N B e r n xs v w) : App1 G N B e r n xs v w' :=
  ⟨OwnG.st hF h.1, fun k hk => by
    rcases h.2 k hk with a | ⟨a, b⟩
    · exact .inl a
    · exact .inr ⟨a, Nat.lt_of_lt_of_le b (gf_size hF)⟩⟩
/-- and the second -/
def App2 (G : Nat → Option (Nat × List Value)) (N B e : Nat) (r : Value) (n : Nat) (xs : List Value) (l : List Value) (v : Value) (w : World) : Prop :=
  OwnG G B e 1 v n xs w ∧ (∀ k, v.ownBlock = some k → r.ownBlock = some k ∨ N ≤ k) ∧ ∀ u ∈ l, ∀ k, u.ownBlock = some k → v.ownBlock ≠ some k
theorem App2.st {G : Nat → Option (Nat × List Value)} {N B e n : Nat} {r v : Value} {xs l : List Value} {w w' : World} (hF : GF G w w') (h : App2 G N B e r n xs l v w) : App2 G N B e r n xs l v w' := ⟨OwnG.st hF h.1, h.2.1, h.2.2⟩
theorem app1_mk {G : Nat → Option (Nat × List Value)} {N B e n : Nat} {r v : Value} {xs : List Value} {w' w'' : World} (hN : N ≤ w'.heap.size) (o1 : OwnG G B e 1 v n xs w'') (o3 : ∀ k, v.ownBlock = some k → r.ownBlock = some k ∨ w'.heap.size ≤ k) : App1 G N B e r n xs v w'' :=
  ⟨o1, fun k hk => by
    rcases o3 k hk with a | a
    · exact .inl a
    · exact .inr ⟨by omega, (o1.1.lt k hk).2⟩⟩
theorem app2_mk {G : Nat → Option (Nat × List Value)} {w0 : World} {N B e n n1 : Nat} {r u v v1 : Value} {xs xs1 : List Value} {w' w'' : World} (hN : N ≤ w'.heap.size) (hr : ∀ k, r.ownBlock = some k → k < N) (hu : ∀ k, u.ownBlock = some k → k < N) (ha : ∀ k, r.ownBlock = some k → u.ownBlock ≠ some k)
    (u1 : PR.Up (GF G) w0 w' (App1 G N B e r n1 xs1 v1)) (o1 : OwnG G B e 1 v n xs w'') (o3 : ∀ k, v.ownBlock = some k → u.ownBlock = some k ∨ w'.heap.size ≤ k) : App2 G N B e u n xs [v1] v w'' := by
  have h1 := u1.now (fun a b => App1.st a b)
  refine ⟨o1, fun k hk => ?_, fun y hy k hk hk' => ?_⟩
  · rcases o3 k hk with a | a
    · exact .inl a
    · exact .inr (by omega)
  · simp at hy; subst hy
    rcases h1.2 k hk with a | ⟨a, b⟩
    · rcases o3 k hk' with c | c
      · exact ha k a c
      · have := hr k a; omega
    · rcases o3 k hk' with c | c
      · have := hu k c; omega
      · omega
end Go.Proofs.YtomgeolmfpijoaaDoor

/- Contracts and lemmas for the proofs of this seat; each theorem states its own conditions. -/
namespace Go.Proofs.YtomgeolmfpijoaaDoor
open Go.RowKit
theorem cell_spot {w : World} {x : Addr} {v : Value} (h : w.cell? x = some v) : x.spot = none := by
  unfold World.cell? at h
  split at h
  · rename_i hx
    cases hs : x.spot with
    | none => rfl
    | some s => simp [hs] at h
  · cases h
/-- what the shell tells of a slice of numbers, as a slice of mine -/
theorem seg_of_row {w : World} {a : Option Addr} {len cap : Nat} {zs : List Int} (h : (a = none ∧ len = 0 ∧ cap = 0 ∧ zs = []) ∨
    ∃ x, a = some x ∧ len ≤ cap ∧ cap ≤ maxLen ∧ zs.length = cap ∧ (∀ i, i < zs.length → w.cell? (x.add i) = some (.int .i64 (zs.getD i 0))) ∧ ∀ n ∈ zs, (Lit.int .i64 n).wf = true) :
    Seg w (.slice a len cap) 1 (zs.take len).length (cI (zs.take len)) ∧ (∀ z ∈ zs.take len, -9223372036854775808 ≤ z ∧ z ≤ 9223372036854775807) ∧ (zs.take len).length = len := by
  rcases h with ⟨rfl, rfl, rfl, rfl⟩ | ⟨x, rfl, h1, h2, h3, h4, h5⟩
  · exact ⟨Seg.nil _ _, by simp, rfl⟩
  · have hl : (zs.take len).length = len := by rw [List.length_take]; omega
    refine ⟨⟨by rw [cI_len]; omega, some x, cap, by rw [hl], by omega, h2, fun hn => ?_⟩, fun z hz => ?_, hl⟩
    · have hs := cell_spot (h4 0 (by omega))
      obtain ⟨b, off, sp⟩ := x
      have : sp = none := by simpa [Addr.add] using hs
      subst this
      refine ⟨b, off, rfl, fun j u hu => ?_⟩
      rw [← addr_add]
      have hj : j < (zs.take len).length := by have := (List.getElem?_eq_some_iff.1 hu).1; rw [cI_len] at this; exact this
      rw [cI_at0 _ _ hj] at hu
      injection hu with hu; subst hu
      have hj' : j < zs.length := by omega
      rw [h4 j hj']
      simp [hj']
    · have := bounds_i64 (h5 z (List.mem_of_mem_take hz))
      exact this
end Go.Proofs.YtomgeolmfpijoaaDoor

/- Contracts and lemmas for the proofs of this seat; each theorem states its own conditions. -/
namespace Go.Proofs.YtomgeolmfpijoaaDoor
open Go.RowKit
def findV (cuts : List ByteArray) (owners : List Int) (key : ByteArray) : Int := if mapErr cuts owners = 0 ∧ keyB key = true then whose cuts owners key else 0
def findE (cuts : List ByteArray) (owners : List Int) (key : ByteArray) : Int := if mapErr cuts owners ≠ 0 then mapErr cuts owners else if keyB key then 0 else 3
set_option maxRecDepth 10000 in
theorem find_any (v : Value) (cuts : List ByteArray) (owners : List Int) (key : ByteArray) (w : World) (hv : IsMap w v cuts owners) (hk : ∀ k ∈ cuts, k.size ≤ 9223372036854775807) (hks : key.size ≤ 9223372036854775807) :
    Calls Tryd.prog 10 #[v, .string key] w fun e w' => e = .returned (.tuple #[.int .i64 (findV cuts owners key), .int .i64 (findE cuts owners key)]) ∧ Ext w w' := by
  have hv0 := hv
  obtain ⟨c, o, rfl, h1, h2⟩ := hv
  have hb0 : (w.alloc (.cells #[c, o] 28)).heap[w.heap.size]? = some (.cells #[c, o] 28 (0, 0)) := heap_alloc_new w _
  by_cases g1 : mapErr cuts owners = 0
  · have q : (mapErr cuts owners != 0) = false := by simp [g1]
    have ok := ok_of_mapErr g1
    have hf := ok.few
    cases g2 : keyB key with
    | false =>
      have e1 : findV cuts owners key = 0 := by simp [findV, g2]
      have e2 : findE cuts owners key = 3 := by simp [findE, g1, g2]
      have G1 := (show Hid (mapErr cuts owners = 0) from g1)
      clear g1
      have E1 := (show Hid (findV cuts owners key = 0 ∧ findE cuts owners key = 3) from ⟨e1, e2⟩)
      clear e1 e2
      go_enter Tryd.func10, Tryd.ntmps10
      go_wp2_with fail
      refine (mcheck_any _ cuts owners _ (hv0.ext (by (repeat (first | (with_reducible assumption) | (with_reducible exact Ext.refl _) | (with_reducible refine Ext.drew ?_) | (with_reducible refine Ext.drewN ?_ _) | (with_reducible refine Ext.alloc ?_ _) | (with_reducible refine Ext.trans ?_ (by with_reducible assumption)))))) hk).mono ?_
      rintro e w1 ⟨rfl, he1⟩
      have hb := blk2 (he1.heap hb0)
      go_wp2_with fail
      refine (key_any _ _ hks).mono ?_
      rintro e w' ⟨rfl, rfl⟩
      go_wp2
      go_ret2
      exact ⟨rT2 (vI E1.out.1.symm) (vI E1.out.2.symm), by (repeat (first | (with_reducible assumption) | (with_reducible exact Ext.refl _) | (with_reducible refine Ext.drew ?_) | (with_reducible refine Ext.drewN ?_ _) | (with_reducible refine Ext.alloc ?_ _) | (with_reducible refine Ext.trans ?_ (by with_reducible assumption))))⟩
    | true =>
      have e1 : findV cuts owners key = whose cuts owners key := by simp [findV, g2, g1]
      have e2 : findE cuts owners key = 0 := by simp [findE, g1, g2]
      have G1 := (show Hid (mapErr cuts owners = 0) from g1)
      clear g1
      have E1 := (show Hid (findV cuts owners key = whose cuts owners key ∧ findE cuts owners key = 0) from ⟨e1, e2⟩)
      clear e1 e2
      go_enter Tryd.func10, Tryd.ntmps10
      go_wp2_with fail
      refine (mcheck_any _ cuts owners _ (hv0.ext (by (repeat (first | (with_reducible assumption) | (with_reducible exact Ext.refl _) | (with_reducible refine Ext.drew ?_) | (with_reducible refine Ext.drewN ?_ _) | (with_reducible refine Ext.alloc ?_ _) | (with_reducible refine Ext.trans ?_ (by with_reducible assumption)))))) hk).mono ?_
      rintro e w1 ⟨rfl, he1⟩
      have hb := blk2 (he1.heap hb0)
      go_wp2_with fail
      refine (key_any _ _ hks).mono ?_
      rintro e w' ⟨rfl, rfl⟩
      go_wp2_with fail
      refine (of_any _ cuts owners key _ (hv0.ext (by (repeat (first | (with_reducible assumption) | (with_reducible exact Ext.refl _) | (with_reducible refine Ext.drew ?_) | (with_reducible refine Ext.drewN ?_ _) | (with_reducible refine Ext.alloc ?_ _) | (with_reducible refine Ext.trans ?_ (by with_reducible assumption)))))) ok.srt ok.len (by omega)).mono ?_
      rintro e w2 ⟨rfl, he2⟩
      go_wp2
      go_ret2
      exact ⟨rT2 (vI E1.out.1.symm) (vI E1.out.2.symm), by (repeat (first | (with_reducible assumption) | (with_reducible exact Ext.refl _) | (with_reducible refine Ext.drew ?_) | (with_reducible refine Ext.drewN ?_ _) | (with_reducible refine Ext.alloc ?_ _) | (with_reducible refine Ext.trans ?_ (by with_reducible assumption))))⟩
  · have q : (mapErr cuts owners != 0) = true := by simp [g1]
    have e1 : findV cuts owners key = 0 := by simp [findV, g1]
    have e2 : findE cuts owners key = mapErr cuts owners := by simp [findE, g1]
    have E1 := (show Hid (findV cuts owners key = 0 ∧ findE cuts owners key = mapErr cuts owners) from ⟨e1, e2⟩)
    clear e1 e2 g1
    go_enter Tryd.func10, Tryd.ntmps10
    go_wp2_with fail
    refine (mcheck_any _ cuts owners _ (hv0.ext (by (repeat (first | (with_reducible assumption) | (with_reducible exact Ext.refl _) | (with_reducible refine Ext.drew ?_) | (with_reducible refine Ext.drewN ?_ _) | (with_reducible refine Ext.alloc ?_ _) | (with_reducible refine Ext.trans ?_ (by with_reducible assumption)))))) hk).mono ?_
    rintro e w1 ⟨rfl, he1⟩
    have hb := blk2 (he1.heap hb0)
    go_wp2
    go_ret2
    exact ⟨rT2 (vI E1.out.1.symm) (vI E1.out.2.symm), by (repeat (first | (with_reducible assumption) | (with_reducible exact Ext.refl _) | (with_reducible refine Ext.drew ?_) | (with_reducible refine Ext.drewN ?_ _) | (with_reducible refine Ext.alloc ?_ _) | (with_reducible refine Ext.trans ?_ (by with_reducible assumption))))⟩
/-- the number that Within makes -/
def wi (k n : Int) : Int := (k % 18446744073709551616) % n
theorem wi_lo {k n : Int} (hn : 0 < n) : 0 ≤ wi k n := Int.emod_nonneg _ (by omega)
theorem wi_hi {k n : Int} (hn : 0 < n) : wi k n < n := Int.emod_lt_of_pos _ hn
theorem within_any (k n : Int) (w : World) (hn : 0 < n) (hn' : n ≤ 1000000000) : Calls Tryd.prog 75 #[.int .i64 k, .int .i64 n] w fun e w' => e = .returned (.int .i64 (wi k n)) ∧ w = w' := by
  have hu : IntKind.u64.wrap n = n := by rw [IntKind.wrap_u64]; omega
  have hnz : ¬ n = 0 := by omega
  have hl := wi_lo (k := k) hn
  have hh := wi_hi (k := k) hn
  go_enter Tryd.func75, Tryd.ntmps75
  go_wp2
  go_ret
  refine ⟨rI ?_, rfl⟩
  have e : (IntKind.u64.wrap k).tmod n = wi k n := by
    rw [IntKind.wrap_u64, Int.tmod_eq_emod_of_nonneg (by omega)]; rfl
  show wrap64 ((IntKind.u64.wrap k).tmod n) = wi k n
  rw [e]; unfold wrap64; omega
/-- the keys that the statements use -/
def keysL : List ByteArray := [⟨#[97]⟩, ⟨#[98]⟩, ⟨#[99]⟩, ⟨#[100]⟩, ⟨#[109]⟩, ⟨#[110]⟩, ⟨#[122]⟩, ⟨#[97, 98]⟩]
/-- Key -/
def keyOf (k : Int) : ByteArray := kAt keysL (wi k 8).toNat
end Go.Proofs.YtomgeolmfpijoaaDoor

/- Contracts and lemmas for the proofs of this seat; each theorem states its own conditions. -/
namespace Go.Proofs.YtomgeolmfpijoaaDoor
open Go.RowKit
theorem keyOf_is (k : Int) : keyB (keyOf k) = true ∧ (keyOf k).size ≤ 9223372036854775807 := by
  have h0 := wi_lo (k := k) (n := 8) (by omega)
  have h1 := wi_hi (k := k) (n := 8) (by omega)
  have h2 : (wi k 8).toNat < keysL.length := by simp [keysL]; omega
  have h3 : ∀ k, (h : k < keysL.length) → keyB keysL[k] = true ∧ keysL[k].size ≤ 2 := by decide +kernel
  have := h3 _ h2
  unfold keyOf
  rw [kAt_eq h2]; exact ⟨this.1, by omega⟩
end Go.Proofs.YtomgeolmfpijoaaDoor
