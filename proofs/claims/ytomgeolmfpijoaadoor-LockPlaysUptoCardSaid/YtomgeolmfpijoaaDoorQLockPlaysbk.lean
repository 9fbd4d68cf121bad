/- Contracts and lemmas for the proof of LockPlays; each theorem states its own conditions. -/
import Derived.Test.YtomgeolmfpijoaaDoorQLockPlaysah
import Derived.Maps.OwnSet
import Derived.Test.YtomgeolmfpijoaaDoorQLockPlaysbj
import Derived.Test.YtomgeolmfpijoaaDoorQLockPlaysbf
import Derived.Test.YtomgeolmfpijoaaDoorQLockPlaysaw
import Derived.Test.YtomgeolmfpijoaaDoorQLockPlaysaz
set_option linter.unusedVariables false
set_option linter.unusedSimpArgs false
/- Contracts and lemmas for the proofs of this seat; each theorem states its own conditions. -/
namespace Go.Proofs.YtomgeolmfpijoaaDoor
open Go.RowKit Go.Maps
/-! maps whose elements are slices of one's own, read by the slice VALUE: a row's block, length and capacity -/
abbrev SV := Option (Nat × Nat × Nat)
def svV : SV → Value
  | none => .slice none 0 0
  | some (g, n, c) => .slice (some ⟨g, 0, none⟩) n c
def dV : SV → DU
  | none => .nil
  | some (g, n, c) => .agg [.lit (.int .i64 g), .lit (.int .i64 n), .lit (.int .i64 c)]
theorem dV_inj {a b : SV} (h : dV a = dV b) : a = b := by
  cases a with
  | none => cases b with
    | none => rfl
    | some b => obtain ⟨g, n, c⟩ := b; simp [dV] at h
  | some a => cases b with
    | none => obtain ⟨g, n, c⟩ := a; simp [dV] at h
    | some b =>
      obtain ⟨g, n, c⟩ := a
      obtain ⟨g', n', c'⟩ := b
      simp [dV] at h
      have h1 : g = g' := by omega
      have h2 : n = n' := by omega
      have h3 : c = c' := by omega
      rw [h1, h2, h3]
def svElem (v : Value) : Option (DU × List MemPlace) :=
  match v with
  | .slice none n c => if n = 0 ∧ c = 0 then some (.nil, []) else none
  | .slice (some a) n c => if a.off = 0 ∧ a.spot = none then some (.agg [.lit (.int .i64 a.block), .lit (.int .i64 n), .lit (.int .i64 c)], []) else none
  | _ => none
theorem svElem_mk (s : SV) : svElem (svV s) = some (dV s, []) := by
  cases s with
  | none => simp [svV, svElem, dV]
  | some s => obtain ⟨g, n, c⟩ := s; simp [svV, svElem, dV]
theorem svElem_inv {v : Value} {z : DU × List MemPlace} (h : svElem v = some z) : ∃ s, v = svV s ∧ z = (dV s, []) := by
  unfold svElem at h
  split at h
  · split at h
    · rename_i e; obtain ⟨rfl, rfl⟩ := e; exact ⟨none, rfl, (Option.some.inj h).symm⟩
    · cases h
  · rename_i a n c
    split at h
    · rename_i e
      obtain ⟨b, off, sp⟩ := a
      obtain ⟨rfl, rfl⟩ := e
      exact ⟨some (b, n, c), rfl, (Option.some.inj h).symm⟩
    · cases h
  · cases h
theorem sv_block (s : SV) : (svV s).ownBlock = s.map (·.1) := by
  cases s with
  | none => rfl
  | some s => rfl
/-- what an own row is as such a value -/
theorem sv_of_own {w : World} {B e sz n : Nat} {v : Value} {xs : List Value} (h : w.ownsRow B e sz v n xs) : ∃ s : SV, v = svV s ∧ ∀ p, s = some p → p.2.1 = n := by
  rcases h.2 with ⟨rfl, _⟩ | ⟨g, cap, cur, rfl, _⟩
  · exact ⟨none, rfl, fun p hp => by cases hp⟩
  · exact ⟨some (g, n, cap), rfl, fun p hp => by injection hp with hp; subst hp; rfl⟩
section
variable {P : Program} (w : World) {ops : Array Oper} {rest : List Oper} {o : Oper} {a : Act} {Q : Exit → Act → World → Prop}
/-- m[k] -/
theorem wpList_lookup_sv {κ : Type} {klit : κ → Lit} {ok : κ → Prop} (hg : o.guard = none) (m x : Operand) (t : TypeId) (hop : o.op = Op.lookup t m x false)
    (k e : TypeId) (K : Keyed P k) (ht : P.underlying t = some (.map k e)) (hz : (zeroValue e).run P w = .ok (.slice none 0 0) w) (b n : Nat) (D : DU) (f : κ → Option SV) (hF : MapF klit ok dV D f)
    (hm : a.eval m = .map (some b)) (hown : w.ownsMap P k svElem b n D) (key : Value) (kk : κ) (hkk : ok kk) (hx : a.eval x = key) (hkey : Go.keyOf P k key = some (klit kk))
    (hK : wpList P ops Q rest (a.put o.dst (svV ((f kk).getD none))) w) : wpList P ops Q (o :: rest) a w := by
  refine wpList_plain hg fun K' hK' => ?_
  obtain ⟨v, ps, hrun, hv⟩ := hown.lookup K ht hz (svElem_mk none) hkey
  obtain ⟨s, rfl, hs⟩ := svElem_inv hv
  injection hs with hs _
  have := hF.look dV_inj hkk hs
  subst this
  unfold Oper.wp
  simp [execOp, hop, hm, hx, hrun, Result.andThen]
  exact hK' _ _ hK
/-- m[k], under a guard that holds -/
theorem wpList_lookup_svg {κ : Type} {klit : κ → Lit} {ok : κ → Prop} (hg : Region.wanted o (yielded ops a.tmps) = true) (m x : Operand) (t : TypeId) (hop : o.op = Op.lookup t m x false)
    (k e : TypeId) (K : Keyed P k) (ht : P.underlying t = some (.map k e)) (hz : (zeroValue e).run P w = .ok (.slice none 0 0) w) (b n : Nat) (D : DU) (f : κ → Option SV) (hF : MapF klit ok dV D f)
    (hm : a.eval m = .map (some b)) (hown : w.ownsMap P k svElem b n D) (key : Value) (kk : κ) (hkk : ok kk) (hx : a.eval x = key) (hkey : Go.keyOf P k key = some (klit kk))
    (hK : wpList P ops Q rest (a.put o.dst (svV ((f kk).getD none))) w) : wpList P ops Q (o :: rest) a w := by
  refine wpList_step fun K' hK' => ?_
  rw [if_pos hg]
  obtain ⟨v, ps, hrun, hv⟩ := hown.lookup K ht hz (svElem_mk none) hkey
  obtain ⟨s, rfl, hs⟩ := svElem_inv hv
  injection hs with hs _
  have := hF.look dV_inj hkk hs
  subst this
  unfold Oper.wp
  simp [execOp, hop, hm, hx, hrun, Result.andThen]
  exact hK' _ _ hK
/-- v, ok := m[k] -/
theorem wpList_lookup_sv_ok {κ : Type} {klit : κ → Lit} {ok : κ → Prop} (hg : o.guard = none) (m x : Operand) (t : TypeId) (hop : o.op = Op.lookup t m x true)
    (k e : TypeId) (K : Keyed P k) (ht : P.underlying t = some (.map k e)) (hz : (zeroValue e).run P w = .ok (.slice none 0 0) w) (b n : Nat) (D : DU) (f : κ → Option SV) (hF : MapF klit ok dV D f)
    (hm : a.eval m = .map (some b)) (hown : w.ownsMap P k svElem b n D) (key : Value) (kk : κ) (hkk : ok kk) (hx : a.eval x = key) (hkey : Go.keyOf P k key = some (klit kk))
    (hK : wpList P ops Q rest (a.put o.dst (.tuple #[svV ((f kk).getD none), .bool (f kk).isSome])) w) : wpList P ops Q (o :: rest) a w :=
  wpList_lookup_own_ok w hg m x t hop k e K ht svElem hz .nil [] (svElem_mk none) b n D hm hown key _ hx hkey (fun v ps hv => by
    obtain ⟨s, rfl, hs⟩ := svElem_inv hv
    injection hs with hs _
    have := hF.look (z := none) dV_inj hkk hs
    subst this
    rw [hF.has hkk]
    exact hK)
end
end Go.Proofs.YtomgeolmfpijoaaDoor

/- Contracts and lemmas for the proofs of this seat; each theorem states its own conditions. -/
namespace Go.Proofs.YtomgeolmfpijoaaDoor
open Go.RowKit Go.Maps
/-! the lock table, in memory -/
/-- the keys of a deed, in order, each once -/
def tkL (d : Ops) : List ByteArray := sortU (sortU (rds d) ++ sortU (wrs d))
theorem tkL_mem (d : Ops) (k : ByteArray) : k ∈ tkL d ↔ tchB d k = true := by
  rw [tkL, sortU_mem, List.mem_append, sortU_mem, sortU_mem, tchB_iff]
structure LockSt (w : World) (B bt bk bd : Nat) (A : List Ops) (g : Nat → Bool) (F : ByteArray → Option SV) (G : Int → Option SV) : Prop where
  hBt : B ≤ bt
  hBk : B ≤ bk
  hBd : B ≤ bd
  ne : bk ≠ bd
  box : w.heap[bt]? = some (.cells #[.map (some bk), .map (some bd), .int .i64 A.length] 148 (0, 0))
  km : ∃ n D, w.ownsMap Tryd.prog 9 svElem bk n D ∧ n ≤ 32 * (A.length + (A.length - liveN g A.length)) ∧ MapF kS okS dV D F
  dm : ∃ n D, w.ownsMap Tryd.prog 3 svElem bd n D ∧ n ≤ A.length ∧ MapF kI okI dV D G ∧ size D = liveN g A.length
  keys : ∀ k, w.ownsRow B 152 2 (svV ((F k).getD none)) (clmTo A g k A.length).length (cK (clmTo A g k A.length))
  apart : ∀ k k' s s', k ≠ k' → F k = some s → F k' = some s' → (svV s).ownBlock = none ∨ (svV s).ownBlock ≠ (svV s').ownBlock
  rows : ∀ n : Nat, n < A.length → g n = false → ∃ s, G (n : Int) = some s ∧ w.ownsRow B 9 1 (svV s) (tkL (A.getD n [])).length (cS (tkL (A.getD n [])))
  nones : ∀ z : Int, (∀ n : Nat, z = (n : Int) → n < A.length → g n = false → False) → G z = none
  later : ∀ n, A.length ≤ n → g n = false
  few : A.length ≤ 60
  dok : ∀ d ∈ A, DeedOk d
theorem LockSt.ext {w w' : World} {B bt bk bd : Nat} {A : List Ops} {g : Nat → Bool} {F : ByteArray → Option SV} {G : Int → Option SV} (h : LockSt w B bt bk bd A g F G) (E : Ext w w') : LockSt w' B bt bk bd A g F G where
  hBt := h.hBt
  hBk := h.hBk
  hBd := h.hBd
  ne := h.ne
  box := E.heap h.box
  km := by obtain ⟨n, D, a, b⟩ := h.km; exact ⟨n, D, ownsMap_ext a E, b⟩
  dm := by obtain ⟨n, D, a, b⟩ := h.dm; exact ⟨n, D, ownsMap_ext a E, b⟩
  keys := fun k => own_ext (h.keys k) E
  apart := h.apart
  rows := fun n a b => by obtain ⟨s, e, o⟩ := h.rows n a b; exact ⟨s, e, own_ext o E⟩
  nones := h.nones
  later := h.later
  few := h.few
  dok := h.dok
/-- what a table may turn: itself, its maps, its rows of claims -/
def TFr (B bt bk bd : Nat) (w w' : World) : Prop :=
  w'.os = w.os ∧ w'.tape = w.tape ∧ w'.output = w.output ∧ w.heap.size ≤ w'.heap.size ∧
  ∀ i, i < w.heap.size → w'.heap[i]? = w.heap[i]? ∨ (B ≤ i ∧ (i = bt ∨ i = bk ∨ i = bd ∨ ∃ cs, w.heap[i]? = some (.cells cs 152 (0, 0))))
theorem TFr.of_ext {B bt bk bd : Nat} {w w' : World} (E : Ext w w') : TFr B bt bk bd w w' := ⟨E.os, E.tape, E.output, E.size', fun i hi => .inl (Below.block E i hi)⟩
theorem TFr.refl {B bt bk bd : Nat} (w : World) : TFr B bt bk bd w w := TFr.of_ext (Ext.refl w)
theorem TFr.trans {B bt bk bd : Nat} {a b c : World} (h : TFr B bt bk bd a b) (k : TFr B bt bk bd b c) : TFr B bt bk bd a c := by
  obtain ⟨h1, h2, h3, h4, h5⟩ := h
  obtain ⟨k1, k2, k3, k4, k5⟩ := k
  refine ⟨k1.trans h1, k2.trans h2, k3.trans h3, Nat.le_trans h4 k4, fun i hi => ?_⟩
  rcases h5 i hi with e | e
  · rcases k5 i (by omega) with e' | ⟨e1, e'⟩
    · exact .inl (e'.trans e)
    · refine .inr ⟨e1, ?_⟩
      rcases e' with e' | e' | e' | ⟨cs, e'⟩
      · exact .inl e'
      · exact .inr (.inl e')
      · exact .inr (.inr (.inl e'))
      · exact .inr (.inr (.inr ⟨cs, by rw [← e]; exact e'⟩))
  · exact .inr e
/-- below the table nothing turns -/
theorem TFr.low {B bt bk bd : Nat} {w0 w w' : World} (h : TFr B bt bk bd w w') (E : Ext w0 w) (hB : w0.heap.size ≤ B) : Ext w0 w' := by
  obtain ⟨h1, h2, h3, h4, h5⟩ := h
  have hs := E.size'
  refine ⟨h1.trans E.os, h2.trans E.tape, h3.trans E.output, by omega, fun i hi => ?_⟩
  rcases h5 i (by omega) with e | ⟨e, _⟩
  · exact e.trans (Below.block E i hi)
  · omega
/-- rows of other elements stand -/
theorem TFr.own {B bt bk bd : Nat} {w w' : World} (h : TFr B bt bk bd w w') {A : List Ops} {g : Nat → Bool} {F : ByteArray → Option SV} {G : Int → Option SV} (hl : LockSt w B bt bk bd A g F G) {B' e sz n : Nat} {v : Value} {xs : List Value} (ho : w.ownsRow B' e sz v n xs) (h1 : e ≠ 152) (h2 : e ≠ 148) : w'.ownsRow B' e sz v n xs := by
  refine ⟨ho.1, ?_⟩
  rcases ho.2 with hn | ⟨b, cap, cur, rfl, hb, hg, rest⟩
  · exact .inl hn
  · right
    refine ⟨b, cap, cur, rfl, hb, ?_, rest⟩
    rcases h.2.2.2.2 b (Array.getElem?_eq_some_iff.1 hg).1 with e' | ⟨_, e' | e' | e' | ⟨cs, e'⟩⟩
    · rw [e']; exact hg
    · subst e'; rw [hl.box] at hg; injection hg with hg; injection hg with _ hg; exact absurd hg.symm h2
    · subst e'
      obtain ⟨n, D, ⟨es, clock, hm, _⟩, _⟩ := hl.km
      rw [hm] at hg; cases hg
    · subst e'
      obtain ⟨n, D, ⟨es, clock, hm, _⟩, _⟩ := hl.dm
      rw [hm] at hg; cases hg
    · rw [e'] at hg; injection hg with hg; injection hg with _ hg; exact absurd hg.symm h1
theorem lawStr : Keyed Tryd.prog 9 := string_keyed Tryd.underlying9
theorem lawInt : Keyed Tryd.prog 3 := int_keyed Tryd.underlying3
theorem lock_new (w : World) : LockSt ((((w.alloc (.map #[] 0)).alloc (.map #[] 0))).alloc (.cells #[.map (some w.heap.size), .map (some (w.heap.size + 1)), .int .i64 0] 148)) w.heap.size (w.heap.size + 2) w.heap.size (w.heap.size + 1) [] (fun _ => false) (fun _ => none) (fun _ => none) where
  hBt := by omega
  hBk := by omega
  hBd := by omega
  ne := by omega
  box := by
    have := heap_alloc_new ((w.alloc (.map #[] 0)).alloc (.map #[] 0)) (.cells #[.map (some w.heap.size), .map (some (w.heap.size + 1)), .int .i64 0] 148)
    simpa using this
  km := ⟨0, .map [], ((World.ownsMap_made w _ _ _).alloc _).alloc _, by simp, MapF.empty⟩
  dm := ⟨0, .map [], by
    have := (World.ownsMap_made (w.alloc (.map #[] 0)) Tryd.prog 3 svElem).alloc (.cells #[.map (some w.heap.size), .map (some (w.heap.size + 1)), .int .i64 0] 148)
    simpa using this, by simp, MapF.empty, rfl⟩
  keys := fun k => World.ownsRow_nil _ _ _ _
  apart := fun k k' s s' _ h => by cases h
  rows := fun n h => by simp at h
  nones := fun _ _ => rfl
  later := fun _ _ => rfl
  few := by simp
  dok := by simp
end Go.Proofs.YtomgeolmfpijoaaDoor

/- Contracts and lemmas for the proofs of this seat; each theorem states its own conditions. -/
namespace Go.Proofs.YtomgeolmfpijoaaDoor
open Go.RowKit Go.Maps
/-! lock.New, holds, May, Ready, Left -/
theorem lnew_any (w : World) : Calls Tryd.prog 42 #[] w fun e w' => e = .returned (.pointer (some ⟨w.heap.size + 2, 0, none⟩)) ∧ LockSt w' w.heap.size (w.heap.size + 2) w.heap.size (w.heap.size + 1) [] (fun _ => false) (fun _ => none) (fun _ => none) ∧ Ext w w' := by
  have hmm := @run_makeMap Tryd.prog
  have L := lock_new w
  go_enter Tryd.func42, Tryd.ntmps42
  go_wp2
  go_ret
  exact ⟨rfl, L, ((((Ext.refl w).alloc _).alloc _).alloc _)⟩
theorem holds_hit {l : Clm} {s j : Nat} (hj : j < l.length) (hlo : ∀ i (h : i < j), (l[i]'(by omega)).1 ≠ s) (h : l[j].1 = s) : holdsL l s = (decide (j = 0) || (!l[j].2 && !((l.take j).any fun c => c.2))) := by
  have e : l = l.take j ++ l[j] :: l.drop (j + 1) := by rw [← List.drop_eq_getElem_cons hj, List.take_append_drop]
  unfold holdsL
  conv => lhs; rw [e]
  rw [holdsG_pre (fun c hc => by
    obtain ⟨i, hi, rfl⟩ := List.mem_iff_getElem.1 hc
    rw [List.length_take] at hi
    rw [List.getElem_take]
    exact hlo i (by omega))]
  rw [holdsG, if_pos h]
  have e2 : (l.take j).isEmpty = decide (j = 0) := by
    cases j with
    | zero => simp
    | succ j => 
      have : l ≠ [] := by rintro rfl; simp at hj
      simp [this]
  rw [e2]; simp
theorem holds_miss {l : Clm} {s : Nat} : ∀ {f m : Bool}, (∀ c ∈ l, c.1 ≠ s) → holdsG f m s l = false := by
  induction l with
  | nil => intro f m _; rfl
  | cons c l ih => intro f m h; rw [holdsG, if_neg (h c (by simp))]; exact ih fun d hd => h d (by simp [hd])
theorem holds1_any (x : Nat × Bool) (w : World) : Calls Tryd.prog 154 #[.agg #[.int .i64 x.1, .bool x.2]] w fun e w' => e = .returned (.bool x.2) ∧ Ext w w' := by
  have xb := blk2 (heap_alloc_new w (.cells #[.int .i64 x.1, .bool x.2] 152))
  go_enter Tryd.func154, Tryd.ntmps154
  go_wp2
  go_ret
  exact ⟨rfl, (Ext.refl w).alloc _⟩
theorem seg_takeK {w : World} {b off c : Nat} {l : Clm} (hc : ∀ j u, (cK l)[j]? = some u → w.cell? ⟨b, off + j, none⟩ = some u) {j : Nat} (hj : j ≤ l.length) (h1 : l.length ≤ c) (h2 : c ≤ maxLen) : Seg w (.slice (some ⟨b, off, none⟩) j c) 2 (l.take j).length (cK (l.take j)) := by
  have hl : (l.take j).length = j := by rw [List.length_take]; omega
  refine ⟨by rw [cK_len], some ⟨b, off, none⟩, c, by rw [hl], by omega, h2, fun _ => ⟨b, off, rfl, fun i u hu => hc i u ?_⟩⟩
  have e : cK l = cK (l.take j) ++ cK (l.drop j) := by rw [← cK_app, List.take_append_drop]
  rw [e, List.getElem?_append_left (List.getElem?_eq_some_iff.1 hu).1]
  exact hu
set_option maxRecDepth 10000 in
set_option maxHeartbeats 2000000 in
theorem holds_any {w : World} {B bt bk bd : Nat} {A : List Ops} {g : Nat → Bool} {F : ByteArray → Option SV} {G : Int → Option SV} (h : LockSt w B bt bk bd A g F G) (s : Nat) (key : ByteArray) (hk : okS key) :
    Calls Tryd.prog 109 #[.pointer (some ⟨bt, 0, none⟩), .int .i64 s, .string key] w fun e w' => e = .returned (.bool (holdsL (clmTo A g key A.length) s)) ∧ Ext w w' := by
  have hown0 := h.keys key
  have hkey := WideMaps.keyOf_string_mk Tryd.underlying9 (P := Tryd.prog) (k := 9) (s := key) hk
  obtain ⟨n, D, hmap, hn, hF⟩ := h.km
  have hbox := h.box
  have hfew := h.few
  obtain ⟨ac, cc, hsv⟩ := own_form hown0
  rw [hsv] at hown0
  have hseg := own_seg hown0
  have hcl := fun c (hc : c ∈ clmTo A g key A.length) => (clm_mem.1 hc).1
  have hlen : (clmTo A g key A.length).length ≤ 1000000 := by
    have : ∀ n, (clmTo A g key n).length ≤ n := by
      intro n; induction n with
      | zero => simp [clmTo]
      | succ n ih => rw [clmTo, List.length_append]; unfold clm1; split <;> simp <;> omega
    have := this A.length; omega
  obtain ⟨l, hl⟩ : ∃ l, clmTo A g key A.length = l := ⟨_, rfl⟩
  rw [hl] at hseg hsv hcl hlen
  have HL := hid hl
  have HCL := hid hcl
  clear hl hown0 hcl
  have hzero := fun w => Tryd.zeroValue149 w
  have cb : w.cell? ⟨bt, 0, none⟩ = some (.map (some bk)) := by simp [World.cell?, hbox]
  obtain ⟨_, aa, c', hq, h1, h2, h3⟩ := hseg
  injection hq with hq1 _ hq3
  subst hq1; subst hq3
  unfold maxLen at h2
  have H3 := hid h3
  clear h3
  go_enter Tryd.func109, Tryd.ntmps109
  go_wp2_with (first | (at_lookup; refine wpList_lookup_sv _ rfl _ _ 145 rfl 9 149 lawStr Tryd.underlying145 (hzero _) bk n D F hF rfl hmap _ key hk rfl hkey ?_))
  go_loopw [7, 8, 16] (fun _ _ iv wr => ∃ j : Nat, j ≤ l.length ∧ iv = .int .i64 j ∧ (∀ i (h : i < l.length), i < j → l[i].1 ≠ s) ∧ Ext w wr) (fun _ _ iv _ => l.length - (intOf iv).toNat)
  case atStart => exact ⟨0, Nat.zero_le _, rfl, fun i _ h => by omega, Ext.refl _⟩
  case round =>
    obtain ⟨j, hj, rfl, hn, E⟩ := hrel
    have HN := hid hn
    clear hn
    by_cases hlt : j < l.length
    · obtain ⟨b, off, rfl, hcell⟩ := H3.out (by omega)
      have x0 := E.cell (hcell (j * 2) _ (cK_at l j hlt).1)
      have x1 := E.cell (hcell (j * 2 + 1) _ (cK_at l j hlt).2)
      rw [← Nat.add_assoc] at x1
      have HIT := hid (fun h => holds_hit (s := s) hlt (fun i hi => HN.out i (by omega) hi) h)
      have HS := hid (fun (h : l[j].1 ≠ s) => (fun i (hi : i < l.length) (h' : i < j + 1) => by
        rcases Nat.lt_or_ge i j with h2 | h2
        · exact HN.out i hi h2
        · have : i = j := by omega
          subst this; exact h : ∀ i (hi : i < l.length), i < j + 1 → l[i].1 ≠ s))
      have ST := hid (seg_takeK (fun i u hu => E.cell (hcell i u hu)) (Nat.le_of_lt hlt) h1 h2)
      have hcs := HCL.out _ (List.getElem_mem hlt)
      clear hcell
      generalize l[j] = c at x0 x1 HIT HS hcs
      obtain ⟨c1, c2⟩ := c
      dsimp only at x0 x1 HIT HS hcs
      have EA := (Ext.refl wr).alloc (.cells #[.int .i64 c1, .bool c2] 152)
      have xb := blk2 (heap_alloc_new wr (.cells #[.int .i64 c1, .bool c2] 152))
      by_cases hs : c1 = s
      · have qs : ((c1 : Int) == (s : Int)) = true := by simp [hs]
        have HR := hid (HIT.out hs)
        clear HIT HS hs
        by_cases hj0 : j = 0
        · have q0 : ((j : Int) == 0) = true := by simp [hj0]
          have hr : holdsL l s = true := by rw [HR.out]; simp [hj0]
          have HR2 := hid hr
          clear hr hj0
          go_wp2
          go_ret
          exact ⟨rB (by rw [HL.out, HR2.out]), E.trans EA⟩
        · have q0 : ((j : Int) == 0) = false := by simp [hj0]
          cases c2 with
          | true =>
            have hr : holdsL l s = false := by rw [HR.out]; simp [hj0]
            have HR2 := hid hr
            clear hr hj0
            go_wp2
            go_ret
            exact ⟨rB (by rw [HL.out, HR2.out]), E.trans EA⟩
          | false =>
            have hr : holdsL l s = !((l.take j).any fun c => c.2) := by rw [HR.out]; simp [hj0]
            have HR2 := hid hr
            clear hr hj0
            have E1 := E.trans EA
            have hmap1 := ownsMap_ext hmap E1
            have cb1 := E1.cell cb
            have CF := hid (containsF_K 154 #[] (enters_of Tryd.func154 (by kernel_rfl) rfl) (fun c => c.2) _ (l.take j) (wr.alloc (.cells #[.int .i64 c1, .bool false] 152)) (ST.out.ext EA) (fun x _ w' _ => holds1_any x w'))
            have hji : (j : Int) ≤ (l.length : Int) := by omega
            have hjc : (j : Int) ≤ (cc : Int) := by omega
            go_wp2_with (first | (at_lookup; refine wpList_lookup_svg _ (by rfl) _ _ 145 rfl 9 149 lawStr Tryd.underlying145 (hzero _) bk n D F hF rfl hmap1 _ key hk rfl hkey ?_))
            refine (CF.out).mono ?_
            rintro e wa ⟨rfl, Ea⟩
            go_wp2
            go_ret
            exact ⟨rB (by rw [HL.out, HR2.out]), E1.trans Ea⟩
      · have qs : ((c1 : Int) == (s : Int)) = false := by simp; omega
        have HS2 := hid (HS.out hs)
        clear HS HIT hs
        go_wp2
        go_roundw
        case rel => exact ⟨j + 1, by omega, by go_num, HS2.out, E.trans EA⟩
        case measure => simp [intOf]; omega
    · obtain rfl : j = l.length := by omega
      have hr : holdsL l s = false := holds_miss fun c hc => by
        obtain ⟨i, hi, rfl⟩ := List.mem_iff_getElem.1 hc
        exact HN.out i hi hi
      have HR2 := hid hr
      clear hr
      go_wp2
      go_ret
      exact ⟨rB (by rw [HL.out, HR2.out]), E⟩
end Go.Proofs.YtomgeolmfpijoaaDoor
