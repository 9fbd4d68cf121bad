/- Contracts and lemmas for the proof of TopLog; each theorem states its own conditions. -/
import Derived.Test.YtddghaoejnbkaaaGreatDoorQTopLogbr
import Derived.Test.YtddghaoejnbkaaaGreatDoorQTopLogbs
import Derived.Test.YtddghaoejnbkaaaGreatDoorQTopLogay
import Derived.Test.YtddghaoejnbkaaaGreatDoorQTopLogbq
import Derived.Test.YtddghaoejnbkaaaGreatDoorQTopLogbn
set_option linter.unusedVariables false
set_option linter.unusedSimpArgs false
/- Contracts and lemmas for the proofs of this seat; each theorem states its own conditions. -/
namespace Go.Proofs.YtddghaoejnbkaaaGreatDoor
open Go.RowKit
/-! copies of one input; what lies beside copies -/
def goC (c : Cop) (X : List Ent) : Nat → Cop
  | 0 => c
  | d + 1 => doE (goC c X d) (X.getD d entZ)
theorem doE_dn (c : Cop) (x : Ent) : (doE c x).dn = c.dn + 1 := by
  unfold doE
  split <;> rfl
theorem goC_dn (c : Cop) (X : List Ent) : ∀ d, (goC c X d).dn = c.dn + d
  | 0 => rfl
  | d + 1 => by rw [goC, doE_dn, goC_dn c X d]; omega
theorem goC_ok {N : Nat} {c : Cop} (h : CopOk N c) {X : List Ent} (hX : ∀ x ∈ X, EntOk x) : ∀ d, d ≤ X.length → CopOk N (goC c X d)
  | 0, _ => h
  | d + 1, hd => by
    have hl : d < X.length := hd
    rw [goC, show X.getD d entZ = X[d] by simp [hl]]
    exact (goC_ok h hX d (by omega)).do (hX _ (List.getElem_mem hl))
theorem log_one (X : Bat) : logM [[X]] = X := by simp [logM, rdM, mnTo, logTo, rowTo]
theorem LogK.one {X : Bat} (hX : ∀ x ∈ X, EntOk x) (hl : X.length ≤ 100) : LogK [[X]] where
  sm := by
    intro l hl b hb x hx
    simp at hl; subst hl
    simp at hb; subst hb
    exact (hX x hx).sm
  len := by rw [log_one]; exact hl
  few := by
    intro i hi
    have : i = 0 := by simp at hi; omega
    subst this
    simp
  ok := by rw [log_one]; exact hX
theorem CopSt.ty {w : World} {F : Nat → Prop} {b : Nat} {cl : List (List Bat)} {op : List Bat} {K : List Cop} (h : CopSt w F b cl op K) : TyS w F cTy := by
  obtain ⟨A, h⟩ := h
  exact h.ty
/-- entries that lie beside copies -/
def EntsK (w : World) (F : Nat → Prop) (v : Value) (X : List Ent) : Prop := ∃ es, EntsSt 0 w es X ∧ w.ownsRow 0 42 4 v X.length (cEn es) ∧ Off F v ∧ ∀ e ∈ es, Off F e.2.2.2
theorem EntsK.ext {w w' : World} {F : Nat → Prop} {v : Value} {X : List Ent} (h : EntsK w F v X) (E : Ext w w') : EntsK w' F v X := by
  obtain ⟨es, h1, h2, h3, h4⟩ := h
  exact ⟨es, h1.ext E, own_ext h2 E, h3, h4⟩
theorem EntsK.kp {w w' : World} {F F' : Nat → Prop} {v : Value} {X : List Ent} (h : EntsK w F v X) (ty : TyS w F cTy) (k : Kp F w w' F') : EntsK w' F' v X := by
  obtain ⟨es, h1, h2, h3, h4⟩ := h
  refine ⟨es, ⟨h1.1, fun j e x p q => ?_⟩, k.own h2 h3, k.off h2 h3, fun e he => ?_⟩
  · have s := h1.2 j e x p q
    have hm := h4 e (List.mem_of_getElem? p)
    exact ⟨k.own s.ops (ty.off s.ops op_cTy.1), s.im, k.own s.cuts (ty.off s.cuts op_cTy.2.1), k.own s.own hm⟩
  · obtain ⟨j, hj, rfl⟩ := List.mem_iff_getElem.1 he
    have hl := h1.1
    have s := h1.2 j es[j] (X[j]'(by omega)) (List.getElem?_eq_getElem hj) (List.getElem?_eq_getElem (by omega))
    exact k.off s.own (h4 _ he)
theorem EntsK.seg {w : World} {F : Nat → Prop} {v : Value} {X : List Ent} (h : EntsK w F v X) : EntsSeg w v X := by
  obtain ⟨es, h1, h2, _, _⟩ := h
  exact ents_seg h1 h2
theorem LogR.beside {w0 w : World} {F : Nat → Prop} {T : List Nat} {v : Value} {X : List Ent} (h : LogR w0 X v w) (ty : TyS w0 F T) : EntsK w F v X := by
  obtain ⟨es, h1, h2, h3⟩ := h
  refine ⟨es, h1.low (Nat.zero_le _), own_base h2 (Nat.zero_le _), fun k hk hf => ?_, fun e he k hk hf => ?_⟩
  · have := own_ge h2 k hk
    have := ty.lt hf
    omega
  · obtain ⟨j, hj, rfl⟩ := List.mem_iff_getElem.1 he
    have hl := h1.1
    have s := h1.2 j es[j] (X[j]'(by omega)) (List.getElem?_eq_getElem hj) (List.getElem?_eq_getElem (by omega))
    have := own_ge s.own k hk
    have := ty.lt hf
    omega
/-- one entry of a row of entries -/
theorem EntsSeg.at {w : World} {b off c : Nat} {X : List Ent} (h : EntsSeg w (.slice (some ⟨b, off, none⟩) X.length c) X) {j : Nat} (hj : j < X.length) :
    ∃ e : EV, EntSeg w e X[j] ∧ w.cell? ⟨b, off + j * 4, none⟩ = some e.1 ∧ w.cell? ⟨b, off + j * 4 + 1, none⟩ = some (.bool e.2.1) ∧ w.cell? ⟨b, off + j * 4 + 2, none⟩ = some e.2.2.1 ∧ w.cell? ⟨b, off + j * 4 + 3, none⟩ = some e.2.2.2 := by
  obtain ⟨es, h1, h2, h3⟩ := h
  obtain ⟨b', off', e, _, _, _, hc⟩ := seg_cells h2 (by omega)
  injection e with e; injection e with e1 e2
  subst e1; subst e2
  have hje : j < es.length := by omega
  obtain ⟨x0, x1, x2, x3⟩ := cEn_at es hje
  exact ⟨es[j], h3 j _ _ (List.getElem?_eq_getElem hje) (List.getElem?_eq_getElem hj), hc _ _ x0, hc _ _ x1, hc _ _ x2, hc _ _ x3⟩
end Go.Proofs.YtddghaoejnbkaaaGreatDoor

/- Contracts and lemmas for the proofs of this seat; each theorem states its own conditions. -/
namespace Go.Proofs.YtddghaoejnbkaaaGreatDoor
open Go.RowKit Go.Maps
/-! rokeep.Pairs, with what it holds -/
/-- what Pairs' map holds after k numbers -/
def pF (l : List Int) : Nat → ByteArray → Option Int
  | 0 => fun _ => none
  | k + 1 => fun x => if x = keyOf k then some (wi (l.getD k 0) 41 - 20) else pF l k x
theorem pF_step (l : List Int) {k : Nat} (h : k < l.length) : pF l (k + 1) = fun x => if x = keyOf k then some (wi l[k] 41 - 20) else pF l k x := by
  rw [pF, show l.getD k 0 = l[k] by simp [h]]
theorem pF_ok (l : List Int) : ∀ k, PF (pF l k)
  | 0 => pf_none
  | k + 1 => pf_put (pF_ok l k) (keyOf_is k).1 (by have := wi_lo (k := l.getD k 0) (n := 41) (by omega); omega) (by have := wi_hi (k := l.getD k 0) (n := 41) (by omega); omega)
def PRel2 (w : World) (l : List Int) (k : Nat) (wr : World) : Prop :=
  ∃ (D : DU), wr.ownsMap Tryz.prog 9 (plainElem Tryz.prog 3) w.heap.size k D ∧ MapF kS okS dI D (pF l k) ∧ Ext w wr
theorem prel2_put {w w3 : World} {l : List Int} {k : Nat} {D : DU} {key : ByteArray} {c : Int} (hF : MapF kS okS dI D (pF l k)) (hst : pF l (k + 1) = fun x => if x = key then some c else pF l k x) (hk : keyB key = true) (h1 : -20 ≤ c) (h2 : c ≤ 20)
    (hown : w3.ownsMap Tryz.prog 9 (plainElem Tryz.prog 3) w.heap.size (k + 1) (D.put (kS key) (dI c))) (E : Ext w w3) : PRel2 w l (k + 1) w3 :=
  ⟨_, hown, by rw [hst]; exact hF.put kS_inj kS_is (by have := keyB_size hk; unfold okS maxLen; omega) c, E⟩
set_option maxRecDepth 10000 in
set_option maxHeartbeats 1000000 in
theorem pairs_fn (v : Value) (l : List Int) (w : World) (hv : Seg w v 1 l.length (cI l)) (hb : ∀ z ∈ l, -9223372036854775808 ≤ z ∧ z ≤ 9223372036854775807) :
    Calls Tryz.prog 11 #[v] w fun e w' => ∃ v' P, e = .returned v' ∧ StoreOk P ∧ P.length ≤ 30 ∧ (∀ x, valP P x = (pF l (min l.length 30) x).getD 0) ∧ w'.ownsRow w.heap.size 62 2 v' P.length (cP P) ∧ Ext w w' := by
  obtain ⟨h0, a, cap, rfl, h1, h2, h3⟩ := hv
  unfold maxLen at h2
  have hmm := @run_makeMap Tryz.prog
  have b0 := World.ownsMap_made w Tryz.prog 9 (plainElem (H := Unit) Tryz.prog 3)
  have E0 := (Ext.refl w).alloc (.map #[] 0)
  go_enter Tryz.func11, Tryz.ntmps11
  obtain ⟨N, hN, hN1, hN2, hNN0⟩ : ∃ N : Nat, min (l.length : Int) 30 = (N : Int) ∧ N ≤ l.length ∧ N ≤ 30 ∧ N = min l.length 30 := ⟨min l.length 30, by omega, by omega, by omega, rfl⟩
  have hNN := hid hNN0
  clear hNN0
  have hN3 : ((N : Int)).toNat = N := by omega
  have hN4 : max (N : Int) 0 = (N : Int) := by omega
  go_wp2
  try simp only [hN, hN3, hN4]
  clear hN hN3 hN4
  go_loopw [4, 5, 13] (fun _ _ i wr => ∃ k : Nat, k ≤ N ∧ i = .int .i64 k ∧ PRel2 w l k wr) (fun _ _ i _ => N - (intOf i).toNat)
  case atStart => exact ⟨0, Nat.zero_le _, rfl, _, b0, MapF.empty, E0⟩
  case round =>
    clear b0 E0 hmm
    obtain ⟨k, hk, rfl, D, hown, hF, E⟩ := hrel
    by_cases hlt : k < N
    · obtain ⟨b, off, rfl, hc⟩ := h3 (by omega)
      have c0 := E.cell (hc k _ (cI_at0 l k (by omega)))
      clear hc h3
      have ka := keyOf_is k
      have g1 := wi_lo (k := l[k]) (n := 41) (by omega)
      have g2 := wi_hi (k := l[k]) (n := 41) (by omega)
      go_wp2_with fail
      refine (kKey_any _ _).mono ?_
      rintro e w1 ⟨rfl, E1⟩
      go_wp2_with fail
      refine (within_any _ _ _ (by omega) (by omega)).mono ?_
      rintro e w2 ⟨rfl, rfl⟩
      have hst := pF_step l (show k < l.length by omega)
      generalize keyOf k = key at ka hst ⊢
      generalize wi l[k] 41 = q at g1 g2 hst ⊢
      have HST := hid hst
      clear hst
      have hown1 := ownsMap_ext hown E1
      have hwf : (Lit.int .i64 (q - 20)).wf = true := WalkArith.wf_i64 (by omega)
      have hkey := WideMaps.keyOf_string_mk Tryz.underlying9 (P := Tryz.prog) (k := 9) (s := key) (by have := keyB_size ka.1; unfold maxLen; omega)
      go_wp2_with (first
        | (at_mapUpdate; refine wpList_mapUpdate_own _ rfl _ _ _ 71 rfl 9 3 lawS Tryz.underlying71 _ w.heap.size k D rfl hown1 (by unfold maxLen; omega) _ _ (kS key) rfl rfl hkey (dI (q - 20)) [] (plainElem_int Tryz.underlying3 hwf) ?_; intro w3 hown3 hg3))
      go_roundw
      case rel => exact ⟨k + 1, by omega, by go_num, prel2_put hF HST.out ka.1 (by omega) (by omega) hown3 ((E.trans E1).grown hg3 (fun j hj => by injection hj with hj; omega))⟩
      case measure => simp [intOf]; omega
    · go_wp2_with fail
      refine (rlist_any w.heap.size k D (pF l k) _ hown hF (by omega)).mono ?_
      rintro e w2 ⟨v', P, rfl, r1, r2, r3, r4, r5, E2⟩
      go_wp2
      go_ret
      exact ⟨_, P, rfl, pf_store (pF_ok l k) r1 r2 r3, by omega, fun x => by rw [r3 x, show k = min l.length 30 by have := hNN.out; omega], own_base r5 E.size', E.trans E2⟩
end Go.Proofs.YtddghaoejnbkaaaGreatDoor

/- Contracts and lemmas for the proofs of this seat; each theorem states its own conditions. -/
namespace Go.Proofs.YtddghaoejnbkaaaGreatDoor
open Go.RowKit
end Go.Proofs.YtddghaoejnbkaaaGreatDoor

/- Contracts and lemmas for the proofs of this seat; each theorem states its own conditions. -/
namespace Go.Proofs.YtddghaoejnbkaaaGreatDoor
open Go.RowKit
/-! copies that go on, each in its own time -/
def KD (c : Cop) (X : List Ent) (n : Nat) (d : Nat → Nat) : List Cop := (List.range n).map fun i => goC c X (d i)
theorem kd_len (c : Cop) (X : List Ent) (n : Nat) (d : Nat → Nat) : (KD c X n d).length = n := by simp [KD]
theorem kd_at (c : Cop) (X : List Ent) {n : Nat} (d : Nat → Nat) {i : Nat} (hi : i < n) : (KD c X n d).getD i copZ = goC c X (d i) := by simp [KD, hi]
def upD (d : Nat → Nat) (i m : Nat) : Nat → Nat := fun j => if j = i then m else d j
theorem kd_set (c : Cop) (X : List Ent) (n : Nat) (d : Nat → Nat) (i m : Nat) : (KD c X n d).set i (goC c X m) = KD c X n (upD d i m) := by
  apply List.ext_getElem?
  intro j
  simp only [KD, List.getElem?_set, List.length_map, List.length_range, List.getElem?_map]
  by_cases hj : j < n
  · by_cases e : i = j
    · subst e; simp [hj, upD]
    · simp [e, hj, upD, show ¬ j = i from fun q => e q.symm]
  · by_cases e : i = j
    · subst e; simp [hj]
    · simp [e, hj]
theorem kd_rep (c : Cop) (X : List Ent) (n : Nat) : List.replicate n c = KD c X n (fun _ => 0) := by
  apply List.ext_getElem?
  intro j
  simp only [KD, List.getElem?_map, List.getElem?_replicate, goC]
  by_cases hj : j < n
  · simp [hj]
  · simp [hj]
theorem equal_Pq (v u : Value) (L : Prs) (w : World) (h : Seg w v 2 L.length (cP L)) (h' : Seg w u 2 L.length (cP L)) :
    Calls Tryz.prog 19 #[v, u] w fun e w' => e = .returned (.bool true) ∧ Ext w w' := by
  have q := equal_Pair v u L L w h h'
  rw [decide_eq_true (rfl : L = L)] at q
  refine q.mono ?_
  rintro e w1 ⟨rfl, n, rfl⟩
  exact ⟨rfl, (Ext.refl w).drewN n⟩
theorem goC_one {c : Cop} {X : List Ent} {d : Nat} (h : d < X.length) : doE (goC c X d) X[d] = goC c X (d + 1) := by
  rw [goC, show X.getD d entZ = X[d] by simp [h]]
theorem goC_le {N : Nat} {c : Cop} (h : CopOk N c) (hd : c.dn = 0) {X : List Ent} (hX : ∀ x ∈ X, EntOk x) (hl : X.length ≤ 100) (hN : N ≤ 30) {d : Nat} (k : d ≤ X.length) : CopOk N (goC c X d) ∧ (goC c X d).dn = d ∧ (goC c X d).S.length ≤ 4000 ∧ (goC c X d).ok.length ≤ 100 ∧ N ≤ 400000 := by
  have h1 := goC_ok h hX d k
  have h2 := goC_dn c X d
  have h3 := h1.len
  have h4 := h1.okl
  refine ⟨h1, by omega, by omega, by omega, by omega⟩
theorem EntsSeg.addr {w : World} {a : Option Addr} {c : Nat} {X : List Ent} (h : EntsSeg w (.slice a X.length c) X) (hp : 0 < X.length) : ∃ b off, a = some ⟨b, off, none⟩ ∧ X.length ≤ c ∧ c ≤ 9223372036854775807 := by
  obtain ⟨es, h1, h2, h3⟩ := h
  obtain ⟨b, off, e, _, q1, q2, _⟩ := seg_cells h2 hp
  unfold maxLen at q2
  exact ⟨b, off, e, q1, q2⟩
theorem CopG.far' {w w' : World} {F : Nat → Prop} {b : Nat} {A : CopA} {cl : List (List Bat)} {op : List Bat} {K : List Cop} (h : CopG w F b A cl op K) {g : Nat} {cs : Array Value} {t : TypeId} {fr : Nat × Nat} (hb : w.heap[g]? = some (.cells cs t fr)) (ht : t ∉ cTy ∧ 125 ≠ t ∧ 9 ≠ t ∧ 62 ≠ t) (hg : w.grownBy w' (some g)) : CopG w' F b A cl op K := by
  have hm : ∀ e, e ∈ cTy → e ≠ t := fun e he q => ht.1 (q ▸ he)
  have hm2 : ∀ {k : Nat} {cs' : Array Value} {e : TypeId} {fr' : Nat × Nat}, w.heap[k]? = some (.cells cs' e fr') → e ∈ cTy → w'.heap[k]? = some (.cells cs' e fr') := fun hk he => grown_heap hg hk (far_ne hb hk (fun q => hm _ he q.symm))
  exact { h with
    zb := fun k hk => Nat.lt_of_lt_of_le (h.zb k hk) hg.size
    box := hm2 h.box (by decide)
    mer := h.mer.far hb ⟨fun q => ht.1 (List.mem_append.2 (.inl q)), ht.2.1, ht.2.2.1⟩ (.inl (hm _ (by decide))) hg
    lrow := far_own hb hg h.lrow (.inl (hm _ (by decide)))
    drow := hm2 h.drow (by decide)
    orow := hm2 h.orow (by decide)
    parts := fun i hi => (h.parts i hi).far hb (fun e => by
      have a := (h.parts i hi).box
      rw [← e, hb] at a; injection a with a; injection a with _ a; exact hm 182 (by decide) a.symm) ht.2.2.1 ht.2.2.2 (.inl (hm _ (by decide))) hg
    oks := fun i hi => far_own hb hg (h.oks i hi) (.inl (hm _ (by decide)))
    fi := fun k cs fr hk hc => by
      obtain ⟨cs', e, hc', hx⟩ := h.ty k hk
      rw [hm2 hc' hx] at hc
      injection hc with hc; injection hc with h3 h4 h5
      subst h3; subst h4; subst h5
      exact h.fi k _ _ hk hc'
    ty := fun k hk => by
      obtain ⟨cs', e, hc, hx⟩ := h.ty k hk
      exact ⟨cs', e, hm2 hc hx, hx⟩ }
theorem CopSt.far {w w' : World} {F : Nat → Prop} {b : Nat} {cl : List (List Bat)} {op : List Bat} {K : List Cop} (h : CopSt w F b cl op K) {g : Nat} {cs : Array Value} {t : TypeId} {fr : Nat × Nat} (hb : w.heap[g]? = some (.cells cs t fr)) (ht : t ∉ cTy ∧ 125 ≠ t ∧ 9 ≠ t ∧ 62 ≠ t) (hg : w.grownBy w' (some g)) : CopSt w' F b cl op K := by
  obtain ⟨A, h⟩ := h
  exact ⟨A, h.far' hb ht hg⟩
theorem EntsK.far {w w' : World} {F : Nat → Prop} {v : Value} {X : List Ent} (h : EntsK w F v X) {g : Nat} {cs : Array Value} {t : TypeId} {fr : Nat × Nat} (hb : w.heap[g]? = some (.cells cs t fr)) (ht : 42 ≠ t ∧ 125 ≠ t ∧ 9 ≠ t ∧ 3 ≠ t) (hg : w.grownBy w' (some g)) : EntsK w' F v X := by
  obtain ⟨es, h1, h2, h3, h4⟩ := h
  exact ⟨es, ⟨h1.1, fun j e x p q => by
    have s := h1.2 j e x p q
    exact ⟨far_own hb hg s.ops (.inl ht.2.1), s.im, far_own hb hg s.cuts (.inl ht.2.2.1), far_own hb hg s.own (.inl ht.2.2.2)⟩⟩, far_own hb hg h2 (.inl ht.1), h3, h4⟩
/-- one entry of them -/
theorem EntsK.at {w : World} {F : Nat → Prop} {b off c : Nat} {X : List Ent} (h : EntsK w F (.slice (some ⟨b, off, none⟩) X.length c) X) {j : Nat} (hj : j < X.length) :
    ∃ e : EV, EntSt 0 w e X[j] ∧ w.cell? ⟨b, off + j * 4, none⟩ = some e.1 ∧ w.cell? ⟨b, off + j * 4 + 1, none⟩ = some (.bool e.2.1) ∧ w.cell? ⟨b, off + j * 4 + 2, none⟩ = some e.2.2.1 ∧ w.cell? ⟨b, off + j * 4 + 3, none⟩ = some e.2.2.2 := by
  obtain ⟨es, h1, h2, _, _⟩ := h
  obtain ⟨b', off', e, _, _, _, hc⟩ := seg_cells (own_seg h2) (by omega)
  injection e with e; injection e with e1 e2
  subst e1; subst e2
  have hje : j < es.length := by have := h1.1; omega
  obtain ⟨x0, x1, x2, x3⟩ := cEn_at es hje
  exact ⟨es[j], h1.2 j _ _ (List.getElem?_eq_getElem hje) (List.getElem?_eq_getElem hj), hc _ _ x0, hc _ _ x1, hc _ _ x2, hc _ _ x3⟩
/-- what the law itself does, entry by entry -/
structure OneS (w : World) (B bM : Nat) (sv ov u1 u2 : Value) (c : Cop) : Prop where
  s : w.ownsRow 0 62 2 sv c.S.length (cP c.S)
  box : w.heap[bM]? = some (.cells #[u1, u2] 34 (0, 0))
  cuts : w.ownsRow 0 9 1 u1 c.C.length (cS c.C)
  own : w.ownsRow 0 3 1 u2 c.O.length (cI c.O)
  ok : w.ownsRow B 4 1 ov c.ok.length (c.ok.map Value.bool)
theorem OneS.ext {w w' : World} {B bM : Nat} {sv ov u1 u2 : Value} {c : Cop} (h : OneS w B bM sv ov u1 u2 c) (E : Ext w w') : OneS w' B bM sv ov u1 u2 c := ⟨own_ext h.s E, E.heap h.box, own_ext h.cuts E, own_ext h.own E, own_ext h.ok E⟩
theorem OneS.is {w : World} {B bM : Nat} {sv ov u1 u2 : Value} {c : Cop} (h : OneS w B bM sv ov u1 u2 c) : IsMap w (.agg #[u1, u2]) c.C c.O := ⟨_, _, rfl, own_seg h.cuts, own_seg h.own⟩
/-- a map: it stands from now on -/
theorem OneS.map {w : World} {B bM : Nat} {sv ov u1 u2 v1 v2 : Value} {c : Cop} (h : OneS w B bM sv ov u1 u2 c) {C : List ByteArray} {O : List Int} (h1 : w.ownsRow 0 9 1 v1 C.length (cS C)) (h2 : w.ownsRow 0 3 1 v2 O.length (cI O)) :
    OneS ((w.setCell ⟨bM, 0, none⟩ v1).setCell ⟨bM, 1, none⟩ v2) B bM sv ov v1 v2 ⟨C, O, c.S, c.dn, c.ok⟩ := by
  have hb := h.box
  have hb1 := blk2_set0 hb v1
  have k : ∀ {B e sz n : Nat} {v : Value} {xs : List Value}, w.ownsRow B e sz v n xs → e ≠ 34 → ((w.setCell ⟨bM, 0, none⟩ v1).setCell ⟨bM, 1, none⟩ v2).ownsRow B e sz v n xs := fun ho he => by
    have o1 := own_set_other (p := ⟨bM, 0, none⟩) ho (own_ne ho hb he) v1
    exact own_set_other o1 (own_ne o1 hb1 he) v2
  exact ⟨k h.s (by decide), blk2_set2 hb, k h1 (by decide), k h2 (by decide), k h.ok (by decide)⟩
end Go.Proofs.YtddghaoejnbkaaaGreatDoor
