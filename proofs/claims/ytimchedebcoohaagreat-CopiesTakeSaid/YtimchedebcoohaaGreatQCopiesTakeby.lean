/- Contracts and lemmas for the proof of CopiesTake; each theorem states its own conditions. -/
import Derived.Test.YtimchedebcoohaaGreatQCopiesTakeau
import Derived.Test.YtimchedebcoohaaGreatQCopiesTakebt
import Derived.Test.YtimchedebcoohaaGreatQCopiesTakebo
import Derived.Test.YtimchedebcoohaaGreatQCopiesTakebx
set_option linter.unusedVariables false
set_option linter.unusedSimpArgs false
/- Contracts and lemmas for the proofs of this seat; each theorem states its own conditions. -/
namespace Go.Proofs.YtimchedebcoohaaGreat
open Go.RowKit Go.Maps
/-! rokeep.Pairs, with what it holds -/
/-- what Pairs' map holds after k numbers -/
def pF (l : List Int) : Nat → ByteArray → Option Int
  | 0 => fun _ => none
  | k + 1 => fun x => if x = keyOf k then some (wi (l.getD k 0) 41 - 20) else pF l k x
theorem pF_step (l : List Int) {k : Nat} (h : k < l.length) : pF l (k + 1) = fun x => if x = keyOf k then some (wi l[k] 41 - 20) else pF l k x := by
  rw [pF, show l.getD k 0 = l[k] by simp [h]]
theorem pF_ok (l : List Int) : ∀ k, PF (pF l k)
  | 0 => pf_none
  | k + 1 => pf_put (pF_ok l k) (keyOf_is k).1 (by have := wi_lo (k := l.getD k 0) (n := 41) (by omega); omega) (by have := wi_hi (k := l.getD k 0) (n := 41) (by omega); omega)
def PRel2 (w : World) (l : List Int) (k : Nat) (wr : World) : Prop :=
  ∃ (D : DU), wr.ownsMap Tryz.prog 9 (plainElem Tryz.prog 3) w.heap.size k D ∧ MapF kS okS dI D (pF l k) ∧ Ext w wr
theorem prel2_put {w w3 : World} {l : List Int} {k : Nat} {D : DU} {key : ByteArray} {c : Int} (hF : MapF kS okS dI D (pF l k)) (hst : pF l (k + 1) = fun x => if x = key then some c else pF l k x) (hk : keyB key = true) (h1 : -20 ≤ c) (h2 : c ≤ 20)
    (hown : w3.ownsMap Tryz.prog 9 (plainElem Tryz.prog 3) w.heap.size (k + 1) (D.put (kS key) (dI c))) (E : Ext w w3) : PRel2 w l (k + 1) w3 :=
  ⟨_, hown, by rw [hst]; exact hF.put kS_inj kS_is (by have := keyB_size hk; unfold okS maxLen; omega) c, E⟩
set_option maxRecDepth 10000 in
set_option maxHeartbeats 1000000 in
theorem pairs_fn (v : Value) (l : List Int) (w : World) (hv : Seg w v 1 l.length (cI l)) (hb : ∀ z ∈ l, -9223372036854775808 ≤ z ∧ z ≤ 9223372036854775807) :
    Calls Tryz.prog 49 #[v] w fun e w' => ∃ v' P, e = .returned v' ∧ StoreOk P ∧ P.length ≤ 30 ∧ (∀ x, valP P x = (pF l (min l.length 30) x).getD 0) ∧ w'.ownsRow w.heap.size 33 2 v' P.length (cP P) ∧ Ext w w' := by
  obtain ⟨h0, a, cap, rfl, h1, h2, h3⟩ := hv
  unfold maxLen at h2
  have hmm := @run_makeMap Tryz.prog
  have b0 := World.ownsMap_made w Tryz.prog 9 (plainElem (H := Unit) Tryz.prog 3)
  have E0 := (Ext.refl w).alloc (.map #[] 0)
  go_enter Tryz.func49, Tryz.ntmps49
  obtain ⟨N, hN, hN1, hN2, hNN0⟩ : ∃ N : Nat, min (l.length : Int) 30 = (N : Int) ∧ N ≤ l.length ∧ N ≤ 30 ∧ N = min l.length 30 := ⟨min l.length 30, by omega, by omega, by omega, rfl⟩
  have hNN := hid hNN0
  clear hNN0
  have hN3 : ((N : Int)).toNat = N := by omega
  have hN4 : max (N : Int) 0 = (N : Int) := by omega
  go_wp2
  try simp only [hN, hN3, hN4]
  clear hN hN3 hN4
  go_loopw [4, 5, 13] (fun _ _ i wr => ∃ k : Nat, k ≤ N ∧ i = .int .i64 k ∧ PRel2 w l k wr) (fun _ _ i _ => N - (intOf i).toNat)
  case atStart => exact ⟨0, Nat.zero_le _, rfl, _, b0, MapF.empty, E0⟩
  case round =>
    clear b0 E0 hmm
    obtain ⟨k, hk, rfl, D, hown, hF, E⟩ := hrel
    by_cases hlt : k < N
    · obtain ⟨b, off, rfl, hc⟩ := h3 (by omega)
      have c0 := E.cell (hc k _ (cI_at0 l k (by omega)))
      clear hc h3
      have ka := keyOf_is k
      have g1 := wi_lo (k := l[k]) (n := 41) (by omega)
      have g2 := wi_hi (k := l[k]) (n := 41) (by omega)
      go_wp2_with fail
      refine (kKey_any _ _).mono ?_
      rintro e w1 ⟨rfl, E1⟩
      go_wp2_with fail
      refine (within_any _ _ _ (by omega) (by omega)).mono ?_
      rintro e w2 ⟨rfl, rfl⟩
      have hst := pF_step l (show k < l.length by omega)
      generalize keyOf k = key at ka hst ⊢
      generalize wi l[k] 41 = q at g1 g2 hst ⊢
      have HST := hid hst
      clear hst
      have hown1 := ownsMap_ext hown E1
      have hwf : (Lit.int .i64 (q - 20)).wf = true := WalkArith.wf_i64 (by omega)
      have hkey := WideMaps.keyOf_string_mk Tryz.underlying9 (P := Tryz.prog) (k := 9) (s := key) (by have := keyB_size ka.1; unfold maxLen; omega)
      go_wp2_with (first
        | (at_mapUpdate; refine wpList_mapUpdate_own _ rfl _ _ _ 152 rfl 9 3 lawS Tryz.underlying152 _ w.heap.size k D rfl hown1 (by unfold maxLen; omega) _ _ (kS key) rfl rfl hkey (dI (q - 20)) [] (plainElem_int Tryz.underlying3 hwf) ?_; intro w3 hown3 hg3))
      go_roundw
      case rel => exact ⟨k + 1, by omega, by go_num, prel2_put hF HST.out ka.1 (by omega) (by omega) hown3 ((E.trans E1).grown hg3 (fun j hj => by injection hj with hj; omega))⟩
      case measure => simp [intOf]; omega
    · go_wp2_with fail
      refine (rlist_any w.heap.size k D (pF l k) _ hown hF (by omega)).mono ?_
      rintro e w2 ⟨v', P, rfl, r1, r2, r3, r4, r5, E2⟩
      go_wp2
      go_ret
      exact ⟨_, P, rfl, pf_store (pF_ok l k) r1 r2 r3, by omega, fun x => by rw [r3 x, show k = min l.length 30 by have := hNN.out; omega], own_base r5 E.size', E.trans E2⟩
end Go.Proofs.YtimchedebcoohaaGreat

/- Contracts and lemmas for the proofs of this seat; each theorem states its own conditions. -/
namespace Go.Proofs.YtimchedebcoohaaGreat
open Go.RowKit
end Go.Proofs.YtimchedebcoohaaGreat

/- Contracts and lemmas for the proofs of this seat; each theorem states its own conditions. -/
namespace Go.Proofs.YtimchedebcoohaaGreat
open Go.RowKit
/-! copies that go on, each in its own time -/
def KD (c : Cop) (X : List Ent) (n : Nat) (d : Nat → Nat) : List Cop := (List.range n).map fun i => goC c X (d i)
theorem kd_len (c : Cop) (X : List Ent) (n : Nat) (d : Nat → Nat) : (KD c X n d).length = n := by simp [KD]
theorem kd_at (c : Cop) (X : List Ent) {n : Nat} (d : Nat → Nat) {i : Nat} (hi : i < n) : (KD c X n d).getD i copZ = goC c X (d i) := by simp [KD, hi]
def upD (d : Nat → Nat) (i m : Nat) : Nat → Nat := fun j => if j = i then m else d j
theorem kd_set (c : Cop) (X : List Ent) (n : Nat) (d : Nat → Nat) (i m : Nat) : (KD c X n d).set i (goC c X m) = KD c X n (upD d i m) := by
  apply List.ext_getElem?
  intro j
  simp only [KD, List.getElem?_set, List.length_map, List.length_range, List.getElem?_map]
  by_cases hj : j < n
  · by_cases e : i = j
    · subst e; simp [hj, upD]
    · simp [e, hj, upD, show ¬ j = i from fun q => e q.symm]
  · by_cases e : i = j
    · subst e; simp [hj]
    · simp [e, hj]
theorem kd_rep (c : Cop) (X : List Ent) (n : Nat) : List.replicate n c = KD c X n (fun _ => 0) := by
  apply List.ext_getElem?
  intro j
  simp only [KD, List.getElem?_map, List.getElem?_replicate, goC]
  by_cases hj : j < n
  · simp [hj]
  · simp [hj]
theorem equal_Pq (v u : Value) (L : Prs) (w : World) (h : Seg w v 2 L.length (cP L)) (h' : Seg w u 2 L.length (cP L)) :
    Calls Tryz.prog 26 #[v, u] w fun e w' => e = .returned (.bool true) ∧ Ext w w' := by
  have q := equal_Pair v u L L w h h'
  rw [decide_eq_true (rfl : L = L)] at q
  refine q.mono ?_
  rintro e w1 ⟨rfl, n, rfl⟩
  exact ⟨rfl, (Ext.refl w).drewN n⟩
theorem goC_one {c : Cop} {X : List Ent} {d : Nat} (h : d < X.length) : doE (goC c X d) X[d] = goC c X (d + 1) := by
  rw [goC, show X.getD d entZ = X[d] by simp [h]]
theorem goC_le {N : Nat} {c : Cop} (h : CopOk N c) (hd : c.dn = 0) {X : List Ent} (hX : ∀ x ∈ X, EntOk x) (hl : X.length ≤ 100) (hN : N ≤ 30) {d : Nat} (k : d ≤ X.length) : CopOk N (goC c X d) ∧ (goC c X d).dn = d ∧ (goC c X d).S.length ≤ 4000 ∧ (goC c X d).ok.length ≤ 100 ∧ N ≤ 400000 := by
  have h1 := goC_ok h hX d k
  have h2 := goC_dn c X d
  have h3 := h1.len
  have h4 := h1.okl
  refine ⟨h1, by omega, by omega, by omega, by omega⟩
theorem EntsSeg.addr {w : World} {a : Option Addr} {c : Nat} {X : List Ent} (h : EntsSeg w (.slice a X.length c) X) (hp : 0 < X.length) : ∃ b off, a = some ⟨b, off, none⟩ ∧ X.length ≤ c ∧ c ≤ 9223372036854775807 := by
  obtain ⟨es, h1, h2, h3⟩ := h
  obtain ⟨b, off, e, _, q1, q2, _⟩ := seg_cells h2 hp
  unfold maxLen at q2
  exact ⟨b, off, e, q1, q2⟩
theorem CopG.far' {w w' : World} {F : Nat → Prop} {b : Nat} {A : CopA} {cl : List (List Bat)} {op : List Bat} {K : List Cop} (h : CopG w F b A cl op K) {g : Nat} {cs : Array Value} {t : TypeId} {fr : Nat × Nat} (hb : w.heap[g]? = some (.cells cs t fr)) (ht : t ∉ cTy ∧ 37 ≠ t ∧ 9 ≠ t ∧ 33 ≠ t) (hg : w.grownBy w' (some g)) : CopG w' F b A cl op K := by
  have hm : ∀ e, e ∈ cTy → e ≠ t := fun e he q => ht.1 (q ▸ he)
  have hm2 : ∀ {k : Nat} {cs' : Array Value} {e : TypeId} {fr' : Nat × Nat}, w.heap[k]? = some (.cells cs' e fr') → e ∈ cTy → w'.heap[k]? = some (.cells cs' e fr') := fun hk he => grown_heap hg hk (far_ne hb hk (fun q => hm _ he q.symm))
  exact { h with
    box := hm2 h.box (by decide)
    mer := h.mer.far hb ⟨fun q => ht.1 (List.mem_append.2 (.inl q)), ht.2.1, ht.2.2.1⟩ (.inl (hm _ (by decide))) hg
    lrow := far_own hb hg h.lrow (.inl (hm _ (by decide)))
    drow := hm2 h.drow (by decide)
    orow := hm2 h.orow (by decide)
    parts := fun i hi => (h.parts i hi).far hb (fun e => by
      have a := (h.parts i hi).box
      rw [← e, hb] at a; injection a with a; injection a with _ a; exact hm 189 (by decide) a.symm) ht.2.2.1 ht.2.2.2 (.inl (hm _ (by decide))) hg
    oks := fun i hi => far_own hb hg (h.oks i hi) (.inl (hm _ (by decide)))
    ty := fun k hk => by
      obtain ⟨cs', e, hc, hx⟩ := h.ty k hk
      exact ⟨cs', e, hm2 hc hx, hx⟩ }
theorem CopSt.far {w w' : World} {F : Nat → Prop} {b : Nat} {cl : List (List Bat)} {op : List Bat} {K : List Cop} (h : CopSt w F b cl op K) {g : Nat} {cs : Array Value} {t : TypeId} {fr : Nat × Nat} (hb : w.heap[g]? = some (.cells cs t fr)) (ht : t ∉ cTy ∧ 37 ≠ t ∧ 9 ≠ t ∧ 33 ≠ t) (hg : w.grownBy w' (some g)) : CopSt w' F b cl op K := by
  obtain ⟨A, h⟩ := h
  exact ⟨A, h.far' hb ht hg⟩
theorem EntsK.far {w w' : World} {F : Nat → Prop} {v : Value} {X : List Ent} (h : EntsK w F v X) {g : Nat} {cs : Array Value} {t : TypeId} {fr : Nat × Nat} (hb : w.heap[g]? = some (.cells cs t fr)) (ht : 94 ≠ t ∧ 37 ≠ t ∧ 9 ≠ t ∧ 3 ≠ t) (hg : w.grownBy w' (some g)) : EntsK w' F v X := by
  obtain ⟨es, h1, h2, h3, h4⟩ := h
  exact ⟨es, ⟨h1.1, fun j e x p q => by
    have s := h1.2 j e x p q
    exact ⟨far_own hb hg s.ops (.inl ht.2.1), s.im, far_own hb hg s.cuts (.inl ht.2.2.1), far_own hb hg s.own (.inl ht.2.2.2)⟩⟩, far_own hb hg h2 (.inl ht.1), h3, h4⟩
/-- one entry of them -/
theorem EntsK.at {w : World} {F : Nat → Prop} {b off c : Nat} {X : List Ent} (h : EntsK w F (.slice (some ⟨b, off, none⟩) X.length c) X) {j : Nat} (hj : j < X.length) :
    ∃ e : EV, EntSt 0 w e X[j] ∧ w.cell? ⟨b, off + j * 4, none⟩ = some e.1 ∧ w.cell? ⟨b, off + j * 4 + 1, none⟩ = some (.bool e.2.1) ∧ w.cell? ⟨b, off + j * 4 + 2, none⟩ = some e.2.2.1 ∧ w.cell? ⟨b, off + j * 4 + 3, none⟩ = some e.2.2.2 := by
  obtain ⟨es, h1, h2, _, _⟩ := h
  obtain ⟨b', off', e, _, _, _, hc⟩ := seg_cells (own_seg h2) (by omega)
  injection e with e; injection e with e1 e2
  subst e1; subst e2
  have hje : j < es.length := by have := h1.1; omega
  obtain ⟨x0, x1, x2, x3⟩ := cEn_at es hje
  exact ⟨es[j], h1.2 j _ _ (List.getElem?_eq_getElem hje) (List.getElem?_eq_getElem hj), hc _ _ x0, hc _ _ x1, hc _ _ x2, hc _ _ x3⟩
/-- what the law itself does, entry by entry -/
structure OneS (w : World) (B bM : Nat) (sv ov u1 u2 : Value) (c : Cop) : Prop where
  s : w.ownsRow 0 33 2 sv c.S.length (cP c.S)
  box : w.heap[bM]? = some (.cells #[u1, u2] 26 (0, 0))
  cuts : w.ownsRow 0 9 1 u1 c.C.length (cS c.C)
  own : w.ownsRow 0 3 1 u2 c.O.length (cI c.O)
  ok : w.ownsRow B 4 1 ov c.ok.length (c.ok.map Value.bool)
theorem OneS.ext {w w' : World} {B bM : Nat} {sv ov u1 u2 : Value} {c : Cop} (h : OneS w B bM sv ov u1 u2 c) (E : Ext w w') : OneS w' B bM sv ov u1 u2 c := ⟨own_ext h.s E, E.heap h.box, own_ext h.cuts E, own_ext h.own E, own_ext h.ok E⟩
theorem OneS.is {w : World} {B bM : Nat} {sv ov u1 u2 : Value} {c : Cop} (h : OneS w B bM sv ov u1 u2 c) : IsMap w (.agg #[u1, u2]) c.C c.O := ⟨_, _, rfl, own_seg h.cuts, own_seg h.own⟩
/-- a map: it stands from now on -/
theorem OneS.map {w : World} {B bM : Nat} {sv ov u1 u2 v1 v2 : Value} {c : Cop} (h : OneS w B bM sv ov u1 u2 c) {C : List ByteArray} {O : List Int} (h1 : w.ownsRow 0 9 1 v1 C.length (cS C)) (h2 : w.ownsRow 0 3 1 v2 O.length (cI O)) :
    OneS ((w.setCell ⟨bM, 0, none⟩ v1).setCell ⟨bM, 1, none⟩ v2) B bM sv ov v1 v2 ⟨C, O, c.S, c.dn, c.ok⟩ := by
  have hb := h.box
  have hb1 := blk2_set0 hb v1
  have k : ∀ {B e sz n : Nat} {v : Value} {xs : List Value}, w.ownsRow B e sz v n xs → e ≠ 26 → ((w.setCell ⟨bM, 0, none⟩ v1).setCell ⟨bM, 1, none⟩ v2).ownsRow B e sz v n xs := fun ho he => by
    have o1 := own_set_other (p := ⟨bM, 0, none⟩) ho (own_ne ho hb he) v1
    exact own_set_other o1 (own_ne o1 hb1 he) v2
  exact ⟨k h.s (by decide), blk2_set2 hb, k h1 (by decide), k h2 (by decide), k h.ok (by decide)⟩
end Go.Proofs.YtimchedebcoohaaGreat

/- Contracts and lemmas for the proofs of this seat; each theorem states its own conditions. -/
namespace Go.Proofs.YtimchedebcoohaaGreat
open Go.RowKit
/-! copies that go on: their contracts -/
theorem kd_congr (c : Cop) (X : List Ent) {n : Nat} {d d' : Nat → Nat} (h : ∀ i, i < n → d i = d' i) : KD c X n d = KD c X n d' := by
  unfold KD
  exact List.map_congr_left fun i hi => by rw [h i (List.mem_range.1 hi)]
def dA (j k : Nat) : Nat → Nat := fun q => if q = 0 then j else k
theorem dA_0 (c : Cop) (X : List Ent) (n : Nat) : KD c X n (fun _ => 0) = KD c X n (dA 0 0) := kd_congr c X fun i _ => by unfold dA; split <;> rfl
theorem dA_s0 (c : Cop) (X : List Ent) (j k m : Nat) : KD c X 2 (upD (dA j k) 0 m) = KD c X 2 (dA m k) := kd_congr c X fun i hi => by
  unfold upD dA
  split <;> rfl
theorem dA_s1 (c : Cop) (X : List Ent) (j k m : Nat) : KD c X 2 (upD (dA j k) 1 m) = KD c X 2 (dA j m) := kd_congr c X fun i hi => by
  have : i = 0 ∨ i = 1 := by omega
  rcases this with rfl | rfl <;> simp [upD, dA]
/-- all that a law keeps of copies of one input -/
structure OneX (c : Cop) (X : List Ent) : Prop where
  ok : CopOk 30 c
  dn : c.dn = 0
  x : ∀ x ∈ X, EntOk x
  len : X.length ≤ 100
theorem step_kd {c : Cop} {X : List Ent} (hX : OneX c X) {n : Nat} {d : Nat → Nat} {w : World} {F : Nat → Prop} {b : Nat} (h : CopSt w F b [[X]] [[]] (KD c X n d)) {i : Nat} (hi : i < n) (hd : d i < X.length) :
    Calls Tryz.prog 52 #[.pointer (some ⟨b, 0, none⟩), .int .i64 i] w fun e w' => e = .returned (.tuple #[.bool (okE (goC c X (d i)) X[d i]), .int .i64 0]) ∧ ∃ F', CopSt w' F' b [[X]] [[]] (KD c X n (upD d i (d i + 1))) ∧ Kp F w w' F' := by
  obtain ⟨g1, g2, _, _, g5⟩ := goC_le hX.ok hX.dn hX.x hX.len (by omega) (show d i ≤ X.length by omega)
  have ST := cstep_ok (i := i) h (by rw [kd_len]; exact hi) (by rw [kd_at _ _ _ hi]; exact g1) g5 (LogK.one hX.x hX.len) (x := X[d i]) (by rw [log_one, kd_at _ _ _ hi, g2]; exact List.getElem?_eq_getElem hd)
  rw [kd_at _ _ _ hi] at ST
  unfold stepK at ST
  rw [kd_at _ _ _ hi, goC_one hd, kd_set] at ST
  exact ST
theorem all_kd {c : Cop} {X : List Ent} (hX : OneX c X) {n : Nat} {d : Nat → Nat} {w : World} {F : Nat → Prop} {b : Nat} (h : CopSt w F b [[X]] [[]] (KD c X n d)) {i : Nat} (hi : i < n) (hd : d i ≤ X.length) :
    Calls Tryz.prog 53 #[.pointer (some ⟨b, 0, none⟩), .int .i64 i] w fun e w' => ∃ v', e = .returned (.tuple #[v', .int .i64 0]) ∧ w'.ownsRow w.heap.size 33 2 v' (goC c X (d i)).S.length (cP (goC c X (d i)).S) ∧ Ext w w' := by
  obtain ⟨g1, g2, g3, _, g5⟩ := goC_le hX.ok hX.dn hX.x hX.len (by omega) hd
  obtain ⟨A, hG⟩ := h
  have AL := call_ok hG (i := i) (by rw [kd_len]; exact hi) (N := 30) (by rw [kd_at _ _ _ hi]; exact g1) (by rw [kd_at _ _ _ hi]; omega)
  simp only [kd_at _ _ _ hi] at AL
  exact AL
theorem done_kd {c : Cop} {X : List Ent} (hX : OneX c X) {n : Nat} {d : Nat → Nat} {w : World} {F : Nat → Prop} {b : Nat} (h : CopSt w F b [[X]] [[]] (KD c X n d)) {i : Nat} (hi : i < n) (hd : d i ≤ X.length) :
    Calls Tryz.prog 54 #[.pointer (some ⟨b, 0, none⟩), .int .i64 i] w fun e w' => ∃ v', e = .returned (.tuple #[v', .int .i64 0]) ∧ w'.ownsRow w.heap.size 4 1 v' (goC c X (d i)).ok.length ((goC c X (d i)).ok.map Value.bool) ∧ Ext w w' := by
  obtain ⟨g1, g2, g3, g4, g5⟩ := goC_le hX.ok hX.dn hX.x hX.len (by omega) hd
  obtain ⟨A, hG⟩ := h
  have DN := cdone_ok hG (i := i) (by rw [kd_len]; exact hi) (by rw [kd_at _ _ _ hi]; omega)
  simp only [kd_at _ _ _ hi] at DN
  exact DN
theorem part_kd {c : Cop} {X : List Ent} (hX : OneX c X) {n : Nat} {d : Nat → Nat} {w : World} {F : Nat → Prop} {b : Nat} (h : CopSt w F b [[X]] [[]] (KD c X n d)) {i : Nat} (hi : i < n) (hd : d i ≤ X.length) (j : Nat) (hj : j < 4) :
    Calls Tryz.prog 57 #[.pointer (some ⟨b, 0, none⟩), .int .i64 i, .int .i64 j] w fun e w' => ∃ v', e = .returned (.tuple #[v', .int .i64 0]) ∧ w'.ownsRow w.heap.size 33 2 v' (parP (goC c X (d i)).C (goC c X (d i)).O (goC c X (d i)).S j).length (cP (parP (goC c X (d i)).C (goC c X (d i)).O (goC c X (d i)).S j)) ∧ Ext w w' := by
  obtain ⟨g1, g2, g3, g4, g5⟩ := goC_le hX.ok hX.dn hX.x hX.len (by omega) hd
  obtain ⟨A, hG⟩ := h
  have PT := cpart_ok hG (i := i) (by rw [kd_len]; exact hi) j hj (by rw [kd_at _ _ _ hi]; omega)
  simp only [kd_at _ _ _ hi] at PT
  exact PT
theorem take_kd {c : Cop} {X : List Ent} (hX : OneX c X) {n : Nat} {d : Nat → Nat} {w : World} {F : Nat → Prop} {b : Nat} (h : CopSt w F b [[X]] [[]] (KD c X n d)) {i j : Nat} (hi : i < n) (hj : j < n) (hd : d i ≤ d j) (hl : d j ≤ X.length) :
    Calls Tryz.prog 61 #[.pointer (some ⟨b, 0, none⟩), .int .i64 i, .int .i64 j] w fun e w' => e = .returned (.int .i64 0) ∧ ∃ F', CopSt w' F' b [[X]] [[]] (KD c X n (upD d i (d j))) ∧ Kp F w w' F' := by
  obtain ⟨g1, g2, g3, g4, g5⟩ := goC_le hX.ok hX.dn hX.x hX.len (by omega) hl
  obtain ⟨_, g2', _, _, _⟩ := goC_le hX.ok hX.dn hX.x hX.len (by omega) (show d i ≤ X.length by omega)
  obtain ⟨A, hG⟩ := h
  have hl2 := hX.len
  have TK := ctake_ok hG (i := i) (j := j) (by rw [kd_len]; exact hi) (by rw [kd_len]; exact hj) (N := 30) (by rw [kd_at _ _ _ hj]; exact g1) g5 (by rw [kd_at _ _ _ hj, kd_at _ _ _ hi, g2, g2']; exact hd) (by rw [kd_at _ _ _ hj, g2]; omega)
  unfold takeK at TK
  rw [kd_at _ _ _ hj, kd_set] at TK
  exact TK
theorem wait_kd {c : Cop} {X : List Ent} (hX : OneX c X) {n : Nat} {d : Nat → Nat} {w : World} {F : Nat → Prop} {b : Nat} (h : CopSt w F b [[X]] [[]] (KD c X n d)) {i j : Nat} (hi : i < n) (hj : j < n) (hd : d j < d i) (hl : d i ≤ X.length) :
    Calls Tryz.prog 61 #[.pointer (some ⟨b, 0, none⟩), .int .i64 i, .int .i64 j] w fun e w' => e = .returned (.int .i64 6) ∧ Ext w w' := by
  obtain ⟨_, g2, _, _, _⟩ := goC_le hX.ok hX.dn hX.x hX.len (by omega) hl
  obtain ⟨_, g2', _, _, _⟩ := goC_le hX.ok hX.dn hX.x hX.len (by omega) (show d j ≤ X.length by omega)
  obtain ⟨A, hG⟩ := h
  have hl2 := hX.len
  exact ctake_wait hG (by rw [kd_len]; exact hi) (by rw [kd_len]; exact hj) (by rw [kd_at _ _ _ hj, kd_at _ _ _ hi, g2, g2']; exact hd) (by rw [kd_at _ _ _ hi, g2]; omega)
end Go.Proofs.YtimchedebcoohaaGreat
