/- Contracts and lemmas for the proof of TopLog; each theorem states its own conditions. -/
import Derived.Test.YtddghaoejnbkaaaGreatDoorQTopLogbu
import Derived.Test.YtddghaoejnbkaaaGreatDoorQTopLogbt
set_option linter.unusedVariables false
set_option linter.unusedSimpArgs false
/- Contracts and lemmas for the proofs of this seat; each theorem states its own conditions. -/
namespace Go.Proofs.YtddghaoejnbkaaaGreatDoor
open Go.RowKit
/-! copies whose merge stands still, beside copies that were made later -/
theorem kp_chain {T G G' : Nat → Prop} {w0 wr w' : World} (h : Kp T w0 wr (fun q => w0.heap.size ≤ q)) (k : Kp G wr w' G') (hG : ∀ q, q < w0.heap.size → G q → T q) : Kp T w0 w' (fun q => w0.heap.size ≤ q) := by
  have hs := h.size
  obtain ⟨⟨h1, h2, h3, h4⟩, h5, h6⟩ := h
  obtain ⟨⟨k1, k2, k3, k4⟩, k5, k6⟩ := k
  exact ⟨⟨k1.trans h1, k2.trans h2, k3.trans h3, Nat.le_trans h4 k4⟩, fun i hi hT => (k5 i (by omega) (fun q => hT (hG i hi q))).trans (h5 i hi hT), fun i hi => .inr hi⟩
/-- copies without their merge -/
theorem CopG.still {w : World} {F : Nat → Prop} {b : Nat} {A : CopA} {cl : List (List Bat)} {op : List Bat} {K : List Cop} (h : CopG w F b A cl op K) (Z : Nat → Prop) (far : ∀ i, i < K.length → ∀ k, (A.vs i).ownBlock = some k → ¬ Z k) (zd : Z A.bd) (zb : ∀ k, Z k → k < w.heap.size) : CopG0 w (fun q => F q ∧ ¬ A.S q) b { A with Z := Z } cl op K := by
  have ty := h.mer.ty
  have no : ∀ {k : Nat} {cs : Array Value} {t : TypeId} {fr : Nat × Nat}, w.heap[k]? = some (.cells cs t fr) → t ∉ mTy → ¬ A.S k := fun q ht => tyS_not ty q ht
  exact ⟨h.k0, h.k4, h.box, h.mer, h.lrow, h.drow, h.orow, h.parts, h.oks, far, h.okz, h.btz, zd, zb, h.zl, fun k cs fr hk hc => h.fi k cs fr hk.1 hc, fun k hk => h.ty k hk.1, ⟨h.fb, no h.box (by decide)⟩, ⟨h.fd, no h.drow (by decide)⟩, ⟨h.fo, no h.orow (by decide)⟩, fun k q => ⟨h.fl k q, ty.off h.lrow (by decide) k q⟩, fun i hi => ⟨h.ft i hi, no (h.parts i hi).box (by decide)⟩, fun i hi k q => ⟨h.fv i hi k q, ty.off (h.oks i hi) (by decide) k q⟩⟩
theorem CopG0.full {w : World} {F : Nat → Prop} {b : Nat} {A : CopA} {cl : List (List Bat)} {op : List Bat} {K : List Cop} (h : CopG0 w F b A cl op K) : CopG w (fun q => F q ∨ A.S q) b A cl op K := by
  have ty := h.mer.ty
  refine ⟨⟨h.k0, h.k4, h.box, h.mer, h.lrow, h.drow, h.orow, h.parts, h.oks, h.far, h.okz, h.btz, h.zd, h.zb, h.zl, fun k cs fr hk hc => ?_, fun k hk => ?_, .inl h.fb, .inl h.fd, .inl h.fo, fun k q => .inl (h.fl k q), fun i hi => .inl (h.ft i hi), fun i hi k q => .inl (h.fv i hi k q)⟩, fun k q => .inr q⟩
  · rcases hk with a | a
    · exact h.fi k cs fr a hc
    · exact absurd a (tyS_not ty hc (by decide))
  · rcases hk with a | a
    · exact h.ty k a
    · obtain ⟨cs, t, hc, hm⟩ := ty k a
      exact ⟨cs, t, hc, List.mem_append.2 (.inl hm)⟩
/-- copies, when other ones turn, and what their merge is then -/
theorem CopG0.besideM {w w' : World} {F F' G : Nat → Prop} {b : Nat} {A : CopA} {cl : List (List Bat)} {op : List Bat} {K : List Cop} (h : CopG0 w G b A cl op K) (ty : TyS w F cTy) {d : Nat} (fi : ∀ q cs fr, F q → w.heap[q]? = some (.cells cs 3 fr) → q = d) (hz : A.Z d) (dis : ∀ q, G q → ¬ F q) (k : Kp F w w' F') (hm : MergeSt A.eB w' A.S A.bm cl op) : CopG0 w' G b A cl op K := by
  have hp : ∀ {q : Nat} {o : Obj}, w.heap[q]? = some o → G q → w'.heap[q]? = some o := fun a b => k.heap a (dis _ b)
  have ow : ∀ {B e sz n : Nat} {v : Value} {xs : List Value}, w.ownsRow B e sz v n xs → InS G v → w'.ownsRow B e sz v n xs := fun a b => k.own a (fun q hq => dis q (b q hq))
  exact { h with
    box := hp h.box h.fb
    mer := hm
    zb := fun q hq => Nat.lt_of_lt_of_le (h.zb q hq) k.size
    lrow := ow h.lrow h.fl
    drow := hp h.drow h.fd
    orow := hp h.orow h.fo
    parts := fun i hi => by
      have p := h.parts i hi
      exact ⟨hp p.box (h.ft i hi), k.own p.cuts (ty.off p.cuts op_cTy.2.1), k.own p.owners (fun q hq hF => by
        obtain ⟨cur, hc⟩ := own_some p.owners hq
        have e := fi q _ _ hF hc
        exact h.far i hi q hq (e ▸ hz)), fun j hj => k.own (p.rows j hj) (ty.off (p.rows j hj) op_cTy.2.2.1)⟩
    oks := fun i hi => ow (h.oks i hi) (h.fv i hi)
    fi := fun q cs fr hq hc => by
      obtain ⟨cs', e, hc', _⟩ := h.ty q hq
      rw [hp hc' hq] at hc
      injection hc with hc; injection hc with h3 h4 h5
      subst h3; subst h4; subst h5
      exact h.fi q _ _ hq hc'
    ty := fun q hq => by
      obtain ⟨cs', e, hc, hx⟩ := h.ty q hq
      exact ⟨cs', e, hp hc hq, hx⟩ }
/-- copies that have a log, beside younger ones -/
structure Sta (w w0 wr : World) (T F G : Nat → Prop) (b g : Nat) (A B : CopA) (Y : List Ent) (Ka : List Cop) (cl : List (List Bat)) (op : List Bat) (Kb : List Cop) : Prop where
  one : CopG0 wr F b A [[Y]] [[]] Ka
  two : CopG wr G g B cl op Kb
  m0 : MergeSt A.eB w0 A.S A.bm [[Y]] [[]]
  tT : TyS w0 T cTy
  tI : ∀ q cs fr, T q → w0.heap[q]? = some (.cells cs 3 fr) → q < A.eB
  tS : ∀ q, A.S q → ¬ T q
  kp : Kp T w0 wr (fun q => w0.heap.size ≤ q)
  sF : ∀ q, q < w0.heap.size → F q → T q
  gG : ∀ q, G q → w0.heap.size ≤ q
  dis : ∀ q, F q → ¬ G q
  za : A.Z B.bd
  zb : B.Z A.bd
  lb : A.bd < B.eB
  E : Ext w wr
  low : ∀ q, F q → w.heap.size ≤ q
  lw : w.heap.size ≤ w0.heap.size
section
variable {w w0 wr : World} {T F G : Nat → Prop} {b g : Nat} {A B : CopA} {Y : List Ent} {Ka : List Cop} {cl : List (List Bat)} {op : List Bat} {Kb : List Cop}
theorem Sta.ext (h : Sta w w0 wr T F G b g A B Y Ka cl op Kb) {w' : World} (E : Ext wr w') : Sta w w0 w' T F G b g A B Y Ka cl op Kb :=
  { h with one := h.one.ext E, two := h.two.ext E, kp := kp_chain h.kp (Kp.of_ext (S := fun _ => False) E) (fun _ _ q => q.elim), E := h.E.trans E }
/-- the older ones turn -/
theorem Sta.turnA (h : Sta w w0 wr T F G b g A B Y Ka cl op Kb) {w' : World} {F' : Nat → Prop} {Ka' : List Cop} (t : CopE0 A w' F' b [[Y]] [[]] Ka') (k : Kp F wr w' F') : ∃ A', Sta w w0 w' T F' G b g A' B Y Ka' cl op Kb := by
  obtain ⟨A', a, z1, z2, z3, z4, z5⟩ := t
  have hs := h.kp.size
  obtain ⟨E', low'⟩ := k.low h.E h.low
  refine ⟨A', a, h.two.beside h.one.ty h.one.fi h.zb h.lb (fun q hg hf => h.dis q hf hg) k, by rw [z2, z4, z5]; exact h.m0, h.tT, by rw [z2]; exact h.tI, by rw [z4]; exact h.tS, kp_chain h.kp k h.sF, fun q hq hf => ?_, h.gG, fun q hf hg => ?_, by rw [z1]; exact h.za, by rw [z3]; exact h.zb, by rw [z3]; exact h.lb, E', low', h.lw⟩
  · rcases k.2.2 q hf with a | a
    · exact h.sF q hq a
    · omega
  · rcases k.2.2 q hf with a | a
    · exact h.dis q a hg
    · have := h.two.ty.lt hg; omega
/-- the younger ones turn -/
theorem Sta.turnB (h : Sta w w0 wr T F G b g A B Y Ka cl op Kb) {w' : World} {G' : Nat → Prop} {cl2 : List (List Bat)} {op2 : List Bat} {Kb' : List Cop} (t : CopE B w' G' g cl2 op2 Kb') (k : Kp G wr w' G') : ∃ B', Sta w w0 w' T F G' b g A B' Y Ka cl2 op2 Kb' := by
  obtain ⟨B', a, z1, z2, z3⟩ := t
  have hs := h.kp.size
  have kc := kp_chain h.kp k (fun q hq hg => by have := h.gG q hg; omega)
  have lw := h.lw
  refine ⟨B', h.one.besideM h.two.ty h.two.fi h.za h.dis k (h.m0.beside h.tT h.tI h.tS kc), a, h.m0, h.tT, h.tI, h.tS, kc, h.sF, fun q hg => ?_, fun q hf hg => ?_, by rw [z3]; exact h.za, by rw [z1]; exact h.zb, by rw [z2]; exact h.lb, (k.low h.E (fun q hg => by have := h.gG q hg; omega)).1, h.low, h.lw⟩
  · rcases k.2.2 q hg with a | a
    · exact h.gG q a
    · omega
  · rcases k.2.2 q hg with a | a
    · exact h.dis q hf a
    · have := h.one.ty.lt hf; omega
end
theorem Sta.start {w w0 w1 : World} {F G : Nat → Prop} {b g : Nat} {A : CopA} {Y : List Ent} {Ka : List Cop} {c' : Cop} (h : CopG w0 F b A [[Y]] [[]] Ka) (h' : CopN w0 w1 G g 1 1 c') (hG : ∀ q, G q → w0.heap.size ≤ q) (E1 : Ext w0 w1) (Ew : Ext w w0) (hF : ∀ q, F q → w.heap.size ≤ q) :
    ∃ T A' B, Sta w w0 w1 T T G b g A' B Y Ka [[]] [[]] [c'] := by
  obtain ⟨B, d, z, zl⟩ := h'
  have la := h.ty.lt h.fd
  have lB := d.ty.lt d.fd
  have gB := hG _ d.fd
  have s1 := E1.size'
  have st := (h.ext E1).still (fun k => k = A.bd ∨ k = B.bd) (fun i hi k hk hz => by
    rcases hz with e | e
    · exact h.farD hi (by rw [hk, e])
    · have := ((h.parts i hi).owners.lt k hk).2
      omega) (.inl rfl) (fun k hz => by rcases hz with e | e <;> omega)
  refine ⟨_, _, B, st, d, h.mer, fun k hk => h.ty k hk.1, fun q cs fr hq hc => by rw [h.fi q cs fr hq.1 hc]; exact h.zl, fun q hq ht => ht.2 hq, (Kp.of_ext E1).wide (fun q hq => .inr hq), fun q _ hq => hq, hG, fun q hf hg => ?_, .inr rfl, z _ la, Nat.lt_of_lt_of_le la zl, Ew.trans E1, fun q hq => hF q hq.1, Ew.size'⟩
  have := h.ty.lt hf.1
  have := hG q hg
  omega
theorem step_kg0 {c : Cop} {cl : List (List Bat)} {op : List Bat} (hX : OneX' c cl) {n : Nat} {d : Nat → Nat} {w : World} {F : Nat → Prop} {b : Nat} {A : CopA} (h : CopG0 w F b A cl op (KD c (logM cl) n d)) {i : Nat} (hi : i < n) (hd : d i < (logM cl).length) :
    Calls Tryz.prog 17 #[.pointer (some ⟨b, 0, none⟩), .int .i64 i] w fun e w' => e = .returned (.tuple #[.bool (okE (goC c (logM cl) (d i)) (logM cl)[d i]), .int .i64 0]) ∧ ∃ F', CopE0 A w' F' b cl op (KD c (logM cl) n (upD d i (d i + 1))) ∧ Kp F w w' F' := by
  obtain ⟨g1, g2, _, _, g5⟩ := goC_le hX.ok hX.dn hX.log.ok hX.log.len (by omega) (show d i ≤ (logM cl).length by omega)
  have ST := cstep_ok0 (i := i) h (by rw [kd_len]; exact hi) (by rw [kd_at _ _ _ hi]; exact g1) g5 hX.log (x := (logM cl)[d i]) (by rw [kd_at _ _ _ hi, g2]; exact List.getElem?_eq_getElem hd)
  rw [kd_at _ _ _ hi] at ST
  unfold stepK at ST
  rw [kd_at _ _ _ hi, goC_one hd, kd_set] at ST
  refine ST.mono ?_
  rintro e w' ⟨h1, F', h2, h3, _⟩
  exact ⟨h1, F', h2, h3⟩
/-- entries that were there before what turns -/
theorem ents_beside {w w1 : World} {F : Nat → Prop} {v : Value} {es : List EV} {X : List Ent} {B B' : Nat} (h1 : EntsSt B w1 es X) (h2 : w1.ownsRow B' 42 4 v X.length (cEn es)) (E : Ext w1 w) (hF : ∀ q, F q → w1.heap.size ≤ q) : EntsK w F v X := by
  refine ⟨es, (h1.ext E).low (Nat.zero_le _), own_base (own_ext h2 E) (Nat.zero_le _), fun k hk hf => ?_, fun e he k hk hf => ?_⟩
  · have := (h2.lt k hk).2
    have := hF k hf
    omega
  · obtain ⟨j, hj, rfl⟩ := List.mem_iff_getElem.1 he
    have hl := h1.1
    have s := h1.2 j es[j] (X[j]'(by omega)) (List.getElem?_eq_getElem hj) (List.getElem?_eq_getElem (by omega))
    have := (s.own.lt k hk).2
    have := hF k hf
    omega
end Go.Proofs.YtddghaoejnbkaaaGreatDoor

/- Contracts and lemmas for the proofs of this seat; each theorem states its own conditions. -/
namespace Go.Proofs.YtddghaoejnbkaaaGreatDoor
open Go.RowKit
/-! TopLog: where its loops stand -/
/-- the log is written, and comes in -/
def TLa (w wr : World) (F : Nat → Prop) (b : Nat) (c : Cop) (X : List Ent) (k : Nat) (v : Value) : Prop := CopSt wr F b [[]] [(X.take k).map plainE] [c] ∧ EntsK wr F v X ∧ Ext w wr ∧ ∀ q, F q → w.heap.size ≤ q
/-- what was read comes in at the younger ones -/
def TLb (w w0 : World) (b g : Nat) (c : Cop) (Y Z : List Ent) (j : Nat) (v : Value) (wr : World) : Prop := ∃ T F G A B, Sta w w0 wr T F G b g A B Y [c] [[]] [(Z.take j).map plainE] [c] ∧ EntsK wr G v Z
/-- both go on -/
def TLc (w w0 : World) (b g : Nat) (c : Cop) (Y Z : List Ent) (i j : Nat) (wr : World) : Prop := ∃ T F G A B, Sta w w0 wr T F G b g A B Y (KD c Y 1 fun _ => i) [[Z]] [[]] (KD c Z 1 fun _ => j)
theorem kd_up (c : Cop) (X : List Ent) (d m : Nat) : KD c X 1 (upD (fun _ => d) 0 m) = KD c X 1 fun _ => m := by simp [KD, upD]
theorem step_one0 {c : Cop} {Y : List Ent} (ok : CopOk 30 c) (dn : c.dn = 0) (hY : ∀ y ∈ Y, EntOk y) (hl : Y.length ≤ 100) {w : World} {F : Nat → Prop} {b d : Nat} {A : CopA} {op : List Bat} (h : CopG0 w F b A [[Y]] op (KD c Y 1 fun _ => d)) (hd : d < Y.length) :
    Calls Tryz.prog 17 #[.pointer (some ⟨b, 0, none⟩), .int .i64 0] w fun e w' => e = .returned (.tuple #[.bool (okE (goC c Y d) Y[d]), .int .i64 0]) ∧ ∃ F', CopE0 A w' F' b [[Y]] op (KD c Y 1 fun _ => d + 1) ∧ Kp F w w' F' := by
  have ST := step_kg0 (i := 0) (n := 1) (cl := [[Y]]) (d := fun _ => d) (op := op) ⟨ok, dn, LogK.one hY hl⟩ (by rw [log_one]; exact h) (by omega) (by rw [log_one]; exact hd)
  simp only [log_one, kd_up] at ST
  exact ST
theorem step_oneE {c : Cop} {Y : List Ent} (ok : CopOk 30 c) (dn : c.dn = 0) (hY : ∀ y ∈ Y, EntOk y) (hl : Y.length ≤ 100) {w : World} {F : Nat → Prop} {b d : Nat} {A : CopA} {op : List Bat} (h : CopG w F b A [[Y]] op (KD c Y 1 fun _ => d)) (hd : d < Y.length) :
    Calls Tryz.prog 17 #[.pointer (some ⟨b, 0, none⟩), .int .i64 0] w fun e w' => e = .returned (.tuple #[.bool (okE (goC c Y d) Y[d]), .int .i64 0]) ∧ ∃ F', CopE A w' F' b [[Y]] op (KD c Y 1 fun _ => d + 1) ∧ Kp F w w' F' := by
  have ST := step_kgE (i := 0) (n := 1) (cl := [[Y]]) (d := fun _ => d) (op := op) ⟨ok, dn, LogK.one hY hl⟩ (by rw [log_one]; exact h) (by omega) (by rw [log_one]; exact hd)
  simp only [log_one, kd_up] at ST
  exact ST
theorem all_one {c : Cop} {Y : List Ent} (ok : CopOk 30 c) (dn : c.dn = 0) (hY : ∀ y ∈ Y, EntOk y) (hl : Y.length ≤ 100) {w : World} {F : Nat → Prop} {b d : Nat} {A : CopA} {op : List Bat} (h : CopG w F b A [[Y]] op (KD c Y 1 fun _ => d)) (hd : d ≤ Y.length) :
    Calls Tryz.prog 18 #[.pointer (some ⟨b, 0, none⟩), .int .i64 0] w fun e w' => ∃ v', e = .returned (.tuple #[v', .int .i64 0]) ∧ w'.ownsRow w.heap.size 62 2 v' (goC c Y d).S.length (cP (goC c Y d).S) ∧ Ext w w' := by
  have ST := all_kg (i := 0) (n := 1) (cl := [[Y]]) (d := fun _ => d) (op := op) ⟨ok, dn, LogK.one hY hl⟩ ⟨A, by rw [log_one]; exact h⟩ (by omega) (by rw [log_one]; exact hd)
  simp only [log_one] at ST
  exact ST
section
variable {w w0 wr : World} {b g : Nat} {c : Cop} {Y Z : List Ent} {i j : Nat} {v : Value}
theorem TLb.ext (h : TLb w w0 b g c Y Z j v wr) {w' : World} (E : Ext wr w') : TLb w w0 b g c Y Z j v w' := by
  obtain ⟨T, F, G, A, B, h, k⟩ := h
  exact ⟨T, F, G, A, B, h.ext E, k.ext E⟩
theorem TLc.ext (h : TLc w w0 b g c Y Z i j wr) {w' : World} (E : Ext wr w') : TLc w w0 b g c Y Z i j w' := by
  obtain ⟨T, F, G, A, B, h⟩ := h
  exact ⟨T, F, G, A, B, h.ext E⟩
theorem TLc.E (h : TLc w w0 b g c Y Z i j wr) : Ext w wr := by
  obtain ⟨T, F, G, A, B, h⟩ := h
  exact h.E
theorem TLb.ents (h : TLb w w0 b g c Y Z j v wr) : EntsSeg wr v Z := by
  obtain ⟨T, F, G, A, B, _, k⟩ := h
  exact k.seg
/-- one that was read comes in -/
theorem TLb.add (h : TLb w w0 b g c Y Z j v wr) (hj : j < Z.length) (hl : Z.length ≤ 54) (hZ : ∀ z ∈ Z, EntOk z) : ∃ bm, wr.cell? ⟨g, 0, none⟩ = some (.pointer (some ⟨bm, 0, none⟩)) ∧ ∀ w' (e : EV), Ext wr w' → EntSeg w' e Z[j] → Calls Tryz.prog 13 #[.pointer (some ⟨bm, 0, none⟩), .int .i64 0, evV e] w' fun r w2 => r = .returned (.int .i64 0) ∧ TLb w w0 b g c Y Z (j + 1) v w2 := by
  obtain ⟨T, F, G, A, B, h, hk⟩ := h
  refine ⟨B.bm, h.two.cells.1, fun w' e E he => ?_⟩
  refine (cadd_oneE (h.two.ext E) e Z[j] he (hZ _ (List.getElem_mem hj)) (by simp; omega)).mono ?_
  rintro r w2 ⟨rfl, G', hC, K⟩
  obtain ⟨B', h'⟩ := (h.ext E).turnB hC K
  refine ⟨rfl, T, F, G', A, B', ?_, (hk.ext E).kp (h.two.ext E).ty K⟩
  rw [tlA_succ hj]
  exact h'
theorem TLb.close (h : TLb w w0 b g c Y Z Z.length v wr) : ∃ bm, wr.cell? ⟨g, 0, none⟩ = some (.pointer (some ⟨bm, 0, none⟩)) ∧ Calls Tryz.prog 14 #[.pointer (some ⟨bm, 0, none⟩), .int .i64 0] wr fun r w2 => r = .returned (.tuple #[.int .i64 1, .int .i64 0]) ∧ TLc w w0 b g c Y (Z.map plainE) 0 0 w2 := by
  obtain ⟨T, F, G, A, B, h, hk⟩ := h
  refine ⟨B.bm, h.two.cells.1, (cclose_oneE h.two).mono ?_⟩
  rintro r w2 ⟨rfl, G', hC, K⟩
  obtain ⟨B', h'⟩ := h.turnB hC K
  rw [List.take_length] at h'
  exact ⟨rfl, T, F, G', A, B', h'⟩
theorem TLc.stepA (h : TLc w w0 b g c Y Z i j wr) (ok : CopOk 30 c) (dn : c.dn = 0) (hY : ∀ y ∈ Y, EntOk y) (hl : Y.length ≤ 54) (hi : i < Y.length) : Calls Tryz.prog 17 #[.pointer (some ⟨b, 0, none⟩), .int .i64 0] wr fun e w' => e = .returned (.tuple #[.bool (okE (goC c Y i) Y[i]), .int .i64 0]) ∧ TLc w w0 b g c Y Z (i + 1) j w' := by
  obtain ⟨T, F, G, A, B, h⟩ := h
  refine (step_one0 ok dn hY (by omega) h.one hi).mono ?_
  rintro e w' ⟨h1, F', h2, k⟩
  obtain ⟨A', h'⟩ := h.turnA h2 k
  exact ⟨h1, T, F', G, A', B, h'⟩
theorem TLc.stepB (h : TLc w w0 b g c Y Z i j wr) (ok : CopOk 30 c) (dn : c.dn = 0) (hZ : ∀ y ∈ Z, EntOk y) (hl : Z.length ≤ 54) (hj : j < Z.length) : Calls Tryz.prog 17 #[.pointer (some ⟨g, 0, none⟩), .int .i64 0] wr fun e w' => e = .returned (.tuple #[.bool (okE (goC c Z j) Z[j]), .int .i64 0]) ∧ TLc w w0 b g c Y Z i (j + 1) w' := by
  obtain ⟨T, F, G, A, B, h⟩ := h
  refine (step_oneE ok dn hZ (by omega) h.two hj).mono ?_
  rintro e w' ⟨h1, G', h2, k⟩
  obtain ⟨B', h'⟩ := h.turnB h2 k
  exact ⟨h1, T, F, G', A, B', h'⟩
theorem TLc.allA (h : TLc w w0 b g c Y Z i j wr) (ok : CopOk 30 c) (dn : c.dn = 0) (hY : ∀ y ∈ Y, EntOk y) (hl : Y.length ≤ 54) (hi : i ≤ Y.length) : Calls Tryz.prog 18 #[.pointer (some ⟨b, 0, none⟩), .int .i64 0] wr fun e w' => ∃ v', e = .returned (.tuple #[v', .int .i64 0]) ∧ w'.ownsRow wr.heap.size 62 2 v' (goC c Y i).S.length (cP (goC c Y i).S) ∧ Ext wr w' := by
  obtain ⟨T, F, G, A, B, h⟩ := h
  exact all_one ok dn hY (by omega) h.one.full hi
theorem TLc.allB (h : TLc w w0 b g c Y Z i j wr) (ok : CopOk 30 c) (dn : c.dn = 0) (hZ : ∀ y ∈ Z, EntOk y) (hl : Z.length ≤ 54) (hj : j ≤ Z.length) : Calls Tryz.prog 18 #[.pointer (some ⟨g, 0, none⟩), .int .i64 0] wr fun e w' => ∃ v', e = .returned (.tuple #[v', .int .i64 0]) ∧ w'.ownsRow wr.heap.size 62 2 v' (goC c Z j).S.length (cP (goC c Z j).S) ∧ Ext wr w' := by
  obtain ⟨T, F, G, A, B, h⟩ := h
  exact all_one ok dn hZ (by omega) h.two hj
/-- the younger ones are made -/
theorem TLb.start {w w0 w1 : World} {F G : Nat → Prop} {A : CopA} (h : CopG w0 F b A [[Y]] [[]] [c]) (h' : CopN w0 w1 G g 1 1 c) (hG : ∀ q, G q → w0.heap.size ≤ q) (E1 : Ext w0 w1) (Ew : Ext w w0) (hF : ∀ q, F q → w.heap.size ≤ q) {wl : World} (hL : LogR wl Z v w0) : TLb w w0 b g c Y Z 0 v w1 := by
  obtain ⟨T, A', B, s⟩ := Sta.start h h' hG E1 Ew hF
  obtain ⟨es, h1, h2, _⟩ := hL
  exact ⟨T, T, G, A', B, s, ents_beside h1 h2 E1 hG⟩
end
end Go.Proofs.YtddghaoejnbkaaaGreatDoor
