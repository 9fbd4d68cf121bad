/- Contracts and lemmas for the proof of TopMoves; each theorem states its own conditions. -/
import Derived.Test.YtnepdfpooobmcaaGreatQTopMovesbu
import Derived.Test.YtnepdfpooobmcaaGreatQTopMovesbf
import Derived.Test.YtnepdfpooobmcaaGreatQTopMovesau
import Derived.Test.YtnepdfpooobmcaaGreatQTopMovesbc
import Derived.Test.YtnepdfpooobmcaaGreatQTopMovesbv
import Derived.Test.YtnepdfpooobmcaaGreatQTopMovesbj
import Derived.Test.YtnepdfpooobmcaaGreatQTopMovesbd
import Derived.Test.YtnepdfpooobmcaaGreatQTopMovesas
set_option linter.unusedVariables false
set_option linter.unusedSimpArgs false
/- Contracts and lemmas for the proofs of this seat; each theorem states its own conditions. -/
namespace Go.Proofs.YtnepdfpooobmcaaGreat
open Go.RowKit
/-! copies that go on: their contracts -/
theorem kd_congr (c : Cop) (X : List Ent) {n : Nat} {d d' : Nat → Nat} (h : ∀ i, i < n → d i = d' i) : KD c X n d = KD c X n d' := by
  unfold KD
  exact List.map_congr_left fun i hi => by rw [h i (List.mem_range.1 hi)]
/-- all that a law keeps of copies of one input -/
structure OneX (c : Cop) (X : List Ent) : Prop where
  ok : CopOk 30 c
  dn : c.dn = 0
  x : ∀ x ∈ X, EntOk x
  len : X.length ≤ 100
theorem step_kd {c : Cop} {X : List Ent} (hX : OneX c X) {n : Nat} {d : Nat → Nat} {w : World} {F : Nat → Prop} {b : Nat} (h : CopSt w F b [[X]] [[]] (KD c X n d)) {i : Nat} (hi : i < n) (hd : d i < X.length) :
    Calls Tryz.prog 14 #[.pointer (some ⟨b, 0, none⟩), .int .i64 i] w fun e w' => e = .returned (.tuple #[.bool (okE (goC c X (d i)) X[d i]), .int .i64 0]) ∧ ∃ F', CopSt w' F' b [[X]] [[]] (KD c X n (upD d i (d i + 1))) ∧ Kp F w w' F' := by
  obtain ⟨g1, g2, _, _, g5⟩ := goC_le hX.ok hX.dn hX.x hX.len (by omega) (show d i ≤ X.length by omega)
  have ST := cstep_ok (i := i) h (by rw [kd_len]; exact hi) (by rw [kd_at _ _ _ hi]; exact g1) g5 (LogK.one hX.x hX.len) (x := X[d i]) (by rw [log_one, kd_at _ _ _ hi, g2]; exact List.getElem?_eq_getElem hd)
  rw [kd_at _ _ _ hi] at ST
  unfold stepK at ST
  rw [kd_at _ _ _ hi, goC_one hd, kd_set] at ST
  exact ST
theorem all_kd {c : Cop} {X : List Ent} (hX : OneX c X) {n : Nat} {d : Nat → Nat} {w : World} {F : Nat → Prop} {b : Nat} (h : CopSt w F b [[X]] [[]] (KD c X n d)) {i : Nat} (hi : i < n) (hd : d i ≤ X.length) :
    Calls Tryz.prog 15 #[.pointer (some ⟨b, 0, none⟩), .int .i64 i] w fun e w' => ∃ v', e = .returned (.tuple #[v', .int .i64 0]) ∧ w'.ownsRow w.heap.size 60 2 v' (goC c X (d i)).S.length (cP (goC c X (d i)).S) ∧ Ext w w' := by
  obtain ⟨g1, g2, g3, _, g5⟩ := goC_le hX.ok hX.dn hX.x hX.len (by omega) hd
  obtain ⟨A, hG⟩ := h
  have AL := call_ok hG (i := i) (by rw [kd_len]; exact hi) (N := 30) (by rw [kd_at _ _ _ hi]; exact g1) (by rw [kd_at _ _ _ hi]; omega)
  simp only [kd_at _ _ _ hi] at AL
  exact AL
end Go.Proofs.YtnepdfpooobmcaaGreat

/- Contracts and lemmas for the proofs of this seat; each theorem states its own conditions. -/
namespace Go.Proofs.YtnepdfpooobmcaaGreat
open Go.RowKit
end Go.Proofs.YtnepdfpooobmcaaGreat

/- Contracts and lemmas for the proofs of this seat; each theorem states its own conditions. -/
namespace Go.Proofs.YtnepdfpooobmcaaGreat
open Go.RowKit
/-! what lies beside copies that go on; rotop.begun -/
structure OneK (w : World) (F : Nat → Prop) (B bM : Nat) (sv ov u1 u2 : Value) (c : Cop) : Prop where
  one : OneS w B bM sv ov u1 u2 c
  own : Off F u2
  ok : Off F ov
theorem OneK.ext {w w' : World} {F : Nat → Prop} {B bM : Nat} {sv ov u1 u2 : Value} {c : Cop} (h : OneK w F B bM sv ov u1 u2 c) (E : Ext w w') : OneK w' F B bM sv ov u1 u2 c := ⟨h.one.ext E, h.own, h.ok⟩
theorem OneK.kp {w w' : World} {F F' : Nat → Prop} {B bM : Nat} {sv ov u1 u2 : Value} {c : Cop} (h : OneK w F B bM sv ov u1 u2 c) (ty : TyS w F cTy) (k : Kp F w w' F') : OneK w' F' B bM sv ov u1 u2 c :=
  ⟨⟨k.own h.one.s (ty.off h.one.s (by decide)), k.heap h.one.box (tyS_not ty h.one.box (by decide)), k.own h.one.cuts (ty.off h.one.cuts (by decide)), k.own h.one.own h.own, k.own h.one.ok h.ok⟩, k.off h.one.own h.own, k.off h.one.ok h.ok⟩
theorem rb_lit : keyB ⟨#[97]⟩ = true ∧ (withP [] ⟨#[97]⟩ 1).length = 1 := by decide +kernel
set_option maxRecDepth 100000 in
theorem rbegun_any (w : World) : Calls Tryz.prog 6 #[] w fun e w' => e = .returned (.bool true) ∧ Ext w w' := by
  have PO := put_ok' (.slice none 0 0) [] ⟨#[97]⟩ 1 w (Seg.nil _ _) (by simp) (store_ok (by decide +kernel)) rb_lit.1 (by omega)
  rw [rb_lit.2] at PO
  have PO := hid PO
  go_enter Tryz.func6, Tryz.ntmps6
  go_wp2_with fail
  refine (PO.out).mono ?_
  clear PO
  rintro e w1 ⟨v', rfl, o, E⟩
  obtain ⟨a, c, rfl⟩ := own_form o
  clear o
  go_wp2
  go_ret
  exact ⟨rfl, E⟩
end Go.Proofs.YtnepdfpooobmcaaGreat

/- Contracts and lemmas for the proofs of this seat; each theorem states its own conditions. -/
namespace Go.Proofs.YtnepdfpooobmcaaGreat
open Go.RowKit
/-! copies beside copies -/
/-- a merge, when what F names turns -/
theorem MergeSt.beside {eB : Nat} {w w' : World} {F F' S : Nat → Prop} {bm : Nat} {cl : List (List Bat)} {op : List Bat} (h : MergeSt eB w S bm cl op) (ty : TyS w F cTy) (hi : ∀ q cs fr, F q → w.heap[q]? = some (.cells cs 3 fr) → q < eB) (dis : ∀ q, S q → ¬ F q) (k : Kp F w w' F') : MergeSt eB w' S bm cl op := by
  obtain ⟨bc, bo, vc, vo, h⟩ := h
  have hp : ∀ {q : Nat} {o : Obj}, w.heap[q]? = some o → S q → w'.heap[q]? = some o := fun a b => k.heap a (dis _ b)
  have ow : ∀ {B e sz n : Nat} {v : Value} {xs : List Value}, w.ownsRow B e sz v n xs → InS S v → w'.ownsRow B e sz v n xs := fun a b => k.own a (fun q hq => dis q (b q hq))
  have ent : ∀ {e : EV} {x : Ent}, EntSt eB w e x → EntSt eB w' e x := fun s => ⟨k.own s.ops (ty.off s.ops op_cTy.1), s.im, k.own s.cuts (ty.off s.cuts op_cTy.2.1), k.own s.own (fun q hq hF => by
    obtain ⟨cur, hc⟩ := own_some s.own hq
    have h1 := own_ge s.own q hq
    have h2 := hi q _ _ hF hc
    omega)⟩
  have bat : ∀ {u : Value} {b : Bat}, BatSt eB w S u b → BatSt eB w' S u b := by
    rintro u b ⟨es, a, c, d⟩
    exact ⟨es, ⟨a.1, fun j e x p q => ent (a.2 j e x p q)⟩, ow c d, d⟩
  refine ⟨bc, bo, vc, vo, h.n0, h.n4, h.ln, fun q hq => ?_, h.sm, h.sc, h.so, hp h.box h.sm, hp h.crow h.sc, hp h.orow h.so, fun i hi' => ?_, fun i hi' => bat (h.opn i hi'), h.clz, h.cbo, h.opz, Nat.le_trans h.bs k.size⟩
  · obtain ⟨cs, e, hc, hx⟩ := h.ty q hq
    exact ⟨cs, e, hp hc hq, hx⟩
  · obtain ⟨us, a1, a2, a3, a4⟩ := h.cls i hi'
    exact ⟨us, a1, ow a2 a3, a3, fun j u b p q => ⟨bat (a4 j u b p q).1, (a4 j u b p q).2⟩⟩
/-- copies, when other copies turn -/
theorem CopG.beside {w w' : World} {F F' G : Nat → Prop} {b : Nat} {A : CopA} {cl : List (List Bat)} {op : List Bat} {K : List Cop} (h : CopG w G b A cl op K) (ty : TyS w F cTy) {d : Nat} (fi : ∀ q cs fr, F q → w.heap[q]? = some (.cells cs 3 fr) → q = d) (hz : A.Z d) (dis : ∀ q, G q → ¬ F q) (k : Kp F w w' F') : CopG w' G b A cl op K := by
  have hp : ∀ {q : Nat} {o : Obj}, w.heap[q]? = some o → G q → w'.heap[q]? = some o := fun a b => k.heap a (dis _ b)
  have ow : ∀ {B e sz n : Nat} {v : Value} {xs : List Value}, w.ownsRow B e sz v n xs → InS G v → w'.ownsRow B e sz v n xs := fun a b => k.own a (fun q hq => dis q (b q hq))
  exact { h with
    box := hp h.box h.fb
    mer := h.mer.beside ty (fun q cs fr a b => by rw [fi q cs fr a b]; exact h.zb _ hz) (fun q hq => dis q (h.fS q hq)) k
    lrow := ow h.lrow h.fl
    drow := hp h.drow h.fd
    orow := hp h.orow h.fo
    parts := fun i hi => by
      have p := h.parts i hi
      exact ⟨hp p.box (h.ft i hi), k.own p.cuts (ty.off p.cuts op_cTy.2.1), k.own p.owners (fun q hq hF => by
        obtain ⟨cur, hc⟩ := own_some p.owners hq
        have e := fi q _ _ hF hc
        exact h.far i hi q hq (e ▸ hz)), fun j hj => k.own (p.rows j hj) (ty.off (p.rows j hj) op_cTy.2.2.1)⟩
    oks := fun i hi => ow (h.oks i hi) (h.fv i hi)
    fi := fun q cs fr hq hc => by
      obtain ⟨cs', e, hc', _⟩ := h.ty q hq
      rw [hp hc' hq] at hc
      injection hc with hc; injection hc with h3 h4 h5
      subst h3; subst h4; subst h5
      exact h.fi q _ _ hq hc'
    ty := fun q hq => by
      obtain ⟨cs', e, hc, hx⟩ := h.ty q hq
      exact ⟨cs', e, hp hc hq, hx⟩ }
/-- copies to which nothing came: another zone -/
theorem CopG.reZ {w : World} {F : Nat → Prop} {b : Nat} {A : CopA} {n : Nat} {K : List Cop} (h : CopG w F b A (List.replicate n []) (List.replicate n []) K) (Z : Nat → Prop) (eB : Nat) (far : ∀ i, i < K.length → ∀ k, (A.vs i).ownBlock = some k → ¬ Z k) (zd : Z A.bd) (zb : ∀ k, Z k → k < eB) (hB : eB ≤ w.heap.size) : CopG w F b { A with Z := Z, eB := eB } (List.replicate n []) (List.replicate n []) K :=
  ⟨h.k0, h.k4, h.box, h.mer.rebase hB, h.lrow, h.drow, h.orow, h.parts, h.oks, far, h.okz, h.btz, zd, zb, h.fi, h.ty, h.fb, h.fd, h.fo, h.fl, h.fS, h.ft, h.fv⟩
/-- two copies beside each other -/
structure TwoC (w : World) (F G : Nat → Prop) (b g : Nat) (A B : CopA) (cl : List (List Bat)) (op : List Bat) (K : List Cop) (cl' : List (List Bat)) (op' : List Bat) (K' : List Cop) : Prop where
  one : CopG w F b A cl op K
  two : CopG w G g B cl' op' K'
  za : A.Z B.bd
  zb : B.Z A.bd
  dis : ∀ q, F q → ¬ G q
theorem TwoC.ext {w w' : World} {F G : Nat → Prop} {b g : Nat} {A B : CopA} {cl cl' : List (List Bat)} {op op' : List Bat} {K K' : List Cop} (h : TwoC w F G b g A B cl op K cl' op' K') (E : Ext w w') : TwoC w' F G b g A B cl op K cl' op' K' :=
  { h with one := h.one.ext E, two := h.two.ext E }
theorem TwoC.swap {w : World} {F G : Nat → Prop} {b g : Nat} {A B : CopA} {cl cl' : List (List Bat)} {op op' : List Bat} {K K' : List Cop} (h : TwoC w F G b g A B cl op K cl' op' K') : TwoC w G F g b B A cl' op' K' cl op K :=
  ⟨h.two, h.one, h.zb, h.za, fun q a b => h.dis q b a⟩
/-- the first ones turn -/
theorem TwoC.turn {w w' : World} {F G F' : Nat → Prop} {b g : Nat} {A B : CopA} {cl cl' cl2 : List (List Bat)} {op op' op2 : List Bat} {K K' K2 : List Cop} (h : TwoC w F G b g A B cl op K cl' op' K') (t : CopE A w' F' b cl2 op2 K2) (k : Kp F w w' F') : ∃ A', TwoC w' F' G b g A' B cl2 op2 K2 cl' op' K' := by
  obtain ⟨A', a, hz, hb, hd⟩ := t
  refine ⟨A', a, h.two.beside h.one.ty h.one.fi h.zb (fun q a b => h.dis q b a) k, by rw [hz]; exact h.za, by rw [hd]; exact h.zb, fun q hq hg => ?_⟩
  rcases k.2.2 q hq with c | c
  · exact h.dis q c hg
  · have := h.two.ty.lt hg; omega
/-- two copies, one made behind the other -/
theorem TwoC.new {w0 w1 w2 : World} {F G : Nat → Prop} {b g inp n inp' n' : Nat} {c c' : Cop} (h : CopN w0 w1 F b inp n c) (E : Ext w1 w2) (h' : CopN w1 w2 G g inp' n' c') (hG : ∀ q, G q → w1.heap.size ≤ q) : ∃ A B, TwoC w2 F G b g A B (List.replicate inp []) (List.replicate inp []) (List.replicate n c) (List.replicate inp' []) (List.replicate inp' []) (List.replicate n' c') := by
  obtain ⟨A, a, _⟩ := h
  obtain ⟨B, d, z⟩ := h'
  have la := a.ty.lt a.fd
  have lB := d.ty.lt d.fd
  have gB := hG _ d.fd
  refine ⟨_, B, (a.ext E).reZ (fun k => k = A.bd ∨ k = B.bd) w2.heap.size (fun i hi k hk hz => ?_) (.inl rfl) (fun k hz => ?_) (Nat.le_refl _), d, .inr rfl, z _ la, fun q hq hg => ?_⟩
  · rcases hz with e | e
    · exact a.farD hi (by rw [hk, e])
    · have := ((a.parts i hi).owners.lt k hk).2
      omega
  · have := E.size'
    rcases hz with e | e <;> omega
  · have := a.ty.lt hq
    have := hG q hg
    omega
end Go.Proofs.YtnepdfpooobmcaaGreat

/- Contracts and lemmas for the proofs of this seat; each theorem states its own conditions. -/
namespace Go.Proofs.YtnepdfpooobmcaaGreat
open Go.RowKit
/-! what only moves keeps the total -/
theorem cO_cons (o : GOp) (d : Ops) : cO (o :: d) = .int .i64 o.kind :: .string o.key :: .string o.from_ :: .int .i64 o.n :: cO d := by simp [cO]
theorem cO_set0 (n : Int) : ∀ (d : Ops) (k : Nat), (cO d).set (k * 4) (.int .i64 n) = cO (d.modify k fun o => { o with kind := n })
  | [], k => by simp [cO]
  | o :: d, 0 => by simp [cO_cons]
  | o :: d, k + 1 => by
    rw [show (k + 1) * 4 = k * 4 + 1 + 1 + 1 + 1 by omega, List.modify_succ_cons, cO_cons, cO_cons]
    simp [cO_set0 n d k]
theorem cO_set2 (s : ByteArray) : ∀ (d : Ops) (k : Nat), (cO d).set (k * 4 + 1 + 1) (.string s) = cO (d.modify k fun o => { o with from_ := s })
  | [], k => by simp [cO]
  | o :: d, 0 => by simp [cO_cons]
  | o :: d, k + 1 => by
    rw [show (k + 1) * 4 + 1 + 1 = k * 4 + 1 + 1 + 1 + 1 + 1 + 1 by omega, List.modify_succ_cons, cO_cons, cO_cons]
    simp [cO_set2 s d k]
theorem tot_do {l : Prs} (h : StoreOk l) {o : GOp} (ho : OpOk o) (hk : o.kind = 4 ∨ o.kind = 5) : totTo (doP l o).1 = totTo l := by
  unfold doP
  rcases hk with e | e
  · simp [e]
  · simp only [e, show ¬ (5 : Int) = 1 by omega, show ¬ (5 : Int) = 2 by omega, show ¬ (5 : Int) = 3 by omega, show ¬ (5 : Int) = 4 by omega, if_false]
    split
    · rfl
    · rename_i hm
      have hf := (ho.from_ (.inr e)).2
      have ho1 := storeOk_with h (ho.from_ (.inr e)).1 (n := valP l o.from_ - o.n) (by have := ho.pos e; have := val_bd h o.from_; omega)
      have t1 := tot_with' ho1.srt ho1.nz o.key (valP l o.key + o.n) totTo rfl (fun _ _ => rfl)
      have t2 := tot_with' h.srt h.nz o.from_ (valP l o.from_ - o.n) totTo rfl (fun _ _ => rfl)
      have t3 := val_with h.srt o.from_ (valP l o.from_ - o.n) o.key
      rw [if_neg hf] at t3
      show totTo (withP _ _ _) = _
      omega
theorem tot_run {d : Ops} (hd : ∀ o ∈ d, OpOk o ∧ (o.kind = 4 ∨ o.kind = 5)) : ∀ {l l' : Prs}, StoreOk l → runP l d = some l' → totTo l' = totTo l := by
  induction d with
  | nil => intro l l' _ e; injection e with e; rw [e]
  | cons o d ih =>
    intro l l' h e
    simp only [runP] at e
    split at e
    · rename_i hr
      obtain ⟨h1, h2⟩ := hd o (by simp)
      rw [ih (fun q hq => hd q (by simp [hq])) (ok_do h h1 hr) e, tot_do h h1 h2]
    · cases e
theorem OwnDs.base {w : World} {B B' : Nat} {vs : List Value} {D : List Ops} (h : OwnDs w B vs D) (hB : B' ≤ B) : OwnDs w B' vs D := ⟨h.len, fun i u d a b => own_base (h.own i u d a b) hB, h.ne⟩
theorem OwnDs.kept {w w' : World} {B g : Nat} {vs : List Value} {D : List Ops} (h : OwnDs w B vs D) (hg : w.grownBy w' (some g)) (hne : ∀ u ∈ vs, u.ownBlock ≠ some g) : OwnDs w' B vs D :=
  ⟨h.len, fun i u d a b => grown_own hg (h.own i u d a b) (.inr (hne u (List.mem_of_getElem? a))), h.ne⟩
end Go.Proofs.YtnepdfpooobmcaaGreat
