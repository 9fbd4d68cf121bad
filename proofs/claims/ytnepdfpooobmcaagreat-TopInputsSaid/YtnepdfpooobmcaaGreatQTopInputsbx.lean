/- Contracts and lemmas for the proof of TopInputs; each theorem states its own conditions. -/
import Derived.Test.YtnepdfpooobmcaaGreatQTopInputsbw
import Derived.Test.YtnepdfpooobmcaaGreatQTopInputsbu
import Derived.Test.YtnepdfpooobmcaaGreatQTopInputsbv
import Derived.Test.YtnepdfpooobmcaaGreatQTopInputsbf
import Derived.BigQuiet
set_option linter.unusedVariables false
set_option linter.unusedSimpArgs false
/- Contracts and lemmas for the proofs of this seat; each theorem states its own conditions. -/
namespace Go.Proofs.YtnepdfpooobmcaaGreat
open Go.RowKit
/-! copies beside copies -/
/-- a merge, when what F names turns -/
theorem MergeSt.beside {eB : Nat} {w w' : World} {F F' S : Nat → Prop} {bm : Nat} {cl : List (List Bat)} {op : List Bat} (h : MergeSt eB w S bm cl op) (ty : TyS w F cTy) (hi : ∀ q cs fr, F q → w.heap[q]? = some (.cells cs 3 fr) → q < eB) (dis : ∀ q, S q → ¬ F q) (k : Kp F w w' F') : MergeSt eB w' S bm cl op := by
  obtain ⟨bc, bo, vc, vo, h⟩ := h
  have hp : ∀ {q : Nat} {o : Obj}, w.heap[q]? = some o → S q → w'.heap[q]? = some o := fun a b => k.heap a (dis _ b)
  have ow : ∀ {B e sz n : Nat} {v : Value} {xs : List Value}, w.ownsRow B e sz v n xs → InS S v → w'.ownsRow B e sz v n xs := fun a b => k.own a (fun q hq => dis q (b q hq))
  have ent : ∀ {e : EV} {x : Ent}, EntSt eB w e x → EntSt eB w' e x := fun s => ⟨k.own s.ops (ty.off s.ops op_cTy.1), s.im, k.own s.cuts (ty.off s.cuts op_cTy.2.1), k.own s.own (fun q hq hF => by
    obtain ⟨cur, hc⟩ := own_some s.own hq
    have h1 := own_ge s.own q hq
    have h2 := hi q _ _ hF hc
    omega)⟩
  have bat : ∀ {u : Value} {b : Bat}, BatSt eB w S u b → BatSt eB w' S u b := by
    rintro u b ⟨es, a, c, d⟩
    exact ⟨es, ⟨a.1, fun j e x p q => ent (a.2 j e x p q)⟩, ow c d, d⟩
  refine ⟨bc, bo, vc, vo, h.n0, h.n4, h.ln, fun q hq => ?_, h.sm, h.sc, h.so, hp h.box h.sm, hp h.crow h.sc, hp h.orow h.so, fun i hi' => ?_, fun i hi' => bat (h.opn i hi'), h.clz, h.cbo, h.opz, Nat.le_trans h.bs k.size⟩
  · obtain ⟨cs, e, hc, hx⟩ := h.ty q hq
    exact ⟨cs, e, hp hc hq, hx⟩
  · obtain ⟨us, a1, a2, a3, a4⟩ := h.cls i hi'
    exact ⟨us, a1, ow a2 a3, a3, fun j u b p q => ⟨bat (a4 j u b p q).1, (a4 j u b p q).2⟩⟩
/-- copies, when other copies turn -/
theorem CopG.beside {w w' : World} {F F' G : Nat → Prop} {b : Nat} {A : CopA} {cl : List (List Bat)} {op : List Bat} {K : List Cop} (h : CopG w G b A cl op K) (ty : TyS w F cTy) {d : Nat} (fi : ∀ q cs fr, F q → w.heap[q]? = some (.cells cs 3 fr) → q = d) (hz : A.Z d) (dis : ∀ q, G q → ¬ F q) (k : Kp F w w' F') : CopG w' G b A cl op K := by
  have hp : ∀ {q : Nat} {o : Obj}, w.heap[q]? = some o → G q → w'.heap[q]? = some o := fun a b => k.heap a (dis _ b)
  have ow : ∀ {B e sz n : Nat} {v : Value} {xs : List Value}, w.ownsRow B e sz v n xs → InS G v → w'.ownsRow B e sz v n xs := fun a b => k.own a (fun q hq => dis q (b q hq))
  exact { h with
    box := hp h.box h.fb
    mer := h.mer.beside ty (fun q cs fr a b => by rw [fi q cs fr a b]; exact h.zb _ hz) (fun q hq => dis q (h.fS q hq)) k
    lrow := ow h.lrow h.fl
    drow := hp h.drow h.fd
    orow := hp h.orow h.fo
    parts := fun i hi => by
      have p := h.parts i hi
      exact ⟨hp p.box (h.ft i hi), k.own p.cuts (ty.off p.cuts op_cTy.2.1), k.own p.owners (fun q hq hF => by
        obtain ⟨cur, hc⟩ := own_some p.owners hq
        have e := fi q _ _ hF hc
        exact h.far i hi q hq (e ▸ hz)), fun j hj => k.own (p.rows j hj) (ty.off (p.rows j hj) op_cTy.2.2.1)⟩
    oks := fun i hi => ow (h.oks i hi) (h.fv i hi)
    fi := fun q cs fr hq hc => by
      obtain ⟨cs', e, hc', _⟩ := h.ty q hq
      rw [hp hc' hq] at hc
      injection hc with hc; injection hc with h3 h4 h5
      subst h3; subst h4; subst h5
      exact h.fi q _ _ hq hc'
    ty := fun q hq => by
      obtain ⟨cs', e, hc, hx⟩ := h.ty q hq
      exact ⟨cs', e, hp hc hq, hx⟩ }
/-- copies to which nothing came: another zone -/
theorem CopG.reZ {w : World} {F : Nat → Prop} {b : Nat} {A : CopA} {n : Nat} {K : List Cop} (h : CopG w F b A (List.replicate n []) (List.replicate n []) K) (Z : Nat → Prop) (eB : Nat) (far : ∀ i, i < K.length → ∀ k, (A.vs i).ownBlock = some k → ¬ Z k) (zd : Z A.bd) (zb : ∀ k, Z k → k < eB) (hB : eB ≤ w.heap.size) : CopG w F b { A with Z := Z, eB := eB } (List.replicate n []) (List.replicate n []) K :=
  ⟨h.k0, h.k4, h.box, h.mer.rebase hB, h.lrow, h.drow, h.orow, h.parts, h.oks, far, h.okz, h.btz, zd, zb, h.fi, h.ty, h.fb, h.fd, h.fo, h.fl, h.fS, h.ft, h.fv⟩
/-- two copies beside each other -/
structure TwoC (w : World) (F G : Nat → Prop) (b g : Nat) (A B : CopA) (cl : List (List Bat)) (op : List Bat) (K : List Cop) (cl' : List (List Bat)) (op' : List Bat) (K' : List Cop) : Prop where
  one : CopG w F b A cl op K
  two : CopG w G g B cl' op' K'
  za : A.Z B.bd
  zb : B.Z A.bd
  dis : ∀ q, F q → ¬ G q
theorem TwoC.ext {w w' : World} {F G : Nat → Prop} {b g : Nat} {A B : CopA} {cl cl' : List (List Bat)} {op op' : List Bat} {K K' : List Cop} (h : TwoC w F G b g A B cl op K cl' op' K') (E : Ext w w') : TwoC w' F G b g A B cl op K cl' op' K' :=
  { h with one := h.one.ext E, two := h.two.ext E }
theorem TwoC.swap {w : World} {F G : Nat → Prop} {b g : Nat} {A B : CopA} {cl cl' : List (List Bat)} {op op' : List Bat} {K K' : List Cop} (h : TwoC w F G b g A B cl op K cl' op' K') : TwoC w G F g b B A cl' op' K' cl op K :=
  ⟨h.two, h.one, h.zb, h.za, fun q a b => h.dis q b a⟩
/-- the first ones turn -/
theorem TwoC.turn {w w' : World} {F G F' : Nat → Prop} {b g : Nat} {A B : CopA} {cl cl' cl2 : List (List Bat)} {op op' op2 : List Bat} {K K' K2 : List Cop} (h : TwoC w F G b g A B cl op K cl' op' K') (t : CopE A w' F' b cl2 op2 K2) (k : Kp F w w' F') : ∃ A', TwoC w' F' G b g A' B cl2 op2 K2 cl' op' K' := by
  obtain ⟨A', a, hz, hb, hd⟩ := t
  refine ⟨A', a, h.two.beside h.one.ty h.one.fi h.zb (fun q a b => h.dis q b a) k, by rw [hz]; exact h.za, by rw [hd]; exact h.zb, fun q hq hg => ?_⟩
  rcases k.2.2 q hq with c | c
  · exact h.dis q c hg
  · have := h.two.ty.lt hg; omega
/-- two copies, one made behind the other -/
theorem TwoC.new {w0 w1 w2 : World} {F G : Nat → Prop} {b g inp n inp' n' : Nat} {c c' : Cop} (h : CopN w0 w1 F b inp n c) (E : Ext w1 w2) (h' : CopN w1 w2 G g inp' n' c') (hG : ∀ q, G q → w1.heap.size ≤ q) : ∃ A B, TwoC w2 F G b g A B (List.replicate inp []) (List.replicate inp []) (List.replicate n c) (List.replicate inp' []) (List.replicate inp' []) (List.replicate n' c') := by
  obtain ⟨A, a, _⟩ := h
  obtain ⟨B, d, z⟩ := h'
  have la := a.ty.lt a.fd
  have lB := d.ty.lt d.fd
  have gB := hG _ d.fd
  refine ⟨_, B, (a.ext E).reZ (fun k => k = A.bd ∨ k = B.bd) w2.heap.size (fun i hi k hk hz => ?_) (.inl rfl) (fun k hz => ?_) (Nat.le_refl _), d, .inr rfl, z _ la, fun q hq hg => ?_⟩
  · rcases hz with e | e
    · exact a.farD hi (by rw [hk, e])
    · have := ((a.parts i hi).owners.lt k hk).2
      omega
  · have := E.size'
    rcases hz with e | e <;> omega
  · have := a.ty.lt hq
    have := hG q hg
    omega
theorem cadd_anyE {w : World} {F : Nat → Prop} {b : Nat} {A : CopA} {cl : List (List Bat)} {op : List Bat} {K : List Cop} (h : CopG w F b A cl op K) {inp j : Nat} (bd : BdM inp j j cl op) (hj : j ≤ 55) {i : Nat} (hi : i < inp) (e : EV) (x : Ent) (hx : EntSeg w e x) (ok : EntOk x) :
    Calls Tryz.prog 11 #[.pointer (some ⟨A.bm, 0, none⟩), .int .i64 i, evV e] w fun r w' => r = .returned (.int .i64 0) ∧ ∃ F', CopE A w' F' b cl (addM op i (plainE x)) K ∧ Kp F w w' F' := by
  have hm := bd.many
  refine (madd_ok h.mer i (by rw [bd.lc]; exact hi) e x hx ok.sm ok.sz ok.ok (by omega) (fun q hq => ?_) ?_).mono ?_
  · have := bd.len q (by rw [← bd.lc]; exact hq); omega
  · have := op_many (cl := cl) (op := op) (i := i) (by rw [bd.lc]; exact hi); omega
  · rintro r w' ⟨rfl, S', hM, hk⟩
    obtain ⟨F', g, k⟩ := h.merge hM hk
    exact ⟨rfl, F', ⟨_, g, rfl, rfl, rfl⟩, k⟩
theorem cclose_anyE {w : World} {F : Nat → Prop} {b : Nat} {A : CopA} {cl : List (List Bat)} {op : List Bat} {K : List Cop} (h : CopG w F b A cl op K) {inp j : Nat} (bd : BdM inp j j cl op) (hj : j ≤ 55) {i : Nat} (hi : i < inp) :
    Calls Tryz.prog 12 #[.pointer (some ⟨A.bm, 0, none⟩), .int .i64 i] w fun r w' => (∃ m : Nat, r = .returned (.tuple #[.int .i64 m, .int .i64 0])) ∧ ∃ F', CopE A w' F' b (clsM cl i (op.getD i [])) (op.set i []) K ∧ Kp F w w' F' := by
  refine (mclose_ok h.mer i (by rw [bd.lc]; exact hi) (by have := bd.len i hi; omega)).mono ?_
  rintro r w' ⟨rfl, S', hM, hk⟩
  obtain ⟨F', g, k⟩ := h.merge hM hk
  exact ⟨⟨_, rfl⟩, F', ⟨_, g, rfl, rfl, rfl⟩, k⟩
theorem step_kgE {c : Cop} {cl : List (List Bat)} {op : List Bat} (hX : OneX' c cl) {n : Nat} {d : Nat → Nat} {w : World} {F : Nat → Prop} {b : Nat} {A : CopA} (h : CopG w F b A cl op (KD c (logM cl) n d)) {i : Nat} (hi : i < n) (hd : d i < (logM cl).length) :
    Calls Tryz.prog 14 #[.pointer (some ⟨b, 0, none⟩), .int .i64 i] w fun e w' => e = .returned (.tuple #[.bool (okE (goC c (logM cl) (d i)) (logM cl)[d i]), .int .i64 0]) ∧ ∃ F', CopE A w' F' b cl op (KD c (logM cl) n (upD d i (d i + 1))) ∧ Kp F w w' F' := by
  obtain ⟨g1, g2, _, _, g5⟩ := goC_le hX.ok hX.dn hX.log.ok hX.log.len (by omega) (show d i ≤ (logM cl).length by omega)
  have ST := cstep_okE (i := i) h (by rw [kd_len]; exact hi) (by rw [kd_at _ _ _ hi]; exact g1) g5 hX.log (x := (logM cl)[d i]) (by rw [kd_at _ _ _ hi, g2]; exact List.getElem?_eq_getElem hd)
  rw [kd_at _ _ _ hi] at ST
  unfold stepK at ST
  rw [kd_at _ _ _ hi, goC_one hd, kd_set] at ST
  exact ST
end Go.Proofs.YtnepdfpooobmcaaGreat

/- Contracts and lemmas for the proofs of this seat; each theorem states its own conditions. -/
namespace Go.Proofs.YtnepdfpooobmcaaGreat
open Go.RowKit
/-! TopInputs in plain lists -/
/-- a deed's entry -/
def dE (d : Ops) : Ent := ⟨d, false, [], []⟩
/-- what comes at input i of three, of the first k deeds -/
def bk (D : List Ops) (i : Nat) : Nat → Bat
  | 0 => []
  | k + 1 => if k % 3 = i then bk D i k ++ [dE (D.getD k [])] else bk D i k
def cl3 (B : Nat → Bat) (q : Nat → Bool) : List (List Bat) := [if q 0 then [B 0] else [], if q 1 then [B 1] else [], if q 2 then [B 2] else []]
def op3 (f : Nat → Bat) : List Bat := [f 0, f 1, f 2]
theorem op3_at (f : Nat → Bat) {i : Nat} (hi : i < 3) : (op3 f).getD i [] = f i := by
  match i, hi with
  | 0, _ => rfl
  | 1, _ => rfl
  | 2, _ => rfl
theorem op3_congr {f g : Nat → Bat} (h : ∀ i, i < 3 → f i = g i) : op3 f = op3 g := by
  unfold op3
  rw [h 0 (by omega), h 1 (by omega), h 2 (by omega)]
theorem cl3_congr {B : Nat → Bat} {q r : Nat → Bool} (h : ∀ i, i < 3 → q i = r i) : cl3 B q = cl3 B r := by
  unfold cl3
  rw [h 0 (by omega), h 1 (by omega), h 2 (by omega)]
theorem op3_add (f : Nat → Bat) {i : Nat} (hi : i < 3) (x : Ent) : addM (op3 f) i x = op3 fun j => if j = i then f j ++ [x] else f j := by
  match i, hi with
  | 0, _ => rfl
  | 1, _ => rfl
  | 2, _ => rfl
theorem op3_set (f : Nat → Bat) {i : Nat} (hi : i < 3) : (op3 f).set i [] = op3 fun j => if j = i then [] else f j := by
  match i, hi with
  | 0, _ => rfl
  | 1, _ => rfl
  | 2, _ => rfl
theorem cl3_cls (B : Nat → Bat) (q : Nat → Bool) {i : Nat} (hi : i < 3) (h : q i = false) : clsM (cl3 B q) i (B i) = cl3 B fun j => if j = i then true else q j := by
  match i, hi with
  | 0, _ => simp [clsM, cl3, h]
  | 1, _ => simp [clsM, cl3, h]
  | 2, _ => simp [clsM, cl3, h]
theorem log3 (B : Nat → Bat) (q : Nat → Bool) : logM (cl3 B q) = if (q 0 && q 1 && q 2) = true then B 0 ++ B 1 ++ B 2 else [] := by
  cases h0 : q 0 <;> cases h1 : q 1 <;> cases h2 : q 2 <;> simp [logM, rdM, mnTo, logTo, rowTo, cl3, h0, h1, h2]
theorem bk_step (D : List Ops) (k : Nat) : (op3 fun i => bk D i (k + 1)) = addM (op3 fun i => bk D i k) (k % 3) (dE (D.getD k [])) := by
  rw [op3_add _ (Nat.mod_lt _ (by omega))]
  refine op3_congr fun i _ => ?_
  rw [bk]
  by_cases e : k % 3 = i
  · rw [if_pos e, if_pos e.symm]
  · rw [if_neg e, if_neg (fun q => e q.symm)]
theorem bk_len (D : List Ops) : ∀ k, (bk D 0 k).length + (bk D 1 k).length + (bk D 2 k).length = k
  | 0 => rfl
  | k + 1 => by
    have := bk_len D k
    have h3 : k % 3 < 3 := Nat.mod_lt _ (by omega)
    simp only [bk]
    rcases (show k % 3 = 0 ∨ k % 3 = 1 ∨ k % 3 = 2 by omega) with e | e | e <;> simp [e] <;> omega
/-- the log at the end -/
def log3D (D : List Ops) : Bat := bk D 0 D.length ++ bk D 1 D.length ++ bk D 2 D.length
theorem log3D_len (D : List Ops) : (log3D D).length = D.length := by
  unfold log3D
  have := bk_len D D.length
  simp only [List.length_append]; omega
theorem bk_deed (D : List Ops) (i : Nat) : ∀ (k : Nat), ∀ x ∈ bk D i k, x.im = false
  | 0, x, h => by simp [bk] at h
  | k + 1, x, h => by
    rw [bk] at h
    split at h
    · rcases List.mem_append.1 h with a | a
      · exact bk_deed D i k x a
      · simp at a; subst a; rfl
    · exact bk_deed D i k x h
theorem log3D_deed (D : List Ops) : ∀ x ∈ log3D D, x.im = false := by
  intro x hx
  unfold log3D at hx
  simp only [List.mem_append] at hx
  rcases hx with (a | a) | a <;> exact bk_deed D _ _ x a
/-- deeds do alike whatever the map is -/
theorem goC_deeds {C C' : List ByteArray} {O O' : List Int} {S : Prs} {X : List Ent} (h : ∀ x ∈ X, x.im = false) : ∀ {d : Nat}, d ≤ X.length → (goC ⟨C, O, S, 0, []⟩ X d).S = (goC ⟨C', O', S, 0, []⟩ X d).S ∧ (goC ⟨C, O, S, 0, []⟩ X d).ok = (goC ⟨C', O', S, 0, []⟩ X d).ok
  | 0, _ => ⟨rfl, rfl⟩
  | d + 1, hd => by
    have hl : d < X.length := hd
    obtain ⟨h1, h2⟩ := goC_deeds (C := C) (C' := C') (O := O) (O' := O') (S := S) h (show d ≤ X.length by omega)
    have hx : (X.getD d entZ).im = false := by
      rw [show X.getD d entZ = X[d] by simp [hl]]
      exact h _ (List.getElem_mem hl)
    rw [goC, goC, doE_deed hx, doE_deed hx]
    dsimp only
    rw [h1, h2]
    exact ⟨rfl, rfl⟩
theorem goC_oklen {C : List ByteArray} {O : List Int} {S : Prs} {X : List Ent} : ∀ d, (goC ⟨C, O, S, 0, []⟩ X d).ok.length = d
  | 0 => rfl
  | d + 1 => by
    rw [goC]
    have := goC_oklen (C := C) (O := O) (S := S) (X := X) d
    unfold doE
    split <;> simp [this]
/-- what is closed when k inputs are, from t on -/
def qB (t k : Nat) : Nat → Bool := fun j => decide ((j + 3 - t) % 3 < k)
theorem qB_now {t k : Nat} (ht : t < 3) (hk : k < 3) : qB t k ((k + t) % 3) = false := by
  unfold qB
  have : ((k + t) % 3 + 3 - t) % 3 = k := by omega
  simp [this]
theorem qB_next {t k : Nat} (ht : t < 3) (hk : k < 3) {j : Nat} (hj : j < 3) : (if j = (k + t) % 3 then true else qB t k j) = qB t (k + 1) j := by
  unfold qB
  by_cases e : j = (k + t) % 3
  · have : ((k + t) % 3 + 3 - t) % 3 = k := by omega
    rw [if_pos e, e, this]; simp
  · rw [if_neg e]
    have h : (j + 3 - t) % 3 ≠ k := by omega
    rw [decide_eq_decide]
    omega
theorem qB_log {t k : Nat} (ht : t < 3) (hk : k ≤ 3) : (qB t k 0 && qB t k 1 && qB t k 2) = decide (k = 3) := by
  unfold qB
  have h : (0 + 3 - t) % 3 < k ∧ (1 + 3 - t) % 3 < k ∧ (2 + 3 - t) % 3 < k ↔ k = 3 := by omega
  rw [← Bool.decide_and, ← Bool.decide_and, decide_eq_decide]
  omega
theorem logB (D : List Ops) {t k : Nat} (ht : t < 3) (hk : k ≤ 3) : logM (cl3 (fun i => bk D i D.length) (qB t k)) = if k = 3 then log3D D else [] := by
  rw [log3, qB_log ht hk]
  by_cases e : k = 3
  · rw [if_pos (by simp [e]), if_pos e]; rfl
  · rw [if_neg (by simp [e]), if_neg e]
/-- b, in the round of input i, j deeds looked at -/
def opB (D : List Ops) (i j : Nat) : List Bat := op3 fun x => if x = i then bk D i j else []
theorem opB_add (D : List Ops) {i : Nat} (hi : i < 3) {j : Nat} (h : j % 3 = i) : addM (opB D i j) i (dE (D.getD j [])) = opB D i (j + 1) := by
  unfold opB
  rw [op3_add _ hi]
  refine op3_congr fun x _ => ?_
  by_cases e : x = i
  · rw [if_pos e, if_pos e, if_pos e, bk, if_pos h]
  · rw [if_neg e, if_neg e, if_neg e]
theorem opB_skip (D : List Ops) {i j : Nat} (h : j % 3 ≠ i) : opB D i j = opB D i (j + 1) := by
  unfold opB
  refine op3_congr fun x _ => ?_
  rw [bk, if_neg h]
theorem opB_zero (D : List Ops) (i : Nat) : opB D i 0 = List.replicate 3 [] := by
  unfold opB op3
  simp [bk, List.replicate]
theorem opB_cls (D : List Ops) {i : Nat} (hi : i < 3) (j : Nat) : (opB D i j).set i [] = List.replicate 3 [] ∧ (opB D i j).getD i [] = bk D i j := by
  unfold opB
  rw [op3_set _ hi, op3_at _ hi, if_pos rfl]
  refine ⟨?_, rfl⟩
  have : (op3 fun x => if x = i then [] else if x = i then bk D i j else []) = op3 fun _ => [] := op3_congr fun x _ => by split <;> rfl
  rw [this]; rfl
theorem cl3_none (B : Nat → Bat) : cl3 B (fun _ => false) = List.replicate 3 [] := rfl
theorem qB_zero (B : Nat → Bat) (t : Nat) : cl3 B (qB t 0) = List.replicate 3 [] := by
  rw [← cl3_none B]
  exact cl3_congr fun i _ => by simp [qB]
theorem clB_next (D : List Ops) {t k : Nat} (ht : t < 3) (hk : k < 3) : clsM (cl3 (fun i => bk D i D.length) (qB t k)) ((k + t) % 3) (bk D ((k + t) % 3) D.length) = cl3 (fun i => bk D i D.length) (qB t (k + 1)) := by
  have hi : (k + t) % 3 < 3 := Nat.mod_lt _ (by omega)
  have := cl3_cls (fun i => bk D i D.length) (qB t k) hi (qB_now ht hk)
  rw [this]
  exact cl3_congr fun j hj => qB_next ht hk hj
/-- a, when i inputs are closed -/
def opA (D : List Ops) (i : Nat) : List Bat := op3 fun x => if x < i then [] else bk D x D.length
theorem clA_next (D : List Ops) {i : Nat} (hi : i < 3) : (opA D i).getD i [] = bk D i D.length ∧ (opA D i).set i [] = opA D (i + 1) ∧ clsM (cl3 (fun i => bk D i D.length) (qB 0 i)) i (bk D i D.length) = cl3 (fun i => bk D i D.length) (qB 0 (i + 1)) := by
  refine ⟨?_, ?_, ?_⟩
  · unfold opA; rw [op3_at _ hi, if_neg (by omega)]
  · unfold opA; rw [op3_set _ hi]
    refine op3_congr fun x _ => ?_
    by_cases e : x = i
    · rw [if_pos e, if_pos (by omega)]
    · rw [if_neg e]
      by_cases q : x < i
      · rw [if_pos q, if_pos (by omega)]
      · rw [if_neg q, if_neg (by omega)]
  · have e : (i + 0) % 3 = i := by omega
    have := clB_next D (t := 0) (by omega) hi
    rw [e] at this
    exact this
end Go.Proofs.YtnepdfpooobmcaaGreat

/- Contracts and lemmas for the proofs of this seat; each theorem states its own conditions. -/
namespace Go.Proofs.YtnepdfpooobmcaaGreat
open Go.RowKit
/-! rotop.fed: copies to which came, at several inputs, deeds and maps -/
structure DsK (w : World) (v : Value) (vs : List Value) (D : List Ops) : Prop where
  row : w.ownsRow 0 39 1 v D.length vs
  len : vs.length = D.length
  own : ∀ (i : Nat) (u : Value) (d : Ops), vs[i]? = some u → D[i]? = some d → w.ownsRow 0 69 4 u d.length (cO d)
theorem DsK.ext {w w' : World} {v : Value} {vs : List Value} {D : List Ops} (h : DsK w v vs D) (E : Ext w w') : DsK w' v vs D := ⟨own_ext h.row E, h.len, fun i u d a b => own_ext (h.own i u d a b) E⟩
theorem DsK.kp {w w' : World} {F F' : Nat → Prop} {v : Value} {vs : List Value} {D : List Ops} (h : DsK w v vs D) (ty : TyS w F cTy) (k : Kp F w w' F') : DsK w' v vs D :=
  ⟨k.own h.row (ty.off h.row (by decide)), h.len, fun i u d a b => k.own (h.own i u d a b) (ty.off (h.own i u d a b) (by decide))⟩
theorem deedG_ok {d : Ops} (g : DeedG d) : EntOk ⟨d, false, [], []⟩ := by
  refine ⟨⟨?_, by simp, by simp⟩, ⟨opsSm_ok g.ok g.sm, by simp⟩, ?_⟩
  · have := g.hi; simp only; omega
  · unfold entE; rw [if_neg (by simp)]; exact deedE_ok g.ok
end Go.Proofs.YtnepdfpooobmcaaGreat
