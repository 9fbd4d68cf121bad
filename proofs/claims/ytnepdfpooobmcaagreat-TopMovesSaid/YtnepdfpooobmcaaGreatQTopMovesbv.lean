/- Contracts and lemmas for the proof of TopMoves; each theorem states its own conditions. -/
import Derived.Test.YtnepdfpooobmcaaGreatQTopMovesbu
import Derived.Test.YtnepdfpooobmcaaGreatQTopMovesbd
set_option linter.unusedVariables false
set_option linter.unusedSimpArgs false
/- Contracts and lemmas for the proofs of this seat; each theorem states its own conditions. -/
namespace Go.Proofs.YtnepdfpooobmcaaGreat
open Go.RowKit
/-! copies over any log: their contracts; what a feeding keeps -/
structure OneX' (c : Cop) (cl : List (List Bat)) : Prop where
  ok : CopOk 30 c
  dn : c.dn = 0
  log : LogK cl
theorem goC_app (c : Cop) (X Y : List Ent) : ∀ {d : Nat}, d ≤ X.length → goC c (X ++ Y) d = goC c X d
  | 0, _ => rfl
  | d + 1, h => by
    rw [goC, goC, goC_app c X Y (show d ≤ X.length by omega)]
    congr 1
    simp only [List.getD_eq_getElem?_getD]
    rw [List.getElem?_append_left (by omega)]
theorem kd_app (c : Cop) (X Y : List Ent) (n : Nat) {d : Nat → Nat} (h : ∀ i, i < n → d i ≤ X.length) : KD c (X ++ Y) n d = KD c X n d := by
  unfold KD
  exact List.map_congr_left fun i hi => goC_app c X Y (h i (List.mem_range.1 hi))
section
variable {c : Cop} {cl : List (List Bat)} {op : List Bat} (hX : OneX' c cl) {n : Nat} {d : Nat → Nat} {w : World} {F : Nat → Prop} {b : Nat} (h : CopSt w F b cl op (KD c (logM cl) n d)) {i : Nat} (hi : i < n)
include hX h hi
theorem step_kg (hd : d i < (logM cl).length) :
    Calls Tryz.prog 14 #[.pointer (some ⟨b, 0, none⟩), .int .i64 i] w fun e w' => e = .returned (.tuple #[.bool (okE (goC c (logM cl) (d i)) (logM cl)[d i]), .int .i64 0]) ∧ ∃ F', CopSt w' F' b cl op (KD c (logM cl) n (upD d i (d i + 1))) ∧ Kp F w w' F' := by
  obtain ⟨g1, g2, _, _, g5⟩ := goC_le hX.ok hX.dn hX.log.ok hX.log.len (by omega) (show d i ≤ (logM cl).length by omega)
  have ST := cstep_ok (i := i) h (by rw [kd_len]; exact hi) (by rw [kd_at _ _ _ hi]; exact g1) g5 hX.log (x := (logM cl)[d i]) (by rw [kd_at _ _ _ hi, g2]; exact List.getElem?_eq_getElem hd)
  rw [kd_at _ _ _ hi] at ST
  unfold stepK at ST
  rw [kd_at _ _ _ hi, goC_one hd, kd_set] at ST
  exact ST
theorem swait_kg (hd : d i = (logM cl).length) :
    Calls Tryz.prog 14 #[.pointer (some ⟨b, 0, none⟩), .int .i64 i] w fun e w' => e = .returned (.tuple #[.bool false, .int .i64 6]) ∧ Ext w w' := by
  obtain ⟨_, g2, _, _, _⟩ := goC_le hX.ok hX.dn hX.log.ok hX.log.len (by omega) (show d i ≤ (logM cl).length by omega)
  obtain ⟨A, hG⟩ := h
  exact cstep_wait (i := i) hG (by rw [kd_len]; exact hi) hX.log.sm hX.log.len hX.log.few (by rw [kd_at _ _ _ hi, g2]; exact hd)
theorem take_kg {j : Nat} (hj : j < n) (hd : d i ≤ d j) (hl : d j ≤ (logM cl).length) :
    Calls Tryz.prog 64 #[.pointer (some ⟨b, 0, none⟩), .int .i64 i, .int .i64 j] w fun e w' => e = .returned (.int .i64 0) ∧ ∃ F', CopSt w' F' b cl op (KD c (logM cl) n (upD d i (d j))) ∧ Kp F w w' F' := by
  obtain ⟨g1, g2, g3, g4, g5⟩ := goC_le hX.ok hX.dn hX.log.ok hX.log.len (by omega) hl
  obtain ⟨_, g2', _, _, _⟩ := goC_le hX.ok hX.dn hX.log.ok hX.log.len (by omega) (show d i ≤ (logM cl).length by omega)
  obtain ⟨A, hG⟩ := h
  have hl2 := hX.log.len
  have TK := ctake_ok hG (i := i) (j := j) (by rw [kd_len]; exact hi) (by rw [kd_len]; exact hj) (N := 30) (by rw [kd_at _ _ _ hj]; exact g1) g5 (by rw [kd_at _ _ _ hj, kd_at _ _ _ hi, g2, g2']; exact hd) (by rw [kd_at _ _ _ hj, g2]; omega)
  unfold takeK at TK
  rw [kd_at _ _ _ hj, kd_set] at TK
  exact TK
theorem twait_kg {j : Nat} (hj : j < n) (hd : d j < d i) (hl : d i ≤ (logM cl).length) :
    Calls Tryz.prog 64 #[.pointer (some ⟨b, 0, none⟩), .int .i64 i, .int .i64 j] w fun e w' => e = .returned (.int .i64 6) ∧ Ext w w' := by
  obtain ⟨_, g2, _, _, _⟩ := goC_le hX.ok hX.dn hX.log.ok hX.log.len (by omega) hl
  obtain ⟨_, g2', _, _, _⟩ := goC_le hX.ok hX.dn hX.log.ok hX.log.len (by omega) (show d j ≤ (logM cl).length by omega)
  obtain ⟨A, hG⟩ := h
  have hl2 := hX.log.len
  exact ctake_wait hG (by rw [kd_len]; exact hi) (by rw [kd_len]; exact hj) (by rw [kd_at _ _ _ hj, kd_at _ _ _ hi, g2, g2']; exact hd) (by rw [kd_at _ _ _ hi, g2]; omega)
end
/-- all entries may be -/
def OkM (cl : List (List Bat)) (op : List Bat) : Prop := (∀ i, i < cl.length → ∀ j, j < (cl.getD i []).length → ∀ x ∈ (cl.getD i []).getD j [], EntOk x) ∧ ∀ i, i < op.length → ∀ x ∈ op.getD i [], EntOk x
theorem OkM.nil (n : Nat) : OkM (List.replicate n []) (List.replicate n []) :=
  ⟨fun i hi j hj => by rw [getD_repl] at hj; simp at hj, fun i hi x hx => by rw [getD_repl'] at hx; simp at hx⟩
theorem OkM.add {cl : List (List Bat)} {op : List Bat} (h : OkM cl op) {i : Nat} (hi : i < op.length) {x : Ent} (hx : EntOk x) : OkM cl (addM op i x) := by
  refine ⟨h.1, fun j hj y hy => ?_⟩
  rw [add_len] at hj
  rw [add_at hi] at hy
  split at hy
  · rcases List.mem_append.1 hy with a | a
    · exact h.2 i hi y a
    · simp at a; subst a; exact hx
  · exact h.2 j hj y hy
theorem OkM.cls {cl : List (List Bat)} {op : List Bat} (h : OkM cl op) {i : Nat} (hi : i < cl.length) (hl : op.length = cl.length) : OkM (clsM cl i (op.getD i [])) (op.set i []) := by
  refine ⟨fun j hj k hk x hx => ?_, fun j hj x hx => ?_⟩
  · rw [cls_len] at hj
    rw [cls_at hi] at hk hx
    split at hk
    · rename_i e
      rw [if_pos e] at hx
      subst e
      rw [List.length_append, List.length_singleton] at hk
      by_cases q : k < (cl.getD j []).length
      · have e1 : (cl.getD j [] ++ [op.getD j []]).getD k [] = (cl.getD j []).getD k [] := by
          simp only [List.getD_eq_getElem?_getD]
          rw [List.getElem?_append_left (by simpa [List.getD_eq_getElem?_getD] using q)]
        rw [e1] at hx
        exact h.1 j hj k q x hx
      · have e1 : k = (cl.getD j []).length := by omega
        have e2 : (cl.getD j [] ++ [op.getD j []]).getD k [] = op.getD j [] := by
          rw [e1]
          rw [List.getD_eq_getElem?_getD, List.getElem?_append_right (Nat.le_refl _)]
          simp
        rw [e2] at hx
        exact h.2 j (by omega) x hx
    · rename_i e
      rw [if_neg e] at hx
      exact h.1 j hj k hk x hx
  · rw [List.length_set] at hj
    by_cases e : j = i
    · subst e
      have : (op.set j []).getD j [] = ([] : Bat) := by simp [List.getD_eq_getElem?_getD, List.getElem?_set_self (show j < op.length by omega)]
      rw [this] at hx; simp at hx
    · have : (op.set i []).getD j [] = op.getD j [] := by
        simp only [List.getD_eq_getElem?_getD]
        rw [List.getElem?_set_ne (fun h => e h.symm)]
      rw [this] at hx
      exact h.2 j hj x hx
theorem row_ok {cl : List (List Bat)} {r : Nat} (hr : ∀ i, i < cl.length → r < (cl.getD i []).length) (h : ∀ i, i < cl.length → ∀ j, j < (cl.getD i []).length → ∀ x ∈ (cl.getD i []).getD j [], EntOk x) : ∀ {k : Nat}, k ≤ cl.length → ∀ x ∈ rowTo cl r k, EntOk x
  | 0, _, x, hx => by simp [rowTo] at hx
  | k + 1, hk, x, hx => by
    rw [rowTo] at hx
    rcases List.mem_append.1 hx with a | a
    · exact row_ok hr h (by omega) x a
    · exact h k (by omega) r (hr k (by omega)) x a
theorem logTo_ok {cl : List (List Bat)} (h : ∀ i, i < cl.length → ∀ j, j < (cl.getD i []).length → ∀ x ∈ (cl.getD i []).getD j [], EntOk x) : ∀ {r : Nat}, r ≤ rdM cl → ∀ x ∈ logTo cl r, EntOk x
  | 0, _, x, hx => by simp [logTo] at hx
  | r + 1, hr, x, hx => by
    rw [logTo] at hx
    rcases List.mem_append.1 hx with a | a
    · exact logTo_ok h (by omega) x a
    · exact row_ok (fun i hi => by have := rdM_le hi; omega) h (Nat.le_refl _) x a
theorem OkM.log {cl : List (List Bat)} {op : List Bat} (h : OkM cl op) : ∀ x ∈ logM cl, EntOk x := logTo_ok h.1 (Nat.le_refl _)

/-- operations as Deeds makes them -/
def EntG (x : Ent) : Prop := ∀ o ∈ x.ops, OpG o
def OkGM (cl : List (List Bat)) (op : List Bat) : Prop := (∀ i, i < cl.length → ∀ j, j < (cl.getD i []).length → ∀ x ∈ (cl.getD i []).getD j [], EntG x) ∧ ∀ i, i < op.length → ∀ x ∈ op.getD i [], EntG x
theorem OkGM.nil (n : Nat) : OkGM (List.replicate n []) (List.replicate n []) :=
  ⟨fun i hi j hj => by rw [getD_repl] at hj; simp at hj, fun i hi x hx => by rw [getD_repl'] at hx; simp at hx⟩
theorem OkGM.add {cl : List (List Bat)} {op : List Bat} (h : OkGM cl op) {i : Nat} (hi : i < op.length) {x : Ent} (hx : EntG x) : OkGM cl (addM op i x) := by
  refine ⟨h.1, fun j hj y hy => ?_⟩
  rw [add_len] at hj
  rw [add_at hi] at hy
  split at hy
  · rcases List.mem_append.1 hy with a | a
    · exact h.2 i hi y a
    · simp at a; subst a; exact hx
  · exact h.2 j hj y hy
theorem OkGM.cls {cl : List (List Bat)} {op : List Bat} (h : OkGM cl op) {i : Nat} (hi : i < cl.length) (hl : op.length = cl.length) : OkGM (clsM cl i (op.getD i [])) (op.set i []) := by
  refine ⟨fun j hj k hk x hx => ?_, fun j hj x hx => ?_⟩
  · rw [cls_len] at hj
    rw [cls_at hi] at hk hx
    split at hk
    · rename_i e
      rw [if_pos e] at hx
      subst e
      rw [List.length_append, List.length_singleton] at hk
      by_cases q : k < (cl.getD j []).length
      · have e1 : (cl.getD j [] ++ [op.getD j []]).getD k [] = (cl.getD j []).getD k [] := by
          simp only [List.getD_eq_getElem?_getD]
          rw [List.getElem?_append_left (by simpa [List.getD_eq_getElem?_getD] using q)]
        rw [e1] at hx
        exact h.1 j hj k q x hx
      · have e1 : k = (cl.getD j []).length := by omega
        have e2 : (cl.getD j [] ++ [op.getD j []]).getD k [] = op.getD j [] := by
          rw [e1]
          rw [List.getD_eq_getElem?_getD, List.getElem?_append_right (Nat.le_refl _)]
          simp
        rw [e2] at hx
        exact h.2 j (by omega) x hx
    · rename_i e
      rw [if_neg e] at hx
      exact h.1 j hj k hk x hx
  · rw [List.length_set] at hj
    by_cases e : j = i
    · subst e
      have : (op.set j []).getD j [] = ([] : Bat) := by simp [List.getD_eq_getElem?_getD, List.getElem?_set_self (show j < op.length by omega)]
      rw [this] at hx; simp at hx
    · have : (op.set i []).getD j [] = op.getD j [] := by
        simp only [List.getD_eq_getElem?_getD]
        rw [List.getElem?_set_ne (fun h => e h.symm)]
      rw [this] at hx
      exact h.2 j hj x hx
theorem row_okG {cl : List (List Bat)} {r : Nat} (hr : ∀ i, i < cl.length → r < (cl.getD i []).length) (h : ∀ i, i < cl.length → ∀ j, j < (cl.getD i []).length → ∀ x ∈ (cl.getD i []).getD j [], EntG x) : ∀ {k : Nat}, k ≤ cl.length → ∀ x ∈ rowTo cl r k, EntG x
  | 0, _, x, hx => by simp [rowTo] at hx
  | k + 1, hk, x, hx => by
    rw [rowTo] at hx
    rcases List.mem_append.1 hx with a | a
    · exact row_okG hr h (by omega) x a
    · exact h k (by omega) r (hr k (by omega)) x a
theorem logTo_okG {cl : List (List Bat)} (h : ∀ i, i < cl.length → ∀ j, j < (cl.getD i []).length → ∀ x ∈ (cl.getD i []).getD j [], EntG x) : ∀ {r : Nat}, r ≤ rdM cl → ∀ x ∈ logTo cl r, EntG x
  | 0, _, x, hx => by simp [logTo] at hx
  | r + 1, hr, x, hx => by
    rw [logTo] at hx
    rcases List.mem_append.1 hx with a | a
    · exact logTo_okG h (by omega) x a
    · exact row_okG (fun i hi => by have := rdM_le hi; omega) h (Nat.le_refl _) x a
theorem OkGM.log {cl : List (List Bat)} {op : List Bat} (h : OkGM cl op) : ∀ x ∈ logM cl, EntG x := logTo_okG h.1 (Nat.le_refl _)
theorem logK_of {n a k : Nat} {cl : List (List Bat)} {op : List Bat} (h : BdM n a k cl op) (ha : a ≤ 100) (hk : k ≤ 1000000) (ho : OkM cl op) : LogK cl where
  sm := h.sm.log
  len := by have := log_many cl op; have := h.many; omega
  few := fun i hi => by have := h.len i (by rw [← h.lc]; exact hi); omega
  ok := ho.log
theorem plainE_ok {x : Ent} (h : EntOk x) : EntOk (plainE x) := by
  have he := h.ok
  unfold entE at he
  unfold plainE
  by_cases q : x.im = true
  · rw [if_pos q] at he ⊢
    exact ⟨⟨by simp, h.sm.cuts, h.sm.own⟩, ⟨fun o ho => by simp at ho, h.sz.cuts⟩, by unfold entE; rw [if_pos rfl]; exact he⟩
  · rw [if_neg q] at he ⊢
    exact ⟨⟨h.sm.ops, by simp, by simp⟩, ⟨h.sz.ops, fun k hk => by simp at hk⟩, by unfold entE; rw [if_neg (by simp)]; exact he⟩
theorem plainE_g {x : Ent} (h : EntG x) : EntG (plainE x) := by
  unfold plainE
  split
  · intro o ho; simp at ho
  · exact h
/-- where a feeding stands: j calls of it behind -/
structure FedS (w wr : World) (b inp n j : Nat) (c : Cop) (F : Nat → Prop) (cl : List (List Bat)) (op : List Bat) (d : Nat → Nat) : Prop where
  bd : BdM inp j j cl op
  ok : OkM cl op
  gd : OkGM cl op
  cop : CopSt wr F b cl op (KD c (logM cl) n d)
  dl : ∀ i, i < n → d i ≤ (logM cl).length
  E : Ext w wr
  low : ∀ q, F q → w.heap.size ≤ q
theorem FedS.ext {w wr w' : World} {b inp n j : Nat} {c : Cop} {F : Nat → Prop} {cl : List (List Bat)} {op : List Bat} {d : Nat → Nat} (h : FedS w wr b inp n j c F cl op d) (E : Ext wr w') : FedS w w' b inp n j c F cl op d :=
  { h with cop := h.cop.ext E, E := h.E.trans E }
theorem FedS.more {w wr : World} {b inp n j j' : Nat} {c : Cop} {F : Nat → Prop} {cl : List (List Bat)} {op : List Bat} {d : Nat → Nat} (h : FedS w wr b inp n j c F cl op d) (hj : j ≤ j') : FedS w wr b inp n j' c F cl op d :=
  { h with bd := h.bd.mono hj hj }
theorem FedS.start {w wr : World} {b inp n : Nat} {c : Cop} {F : Nat → Prop} (h1 : 1 ≤ inp) (h : CopSt wr F b (List.replicate inp []) (List.replicate inp []) (List.replicate n c)) (E : Ext w wr) (low : ∀ q, F q → w.heap.size ≤ q) :
    FedS w wr b inp n 0 c F (List.replicate inp []) (List.replicate inp []) (fun _ => 0) :=
  ⟨BdM.nil (by omega), OkM.nil inp, OkGM.nil inp, by rw [← kd_rep]; exact h, fun _ _ => Nat.zero_le _, E, low⟩
/-- an entry added -/
theorem FedS.add {w wr w' : World} {b inp n j : Nat} {c : Cop} {F F' : Nat → Prop} {cl : List (List Bat)} {op : List Bat} {d : Nat → Nat} (h : FedS w wr b inp n j c F cl op d) {i : Nat} (hi : i < inp) {x : Ent} (hx : EntOk x ∧ ∀ o ∈ x.ops, OpG o) (hc : CopSt w' F' b cl (addM op i (plainE x)) (KD c (logM cl) n d)) (k : Kp F wr w' F') :
    FedS w w' b inp n (j + 1) c F' cl (addM op i (plainE x)) d :=
  ⟨(h.bd.add hi (plainE_ok hx.1).sm).mono (Nat.le_refl _) (by omega), h.ok.add (by rw [h.bd.lo]; exact hi) (plainE_ok hx.1), h.gd.add (by rw [h.bd.lo]; exact hi) (plainE_g hx.2), hc, h.dl, (k.low h.E h.low).1, (k.low h.E h.low).2⟩
/-- an input closed -/
theorem FedS.cls {w wr w' : World} {b inp n j : Nat} {c : Cop} {F F' : Nat → Prop} {cl : List (List Bat)} {op : List Bat} {d : Nat → Nat} (h : FedS w wr b inp n j c F cl op d) {i : Nat} (hi : i < inp) (hc : CopSt w' F' b (clsM cl i (op.getD i [])) (op.set i []) (KD c (logM cl) n d)) (k : Kp F wr w' F') :
    FedS w w' b inp n (j + 1) c F' (clsM cl i (op.getD i [])) (op.set i []) d := by
  obtain ⟨l, hl, _⟩ := cls_more (cl := cl) (i := i) (by rw [h.bd.lc]; exact hi) (op.getD i [])
  refine ⟨(h.bd.cls hi).mono (by omega) (Nat.le_refl _), h.ok.cls (by rw [h.bd.lc]; exact hi) (by rw [h.bd.lc, h.bd.lo]), h.gd.cls (by rw [h.bd.lc]; exact hi) (by rw [h.bd.lc, h.bd.lo]), ?_, fun q hq => ?_, (k.low h.E h.low).1, (k.low h.E h.low).2⟩
  · rw [hl, kd_app c _ l n h.dl]; exact hc
  · rw [hl, List.length_append]; have := h.dl q hq; omega
/-- a copy goes on -/
theorem FedS.go {w wr w' : World} {b inp n j : Nat} {c : Cop} {F F' : Nat → Prop} {cl : List (List Bat)} {op : List Bat} {d : Nat → Nat} (h : FedS w wr b inp n j c F cl op d) {i m : Nat} (hm : m ≤ (logM cl).length) (hc : CopSt w' F' b cl op (KD c (logM cl) n (upD d i m))) (k : Kp F wr w' F') :
    FedS w w' b inp n j c F' cl op (upD d i m) :=
  ⟨h.bd, h.ok, h.gd, hc, fun q hq => by
    unfold upD
    split
    · exact hm
    · exact h.dl q hq, (k.low h.E h.low).1, (k.low h.E h.low).2⟩
theorem FedS.one {w wr : World} {b inp n j : Nat} {c : Cop} {F : Nat → Prop} {cl : List (List Bat)} {op : List Bat} {d : Nat → Nat} (h : FedS w wr b inp n j c F cl op d) (hj : j ≤ 100) (ok : CopOk 30 c) (dn : c.dn = 0) : OneX' c cl := ⟨ok, dn, logK_of h.bd hj (by omega) h.ok⟩
theorem cadd_any {w : World} {F : Nat → Prop} {b : Nat} {A : CopA} {cl : List (List Bat)} {op : List Bat} {K : List Cop} (h : CopG w F b A cl op K) {inp j : Nat} (bd : BdM inp j j cl op) (hj : j ≤ 55) {i : Nat} (hi : i < inp) (e : EV) (x : Ent) (hx : EntSeg w e x) (ok : EntOk x) :
    Calls Tryz.prog 11 #[.pointer (some ⟨A.bm, 0, none⟩), .int .i64 i, evV e] w fun r w' => r = .returned (.int .i64 0) ∧ ∃ F', CopSt w' F' b cl (addM op i (plainE x)) K ∧ Kp F w w' F' := by
  have hm := bd.many
  refine (madd_ok h.mer i (by rw [bd.lc]; exact hi) e x hx ok.sm ok.sz ok.ok (by omega) (fun q hq => ?_) ?_).mono ?_
  · have := bd.len q (by rw [← bd.lc]; exact hq); omega
  · have := op_many (cl := cl) (op := op) (i := i) (by rw [bd.lc]; exact hi); omega
  · rintro r w' ⟨rfl, S', hM, hk⟩
    obtain ⟨F', g, k⟩ := h.merge hM hk
    exact ⟨rfl, F', ⟨_, g⟩, k⟩
theorem cclose_any {w : World} {F : Nat → Prop} {b : Nat} {A : CopA} {cl : List (List Bat)} {op : List Bat} {K : List Cop} (h : CopG w F b A cl op K) {inp j : Nat} (bd : BdM inp j j cl op) (hj : j ≤ 55) {i : Nat} (hi : i < inp) :
    Calls Tryz.prog 12 #[.pointer (some ⟨A.bm, 0, none⟩), .int .i64 i] w fun r w' => (∃ m : Nat, r = .returned (.tuple #[.int .i64 m, .int .i64 0])) ∧ ∃ F', CopSt w' F' b (clsM cl i (op.getD i [])) (op.set i []) K ∧ Kp F w w' F' := by
  refine (mclose_ok h.mer i (by rw [bd.lc]; exact hi) (by have := bd.len i hi; omega)).mono ?_
  rintro r w' ⟨rfl, S', hM, hk⟩
  obtain ⟨F', g, k⟩ := h.merge hM hk
  exact ⟨⟨_, rfl⟩, F', ⟨_, g⟩, k⟩
end Go.Proofs.YtnepdfpooobmcaaGreat
