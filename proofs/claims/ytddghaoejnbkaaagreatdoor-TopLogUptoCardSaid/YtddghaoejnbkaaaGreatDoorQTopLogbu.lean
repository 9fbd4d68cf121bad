/- Contracts and lemmas for the proof of TopLog; each theorem states its own conditions. -/
import Derived.Test.YtddghaoejnbkaaaGreatDoorQTopLogbt
import Derived.Test.YtddghaoejnbkaaaGreatDoorQTopLogbg
set_option linter.unusedVariables false
set_option linter.unusedSimpArgs false
/- Contracts and lemmas for the proofs of this seat; each theorem states its own conditions. -/
namespace Go.Proofs.YtddghaoejnbkaaaGreatDoor
open Go.RowKit
/-! copies over any log: their contracts; what a feeding keeps -/
structure OneX' (c : Cop) (cl : List (List Bat)) : Prop where
  ok : CopOk 30 c
  dn : c.dn = 0
  log : LogK cl
theorem goC_app (c : Cop) (X Y : List Ent) : ∀ {d : Nat}, d ≤ X.length → goC c (X ++ Y) d = goC c X d
  | 0, _ => rfl
  | d + 1, h => by
    rw [goC, goC, goC_app c X Y (show d ≤ X.length by omega)]
    congr 1
    simp only [List.getD_eq_getElem?_getD]
    rw [List.getElem?_append_left (by omega)]
theorem kd_app (c : Cop) (X Y : List Ent) (n : Nat) {d : Nat → Nat} (h : ∀ i, i < n → d i ≤ X.length) : KD c (X ++ Y) n d = KD c X n d := by
  unfold KD
  exact List.map_congr_left fun i hi => goC_app c X Y (h i (List.mem_range.1 hi))
section
variable {c : Cop} {cl : List (List Bat)} {op : List Bat} (hX : OneX' c cl) {n : Nat} {d : Nat → Nat} {w : World} {F : Nat → Prop} {b : Nat} (h : CopSt w F b cl op (KD c (logM cl) n d)) {i : Nat} (hi : i < n)
include hX h hi
theorem step_kg (hd : d i < (logM cl).length) :
    Calls Tryz.prog 17 #[.pointer (some ⟨b, 0, none⟩), .int .i64 i] w fun e w' => e = .returned (.tuple #[.bool (okE (goC c (logM cl) (d i)) (logM cl)[d i]), .int .i64 0]) ∧ ∃ F', CopSt w' F' b cl op (KD c (logM cl) n (upD d i (d i + 1))) ∧ Kp F w w' F' := by
  obtain ⟨g1, g2, _, _, g5⟩ := goC_le hX.ok hX.dn hX.log.ok hX.log.len (by omega) (show d i ≤ (logM cl).length by omega)
  have ST := cstep_ok (i := i) h (by rw [kd_len]; exact hi) (by rw [kd_at _ _ _ hi]; exact g1) g5 hX.log (x := (logM cl)[d i]) (by rw [kd_at _ _ _ hi, g2]; exact List.getElem?_eq_getElem hd)
  rw [kd_at _ _ _ hi] at ST
  unfold stepK at ST
  rw [kd_at _ _ _ hi, goC_one hd, kd_set] at ST
  exact ST
theorem swait_kg (hd : d i = (logM cl).length) :
    Calls Tryz.prog 17 #[.pointer (some ⟨b, 0, none⟩), .int .i64 i] w fun e w' => e = .returned (.tuple #[.bool false, .int .i64 6]) ∧ Ext w w' := by
  obtain ⟨_, g2, _, _, _⟩ := goC_le hX.ok hX.dn hX.log.ok hX.log.len (by omega) (show d i ≤ (logM cl).length by omega)
  obtain ⟨A, hG⟩ := h
  exact cstep_wait (i := i) hG (by rw [kd_len]; exact hi) hX.log.sm hX.log.len hX.log.few (by rw [kd_at _ _ _ hi, g2]; exact hd)
theorem all_kg (hd : d i ≤ (logM cl).length) :
    Calls Tryz.prog 18 #[.pointer (some ⟨b, 0, none⟩), .int .i64 i] w fun e w' => ∃ v', e = .returned (.tuple #[v', .int .i64 0]) ∧ w'.ownsRow w.heap.size 62 2 v' (goC c (logM cl) (d i)).S.length (cP (goC c (logM cl) (d i)).S) ∧ Ext w w' := by
  obtain ⟨g1, g2, g3, _, g5⟩ := goC_le hX.ok hX.dn hX.log.ok hX.log.len (by omega) hd
  obtain ⟨A, hG⟩ := h
  have AL := call_ok hG (i := i) (by rw [kd_len]; exact hi) (N := 30) (by rw [kd_at _ _ _ hi]; exact g1) (by rw [kd_at _ _ _ hi]; omega)
  simp only [kd_at _ _ _ hi] at AL
  exact AL
theorem take_kg {j : Nat} (hj : j < n) (hd : d i ≤ d j) (hl : d j ≤ (logM cl).length) :
    Calls Tryz.prog 20 #[.pointer (some ⟨b, 0, none⟩), .int .i64 i, .int .i64 j] w fun e w' => e = .returned (.int .i64 0) ∧ ∃ F', CopSt w' F' b cl op (KD c (logM cl) n (upD d i (d j))) ∧ Kp F w w' F' := by
  obtain ⟨g1, g2, g3, g4, g5⟩ := goC_le hX.ok hX.dn hX.log.ok hX.log.len (by omega) hl
  obtain ⟨_, g2', _, _, _⟩ := goC_le hX.ok hX.dn hX.log.ok hX.log.len (by omega) (show d i ≤ (logM cl).length by omega)
  obtain ⟨A, hG⟩ := h
  have hl2 := hX.log.len
  have TK := ctake_ok hG (i := i) (j := j) (by rw [kd_len]; exact hi) (by rw [kd_len]; exact hj) (N := 30) (by rw [kd_at _ _ _ hj]; exact g1) g5 (by rw [kd_at _ _ _ hj, kd_at _ _ _ hi, g2, g2']; exact hd) (by rw [kd_at _ _ _ hj, g2]; omega)
  unfold takeK at TK
  rw [kd_at _ _ _ hj, kd_set] at TK
  exact TK
theorem twait_kg {j : Nat} (hj : j < n) (hd : d j < d i) (hl : d i ≤ (logM cl).length) :
    Calls Tryz.prog 20 #[.pointer (some ⟨b, 0, none⟩), .int .i64 i, .int .i64 j] w fun e w' => e = .returned (.int .i64 6) ∧ Ext w w' := by
  obtain ⟨_, g2, _, _, _⟩ := goC_le hX.ok hX.dn hX.log.ok hX.log.len (by omega) hl
  obtain ⟨_, g2', _, _, _⟩ := goC_le hX.ok hX.dn hX.log.ok hX.log.len (by omega) (show d j ≤ (logM cl).length by omega)
  obtain ⟨A, hG⟩ := h
  have hl2 := hX.log.len
  exact ctake_wait hG (by rw [kd_len]; exact hi) (by rw [kd_len]; exact hj) (by rw [kd_at _ _ _ hj, kd_at _ _ _ hi, g2, g2']; exact hd) (by rw [kd_at _ _ _ hi, g2]; omega)
end
/-- all entries may be -/
def OkM (cl : List (List Bat)) (op : List Bat) : Prop := (∀ i, i < cl.length → ∀ j, j < (cl.getD i []).length → ∀ x ∈ (cl.getD i []).getD j [], EntOk x) ∧ ∀ i, i < op.length → ∀ x ∈ op.getD i [], EntOk x
theorem OkM.nil (n : Nat) : OkM (List.replicate n []) (List.replicate n []) :=
  ⟨fun i hi j hj => by rw [getD_repl] at hj; simp at hj, fun i hi x hx => by rw [getD_repl'] at hx; simp at hx⟩
theorem OkM.add {cl : List (List Bat)} {op : List Bat} (h : OkM cl op) {i : Nat} (hi : i < op.length) {x : Ent} (hx : EntOk x) : OkM cl (addM op i x) := by
  refine ⟨h.1, fun j hj y hy => ?_⟩
  rw [add_len] at hj
  rw [add_at hi] at hy
  split at hy
  · rcases List.mem_append.1 hy with a | a
    · exact h.2 i hi y a
    · simp at a; subst a; exact hx
  · exact h.2 j hj y hy
theorem OkM.cls {cl : List (List Bat)} {op : List Bat} (h : OkM cl op) {i : Nat} (hi : i < cl.length) (hl : op.length = cl.length) : OkM (clsM cl i (op.getD i [])) (op.set i []) := by
  refine ⟨fun j hj k hk x hx => ?_, fun j hj x hx => ?_⟩
  · rw [cls_len] at hj
    rw [cls_at hi] at hk hx
    split at hk
    · rename_i e
      rw [if_pos e] at hx
      subst e
      rw [List.length_append, List.length_singleton] at hk
      by_cases q : k < (cl.getD j []).length
      · have e1 : (cl.getD j [] ++ [op.getD j []]).getD k [] = (cl.getD j []).getD k [] := by
          simp only [List.getD_eq_getElem?_getD]
          rw [List.getElem?_append_left (by simpa [List.getD_eq_getElem?_getD] using q)]
        rw [e1] at hx
        exact h.1 j hj k q x hx
      · have e1 : k = (cl.getD j []).length := by omega
        have e2 : (cl.getD j [] ++ [op.getD j []]).getD k [] = op.getD j [] := by
          rw [e1]
          rw [List.getD_eq_getElem?_getD, List.getElem?_append_right (Nat.le_refl _)]
          simp
        rw [e2] at hx
        exact h.2 j (by omega) x hx
    · rename_i e
      rw [if_neg e] at hx
      exact h.1 j hj k hk x hx
  · rw [List.length_set] at hj
    by_cases e : j = i
    · subst e
      have : (op.set j []).getD j [] = ([] : Bat) := by simp [List.getD_eq_getElem?_getD, List.getElem?_set_self (show j < op.length by omega)]
      rw [this] at hx; simp at hx
    · have : (op.set i []).getD j [] = op.getD j [] := by
        simp only [List.getD_eq_getElem?_getD]
        rw [List.getElem?_set_ne (fun h => e h.symm)]
      rw [this] at hx
      exact h.2 j hj x hx
theorem row_ok {cl : List (List Bat)} {r : Nat} (hr : ∀ i, i < cl.length → r < (cl.getD i []).length) (h : ∀ i, i < cl.length → ∀ j, j < (cl.getD i []).length → ∀ x ∈ (cl.getD i []).getD j [], EntOk x) : ∀ {k : Nat}, k ≤ cl.length → ∀ x ∈ rowTo cl r k, EntOk x
  | 0, _, x, hx => by simp [rowTo] at hx
  | k + 1, hk, x, hx => by
    rw [rowTo] at hx
    rcases List.mem_append.1 hx with a | a
    · exact row_ok hr h (by omega) x a
    · exact h k (by omega) r (hr k (by omega)) x a
theorem logTo_ok {cl : List (List Bat)} (h : ∀ i, i < cl.length → ∀ j, j < (cl.getD i []).length → ∀ x ∈ (cl.getD i []).getD j [], EntOk x) : ∀ {r : Nat}, r ≤ rdM cl → ∀ x ∈ logTo cl r, EntOk x
  | 0, _, x, hx => by simp [logTo] at hx
  | r + 1, hr, x, hx => by
    rw [logTo] at hx
    rcases List.mem_append.1 hx with a | a
    · exact logTo_ok h (by omega) x a
    · exact row_ok (fun i hi => by have := rdM_le hi; omega) h (Nat.le_refl _) x a
theorem OkM.log {cl : List (List Bat)} {op : List Bat} (h : OkM cl op) : ∀ x ∈ logM cl, EntOk x := logTo_ok h.1 (Nat.le_refl _)

/-- operations as Deeds makes them -/
def EntG (x : Ent) : Prop := ∀ o ∈ x.ops, OpG o
def OkGM (cl : List (List Bat)) (op : List Bat) : Prop := (∀ i, i < cl.length → ∀ j, j < (cl.getD i []).length → ∀ x ∈ (cl.getD i []).getD j [], EntG x) ∧ ∀ i, i < op.length → ∀ x ∈ op.getD i [], EntG x
theorem OkGM.nil (n : Nat) : OkGM (List.replicate n []) (List.replicate n []) :=
  ⟨fun i hi j hj => by rw [getD_repl] at hj; simp at hj, fun i hi x hx => by rw [getD_repl'] at hx; simp at hx⟩
theorem OkGM.add {cl : List (List Bat)} {op : List Bat} (h : OkGM cl op) {i : Nat} (hi : i < op.length) {x : Ent} (hx : EntG x) : OkGM cl (addM op i x) := by
  refine ⟨h.1, fun j hj y hy => ?_⟩
  rw [add_len] at hj
  rw [add_at hi] at hy
  split at hy
  · rcases List.mem_append.1 hy with a | a
    · exact h.2 i hi y a
    · simp at a; subst a; exact hx
  · exact h.2 j hj y hy
theorem OkGM.cls {cl : List (List Bat)} {op : List Bat} (h : OkGM cl op) {i : Nat} (hi : i < cl.length) (hl : op.length = cl.length) : OkGM (clsM cl i (op.getD i [])) (op.set i []) := by
  refine ⟨fun j hj k hk x hx => ?_, fun j hj x hx => ?_⟩
  · rw [cls_len] at hj
    rw [cls_at hi] at hk hx
    split at hk
    · rename_i e
      rw [if_pos e] at hx
      subst e
      rw [List.length_append, List.length_singleton] at hk
      by_cases q : k < (cl.getD j []).length
      · have e1 : (cl.getD j [] ++ [op.getD j []]).getD k [] = (cl.getD j []).getD k [] := by
          simp only [List.getD_eq_getElem?_getD]
          rw [List.getElem?_append_left (by simpa [List.getD_eq_getElem?_getD] using q)]
        rw [e1] at hx
        exact h.1 j hj k q x hx
      · have e1 : k = (cl.getD j []).length := by omega
        have e2 : (cl.getD j [] ++ [op.getD j []]).getD k [] = op.getD j [] := by
          rw [e1]
          rw [List.getD_eq_getElem?_getD, List.getElem?_append_right (Nat.le_refl _)]
          simp
        rw [e2] at hx
        exact h.2 j (by omega) x hx
    · rename_i e
      rw [if_neg e] at hx
      exact h.1 j hj k hk x hx
  · rw [List.length_set] at hj
    by_cases e : j = i
    · subst e
      have : (op.set j []).getD j [] = ([] : Bat) := by simp [List.getD_eq_getElem?_getD, List.getElem?_set_self (show j < op.length by omega)]
      rw [this] at hx; simp at hx
    · have : (op.set i []).getD j [] = op.getD j [] := by
        simp only [List.getD_eq_getElem?_getD]
        rw [List.getElem?_set_ne (fun h => e h.symm)]
      rw [this] at hx
      exact h.2 j hj x hx
theorem row_okG {cl : List (List Bat)} {r : Nat} (hr : ∀ i, i < cl.length → r < (cl.getD i []).length) (h : ∀ i, i < cl.length → ∀ j, j < (cl.getD i []).length → ∀ x ∈ (cl.getD i []).getD j [], EntG x) : ∀ {k : Nat}, k ≤ cl.length → ∀ x ∈ rowTo cl r k, EntG x
  | 0, _, x, hx => by simp [rowTo] at hx
  | k + 1, hk, x, hx => by
    rw [rowTo] at hx
    rcases List.mem_append.1 hx with a | a
    · exact row_okG hr h (by omega) x a
    · exact h k (by omega) r (hr k (by omega)) x a
theorem logTo_okG {cl : List (List Bat)} (h : ∀ i, i < cl.length → ∀ j, j < (cl.getD i []).length → ∀ x ∈ (cl.getD i []).getD j [], EntG x) : ∀ {r : Nat}, r ≤ rdM cl → ∀ x ∈ logTo cl r, EntG x
  | 0, _, x, hx => by simp [logTo] at hx
  | r + 1, hr, x, hx => by
    rw [logTo] at hx
    rcases List.mem_append.1 hx with a | a
    · exact logTo_okG h (by omega) x a
    · exact row_okG (fun i hi => by have := rdM_le hi; omega) h (Nat.le_refl _) x a
theorem OkGM.log {cl : List (List Bat)} {op : List Bat} (h : OkGM cl op) : ∀ x ∈ logM cl, EntG x := logTo_okG h.1 (Nat.le_refl _)
theorem logK_of {n a k : Nat} {cl : List (List Bat)} {op : List Bat} (h : BdM n a k cl op) (ha : a ≤ 100) (hk : k ≤ 1000000) (ho : OkM cl op) : LogK cl where
  sm := h.sm.log
  len := by have := log_many cl op; have := h.many; omega
  few := fun i hi => by have := h.len i (by rw [← h.lc]; exact hi); omega
  ok := ho.log
theorem plainE_ok {x : Ent} (h : EntOk x) : EntOk (plainE x) := by
  have he := h.ok
  unfold entE at he
  unfold plainE
  by_cases q : x.im = true
  · rw [if_pos q] at he ⊢
    exact ⟨⟨by simp, h.sm.cuts, h.sm.own⟩, ⟨fun o ho => by simp at ho, h.sz.cuts⟩, by unfold entE; rw [if_pos rfl]; exact he⟩
  · rw [if_neg q] at he ⊢
    exact ⟨⟨h.sm.ops, by simp, by simp⟩, ⟨h.sz.ops, fun k hk => by simp at hk⟩, by unfold entE; rw [if_neg (by simp)]; exact he⟩
theorem plainE_g {x : Ent} (h : EntG x) : EntG (plainE x) := by
  unfold plainE
  split
  · intro o ho; simp at ho
  · exact h
/-- where a feeding stands: j calls of it behind -/
structure FedS (w wr : World) (b inp n j : Nat) (c : Cop) (F : Nat → Prop) (cl : List (List Bat)) (op : List Bat) (d : Nat → Nat) : Prop where
  bd : BdM inp j j cl op
  ok : OkM cl op
  gd : OkGM cl op
  cop : CopSt wr F b cl op (KD c (logM cl) n d)
  dl : ∀ i, i < n → d i ≤ (logM cl).length
  E : Ext w wr
  low : ∀ q, F q → w.heap.size ≤ q
theorem FedS.ext {w wr w' : World} {b inp n j : Nat} {c : Cop} {F : Nat → Prop} {cl : List (List Bat)} {op : List Bat} {d : Nat → Nat} (h : FedS w wr b inp n j c F cl op d) (E : Ext wr w') : FedS w w' b inp n j c F cl op d :=
  { h with cop := h.cop.ext E, E := h.E.trans E }
theorem FedS.more {w wr : World} {b inp n j j' : Nat} {c : Cop} {F : Nat → Prop} {cl : List (List Bat)} {op : List Bat} {d : Nat → Nat} (h : FedS w wr b inp n j c F cl op d) (hj : j ≤ j') : FedS w wr b inp n j' c F cl op d :=
  { h with bd := h.bd.mono hj hj }
theorem FedS.start {w wr : World} {b inp n : Nat} {c : Cop} {F : Nat → Prop} (h1 : 1 ≤ inp) (h : CopSt wr F b (List.replicate inp []) (List.replicate inp []) (List.replicate n c)) (E : Ext w wr) (low : ∀ q, F q → w.heap.size ≤ q) :
    FedS w wr b inp n 0 c F (List.replicate inp []) (List.replicate inp []) (fun _ => 0) :=
  ⟨BdM.nil (by omega), OkM.nil inp, OkGM.nil inp, by rw [← kd_rep]; exact h, fun _ _ => Nat.zero_le _, E, low⟩
/-- an entry added -/
theorem FedS.add {w wr w' : World} {b inp n j : Nat} {c : Cop} {F F' : Nat → Prop} {cl : List (List Bat)} {op : List Bat} {d : Nat → Nat} (h : FedS w wr b inp n j c F cl op d) {i : Nat} (hi : i < inp) {x : Ent} (hx : EntOk x ∧ ∀ o ∈ x.ops, OpG o) (hc : CopSt w' F' b cl (addM op i (plainE x)) (KD c (logM cl) n d)) (k : Kp F wr w' F') :
    FedS w w' b inp n (j + 1) c F' cl (addM op i (plainE x)) d :=
  ⟨(h.bd.add hi (plainE_ok hx.1).sm).mono (Nat.le_refl _) (by omega), h.ok.add (by rw [h.bd.lo]; exact hi) (plainE_ok hx.1), h.gd.add (by rw [h.bd.lo]; exact hi) (plainE_g hx.2), hc, h.dl, (k.low h.E h.low).1, (k.low h.E h.low).2⟩
/-- an input closed -/
theorem FedS.cls {w wr w' : World} {b inp n j : Nat} {c : Cop} {F F' : Nat → Prop} {cl : List (List Bat)} {op : List Bat} {d : Nat → Nat} (h : FedS w wr b inp n j c F cl op d) {i : Nat} (hi : i < inp) (hc : CopSt w' F' b (clsM cl i (op.getD i [])) (op.set i []) (KD c (logM cl) n d)) (k : Kp F wr w' F') :
    FedS w w' b inp n (j + 1) c F' (clsM cl i (op.getD i [])) (op.set i []) d := by
  obtain ⟨l, hl, _⟩ := cls_more (cl := cl) (i := i) (by rw [h.bd.lc]; exact hi) (op.getD i [])
  refine ⟨(h.bd.cls hi).mono (by omega) (Nat.le_refl _), h.ok.cls (by rw [h.bd.lc]; exact hi) (by rw [h.bd.lc, h.bd.lo]), h.gd.cls (by rw [h.bd.lc]; exact hi) (by rw [h.bd.lc, h.bd.lo]), ?_, fun q hq => ?_, (k.low h.E h.low).1, (k.low h.E h.low).2⟩
  · rw [hl, kd_app c _ l n h.dl]; exact hc
  · rw [hl, List.length_append]; have := h.dl q hq; omega
/-- a copy goes on -/
theorem FedS.go {w wr w' : World} {b inp n j : Nat} {c : Cop} {F F' : Nat → Prop} {cl : List (List Bat)} {op : List Bat} {d : Nat → Nat} (h : FedS w wr b inp n j c F cl op d) {i m : Nat} (hm : m ≤ (logM cl).length) (hc : CopSt w' F' b cl op (KD c (logM cl) n (upD d i m))) (k : Kp F wr w' F') :
    FedS w w' b inp n j c F' cl op (upD d i m) :=
  ⟨h.bd, h.ok, h.gd, hc, fun q hq => by
    unfold upD
    split
    · exact hm
    · exact h.dl q hq, (k.low h.E h.low).1, (k.low h.E h.low).2⟩
theorem FedS.one {w wr : World} {b inp n j : Nat} {c : Cop} {F : Nat → Prop} {cl : List (List Bat)} {op : List Bat} {d : Nat → Nat} (h : FedS w wr b inp n j c F cl op d) (hj : j ≤ 100) (ok : CopOk 30 c) (dn : c.dn = 0) : OneX' c cl := ⟨ok, dn, logK_of h.bd hj (by omega) h.ok⟩
theorem cadd_any {w : World} {F : Nat → Prop} {b : Nat} {A : CopA} {cl : List (List Bat)} {op : List Bat} {K : List Cop} (h : CopG w F b A cl op K) {inp j : Nat} (bd : BdM inp j j cl op) (hj : j ≤ 55) {i : Nat} (hi : i < inp) (e : EV) (x : Ent) (hx : EntSeg w e x) (ok : EntOk x) :
    Calls Tryz.prog 13 #[.pointer (some ⟨A.bm, 0, none⟩), .int .i64 i, evV e] w fun r w' => r = .returned (.int .i64 0) ∧ ∃ F', CopSt w' F' b cl (addM op i (plainE x)) K ∧ Kp F w w' F' := by
  have hm := bd.many
  refine (madd_ok h.mer i (by rw [bd.lc]; exact hi) e x hx ok.sm ok.sz ok.ok (by omega) (fun q hq => ?_) ?_).mono ?_
  · have := bd.len q (by rw [← bd.lc]; exact hq); omega
  · have := op_many (cl := cl) (op := op) (i := i) (by rw [bd.lc]; exact hi); omega
  · rintro r w' ⟨rfl, S', hM, hk⟩
    obtain ⟨F', g, k⟩ := h.merge hM hk
    exact ⟨rfl, F', ⟨_, g⟩, k⟩
theorem cclose_any {w : World} {F : Nat → Prop} {b : Nat} {A : CopA} {cl : List (List Bat)} {op : List Bat} {K : List Cop} (h : CopG w F b A cl op K) {inp j : Nat} (bd : BdM inp j j cl op) (hj : j ≤ 55) {i : Nat} (hi : i < inp) :
    Calls Tryz.prog 14 #[.pointer (some ⟨A.bm, 0, none⟩), .int .i64 i] w fun r w' => (∃ m : Nat, r = .returned (.tuple #[.int .i64 m, .int .i64 0])) ∧ ∃ F', CopSt w' F' b (clsM cl i (op.getD i [])) (op.set i []) K ∧ Kp F w w' F' := by
  refine (mclose_ok h.mer i (by rw [bd.lc]; exact hi) (by have := bd.len i hi; omega)).mono ?_
  rintro r w' ⟨rfl, S', hM, hk⟩
  obtain ⟨F', g, k⟩ := h.merge hM hk
  exact ⟨⟨_, rfl⟩, F', ⟨_, g⟩, k⟩
end Go.Proofs.YtddghaoejnbkaaaGreatDoor

/- Contracts and lemmas for the proofs of this seat; each theorem states its own conditions. -/
namespace Go.Proofs.YtddghaoejnbkaaaGreatDoor
open Go.RowKit
/-! TopLog: what comes of entries that were read, in plain lists -/
theorem doP_bare (l : Prs) {o : GOp} (h : OpOk o) : doP l (bareO o) = doP l o := by
  have hk := h.kinds
  obtain ⟨k, key, fr, n⟩ := o
  simp only at hk
  rcases hk with rfl | rfl | rfl | rfl | rfl <;> simp [bareO, doP]
theorem runP_bare : ∀ (d : Ops) (l : Prs), (∀ o ∈ d, OpOk o) → runP l (d.map bareO) = runP l d
  | [], _, _ => rfl
  | o :: d, l, h => by
    rw [List.map_cons, runP, runP, doP_bare l (h o (by simp))]
    split
    · exact runP_bare d _ fun p hp => h p (by simp [hp])
    · rfl
theorem doE_plain (c : Cop) (x : Ent) : doE c (plainE x) = doE c x := by
  unfold plainE
  split
  · rename_i h; unfold doE; rw [if_pos rfl, if_pos h]
  · rename_i h; unfold doE; rw [if_neg (by simp), if_neg h]
theorem okE_plain (c : Cop) (x : Ent) : okE c (plainE x) = okE c x := by
  unfold plainE
  split
  · rename_i h; unfold okE; rw [if_pos rfl, if_pos h]
  · rename_i h; unfold okE; rw [if_neg (by simp), if_neg h]
theorem ent_ops {x : Ent} (h : EntOk x) (hi : ¬ x.im = true) : DeedOk x.ops := by
  have he := h.ok
  unfold entE at he
  rw [if_neg hi] at he
  exact deed_ok he
theorem doE_bare (c : Cop) {x : Ent} (h : EntOk x) : doE c (bareE x) = doE c x := by
  unfold bareE
  by_cases hi : x.im = true
  · rw [if_pos hi]; unfold doE; rw [if_pos rfl, if_pos hi]
  · rw [if_neg hi]; unfold doE; rw [if_neg (by simp), if_neg hi]
    have e := runP_bare x.ops c.S (ent_ops h hi).ops
    simp only [runS, runB, e]
theorem okE_bare (c : Cop) {x : Ent} (h : EntOk x) : okE c (bareE x) = okE c x := by
  unfold bareE
  by_cases hi : x.im = true
  · rw [if_pos hi]; unfold okE; rw [if_pos rfl, if_pos hi]
  · rw [if_neg hi]; unfold okE; rw [if_neg (by simp), if_neg hi]
    have e := runP_bare x.ops c.S (ent_ops h hi).ops
    simp only [runB, e]
theorem bareE_ok {x : Ent} (h : EntOk x) : EntOk (bareE x) := by
  unfold bareE
  by_cases hi : x.im = true
  · rw [if_pos hi]
    have he := h.ok
    unfold entE at he
    rw [if_pos hi] at he
    exact ⟨⟨by simp, h.sm.cuts, h.sm.own⟩, ⟨fun o ho => by simp at ho, h.sz.cuts⟩, by unfold entE; rw [if_pos rfl]; exact he⟩
  · rw [if_neg hi]
    have hd := ent_ops h hi
    refine ⟨⟨by simpa using h.sm.ops, by simp, by simp⟩, ⟨fun o ho => ?_, fun k hk => by simp at hk⟩, by unfold entE; rw [if_neg (by simp)]; exact deedE_ok (bare_ops hd)⟩
    obtain ⟨p, hp, rfl⟩ := List.mem_map.1 ho
    have hs := h.sz.ops p hp
    unfold bareO
    split
    · exact hs
    · split
      · exact hs
      · exact ⟨hs.1, by show (⟨#[]⟩ : ByteArray).size ≤ _; decide⟩
/-- what goes in: the log, and what was read of it -/
def tlA (X : List Ent) : List Ent := X.map plainE
def tlB (X : List Ent) (m : Nat) : List Ent := ((X.take m).map bareE).map plainE
theorem tlA_len (X : List Ent) : (tlA X).length = X.length := by simp [tlA]
theorem tlB_len {X : List Ent} {m : Nat} (h : m ≤ X.length) : (tlB X m).length = m := by simp [tlB]; omega
theorem tlA_ok {X : List Ent} (h : ∀ x ∈ X, EntOk x) : ∀ y ∈ tlA X, EntOk y := by
  intro y hy
  obtain ⟨x, hx, rfl⟩ := List.mem_map.1 hy
  exact plainE_ok (h x hx)
theorem tlB_ok {X : List Ent} (h : ∀ x ∈ X, EntOk x) (m : Nat) : ∀ y ∈ tlB X m, EntOk y := by
  intro y hy
  obtain ⟨z, hz, rfl⟩ := List.mem_map.1 hy
  obtain ⟨x, hx, rfl⟩ := List.mem_map.1 hz
  exact plainE_ok (bareE_ok (h x (List.mem_of_mem_take hx)))
theorem tlA_at {X : List Ent} {k : Nat} (h : k < X.length) : (tlA X).getD k entZ = plainE X[k] := by simp [tlA, h]
theorem tlB_at {X : List Ent} {m k : Nat} (h : k < m) (hm : m ≤ X.length) : (tlB X m).getD k entZ = plainE (bareE (X[k]'(by omega))) := by
  have : k < X.length := by omega
  simp [tlB, h, this]
theorem go_tlB (c : Cop) {X : List Ent} (hX : ∀ x ∈ X, EntOk x) {m : Nat} (hm : m ≤ X.length) : ∀ {k : Nat}, k ≤ m → goC c (tlB X m) k = goC c (tlA X) k
  | 0, _ => rfl
  | k + 1, hk => by
    have hkx : k < X.length := by omega
    rw [goC, goC, go_tlB c hX hm (k := k) (by omega), tlA_at hkx, tlB_at (by omega) hm, doE_plain, doE_plain, doE_bare _ (hX _ (List.getElem_mem hkx))]
theorem ok_tlB (c : Cop) {X : List Ent} (hX : ∀ x ∈ X, EntOk x) {m k : Nat} (hm : m ≤ X.length) (hk : k < m) (h1 : k < (tlA X).length) (h2 : k < (tlB X m).length) : okE (goC c (tlB X m) k) (tlB X m)[k] = okE (goC c (tlA X) k) (tlA X)[k] := by
  have hkx : k < X.length := by omega
  have e1 : (tlA X)[k] = plainE X[k] := by simp [tlA]
  have e2 : (tlB X m)[k] = plainE (bareE X[k]) := by simp [tlB]
  rw [e1, e2, okE_plain, okE_plain, go_tlB c hX hm (by omega), okE_bare _ (hX _ (List.getElem_mem hkx))]
theorem entL_of {x : Ent} (h : EntOk x) (g : EntG x) : EntL x := ⟨h.sz, h.ok, fun o ho => by have := (g o ho).n0; have := (g o ho).n8; omega⟩
theorem tlA_succ {X : List Ent} {k : Nat} (h : k < X.length) : (X.take (k + 1)).map plainE = (X.take k).map plainE ++ [plainE X[k]] := by
  rw [List.take_succ_eq_append_getElem h, List.map_append]; rfl
end Go.Proofs.YtddghaoejnbkaaaGreatDoor

/- Contracts and lemmas for the proofs of this seat; each theorem states its own conditions. -/
namespace Go.Proofs.YtddghaoejnbkaaaGreatDoor
open Go.RowKit
/-! copies beside copies -/
/-- a merge, when what F names turns -/
theorem MergeSt.beside {eB : Nat} {w w' : World} {F F' S : Nat → Prop} {bm : Nat} {cl : List (List Bat)} {op : List Bat} (h : MergeSt eB w S bm cl op) (ty : TyS w F cTy) (hi : ∀ q cs fr, F q → w.heap[q]? = some (.cells cs 3 fr) → q < eB) (dis : ∀ q, S q → ¬ F q) (k : Kp F w w' F') : MergeSt eB w' S bm cl op := by
  obtain ⟨bc, bo, vc, vo, h⟩ := h
  have hp : ∀ {q : Nat} {o : Obj}, w.heap[q]? = some o → S q → w'.heap[q]? = some o := fun a b => k.heap a (dis _ b)
  have ow : ∀ {B e sz n : Nat} {v : Value} {xs : List Value}, w.ownsRow B e sz v n xs → InS S v → w'.ownsRow B e sz v n xs := fun a b => k.own a (fun q hq => dis q (b q hq))
  have ent : ∀ {e : EV} {x : Ent}, EntSt eB w e x → EntSt eB w' e x := fun s => ⟨k.own s.ops (ty.off s.ops op_cTy.1), s.im, k.own s.cuts (ty.off s.cuts op_cTy.2.1), k.own s.own (fun q hq hF => by
    obtain ⟨cur, hc⟩ := own_some s.own hq
    have h1 := own_ge s.own q hq
    have h2 := hi q _ _ hF hc
    omega)⟩
  have bat : ∀ {u : Value} {b : Bat}, BatSt eB w S u b → BatSt eB w' S u b := by
    rintro u b ⟨es, a, c, d⟩
    exact ⟨es, ⟨a.1, fun j e x p q => ent (a.2 j e x p q)⟩, ow c d, d⟩
  refine ⟨bc, bo, vc, vo, h.n0, h.n4, h.ln, fun q hq => ?_, h.sm, h.sc, h.so, hp h.box h.sm, hp h.crow h.sc, hp h.orow h.so, fun i hi' => ?_, fun i hi' => bat (h.opn i hi'), h.clz, h.cbo, h.opz, Nat.le_trans h.bs k.size⟩
  · obtain ⟨cs, e, hc, hx⟩ := h.ty q hq
    exact ⟨cs, e, hp hc hq, hx⟩
  · obtain ⟨us, a1, a2, a3, a4⟩ := h.cls i hi'
    exact ⟨us, a1, ow a2 a3, a3, fun j u b p q => ⟨bat (a4 j u b p q).1, (a4 j u b p q).2⟩⟩
/-- copies, when other copies turn -/
theorem CopG.beside {w w' : World} {F F' G : Nat → Prop} {b : Nat} {A : CopA} {cl : List (List Bat)} {op : List Bat} {K : List Cop} (h : CopG w G b A cl op K) (ty : TyS w F cTy) {d : Nat} (fi : ∀ q cs fr, F q → w.heap[q]? = some (.cells cs 3 fr) → q = d) (hz : A.Z d) (hl : d < A.eB) (dis : ∀ q, G q → ¬ F q) (k : Kp F w w' F') : CopG w' G b A cl op K := by
  have hp : ∀ {q : Nat} {o : Obj}, w.heap[q]? = some o → G q → w'.heap[q]? = some o := fun a b => k.heap a (dis _ b)
  have ow : ∀ {B e sz n : Nat} {v : Value} {xs : List Value}, w.ownsRow B e sz v n xs → InS G v → w'.ownsRow B e sz v n xs := fun a b => k.own a (fun q hq => dis q (b q hq))
  exact { h with
    box := hp h.box h.fb
    mer := h.mer.beside ty (fun q cs fr a b => by rw [fi q cs fr a b]; exact hl) (fun q hq => dis q (h.fS q hq)) k
    zb := fun q hq => Nat.lt_of_lt_of_le (h.zb q hq) k.size
    lrow := ow h.lrow h.fl
    drow := hp h.drow h.fd
    orow := hp h.orow h.fo
    parts := fun i hi => by
      have p := h.parts i hi
      exact ⟨hp p.box (h.ft i hi), k.own p.cuts (ty.off p.cuts op_cTy.2.1), k.own p.owners (fun q hq hF => by
        obtain ⟨cur, hc⟩ := own_some p.owners hq
        have e := fi q _ _ hF hc
        exact h.far i hi q hq (e ▸ hz)), fun j hj => k.own (p.rows j hj) (ty.off (p.rows j hj) op_cTy.2.2.1)⟩
    oks := fun i hi => ow (h.oks i hi) (h.fv i hi)
    fi := fun q cs fr hq hc => by
      obtain ⟨cs', e, hc', _⟩ := h.ty q hq
      rw [hp hc' hq] at hc
      injection hc with hc; injection hc with h3 h4 h5
      subst h3; subst h4; subst h5
      exact h.fi q _ _ hq hc'
    ty := fun q hq => by
      obtain ⟨cs', e, hc, hx⟩ := h.ty q hq
      exact ⟨cs', e, hp hc hq, hx⟩ }
/-- copies to which nothing came: another zone -/
theorem CopG.reZ {w : World} {F : Nat → Prop} {b : Nat} {A : CopA} {n : Nat} {K : List Cop} (h : CopG w F b A (List.replicate n []) (List.replicate n []) K) (Z : Nat → Prop) (eB : Nat) (far : ∀ i, i < K.length → ∀ k, (A.vs i).ownBlock = some k → ¬ Z k) (zd : Z A.bd) (zb : ∀ k, Z k → k < w.heap.size) (zl : A.bd < eB) (hB : eB ≤ w.heap.size) : CopG w F b { A with Z := Z, eB := eB } (List.replicate n []) (List.replicate n []) K :=
  ⟨⟨h.k0, h.k4, h.box, h.mer.rebase hB, h.lrow, h.drow, h.orow, h.parts, h.oks, far, h.okz, h.btz, zd, zb, zl, h.fi, h.ty, h.fb, h.fd, h.fo, h.fl, h.ft, h.fv⟩, h.fS⟩
/-- two copies beside each other -/
structure TwoC (w : World) (F G : Nat → Prop) (b g : Nat) (A B : CopA) (cl : List (List Bat)) (op : List Bat) (K : List Cop) (cl' : List (List Bat)) (op' : List Bat) (K' : List Cop) : Prop where
  one : CopG w F b A cl op K
  two : CopG w G g B cl' op' K'
  za : A.Z B.bd
  zb : B.Z A.bd
  la : B.bd < A.eB
  lb : A.bd < B.eB
  dis : ∀ q, F q → ¬ G q
theorem TwoC.ext {w w' : World} {F G : Nat → Prop} {b g : Nat} {A B : CopA} {cl cl' : List (List Bat)} {op op' : List Bat} {K K' : List Cop} (h : TwoC w F G b g A B cl op K cl' op' K') (E : Ext w w') : TwoC w' F G b g A B cl op K cl' op' K' :=
  { h with one := h.one.ext E, two := h.two.ext E }
theorem TwoC.swap {w : World} {F G : Nat → Prop} {b g : Nat} {A B : CopA} {cl cl' : List (List Bat)} {op op' : List Bat} {K K' : List Cop} (h : TwoC w F G b g A B cl op K cl' op' K') : TwoC w G F g b B A cl' op' K' cl op K :=
  ⟨h.two, h.one, h.zb, h.za, h.lb, h.la, fun q a b => h.dis q b a⟩
/-- the first ones turn -/
theorem TwoC.turn {w w' : World} {F G F' : Nat → Prop} {b g : Nat} {A B : CopA} {cl cl' cl2 : List (List Bat)} {op op' op2 : List Bat} {K K' K2 : List Cop} (h : TwoC w F G b g A B cl op K cl' op' K') (t : CopE A w' F' b cl2 op2 K2) (k : Kp F w w' F') : ∃ A', TwoC w' F' G b g A' B cl2 op2 K2 cl' op' K' := by
  obtain ⟨A', a, hz, hb, hd⟩ := t
  refine ⟨A', a, h.two.beside h.one.ty h.one.fi h.zb h.lb (fun q a b => h.dis q b a) k, by rw [hz]; exact h.za, by rw [hd]; exact h.zb, by rw [hb]; exact h.la, by rw [hd]; exact h.lb, fun q hq hg => ?_⟩
  rcases k.2.2 q hq with c | c
  · exact h.dis q c hg
  · have := h.two.ty.lt hg; omega
/-- two copies, one made behind the other -/
theorem TwoC.new {w0 w1 w2 : World} {F G : Nat → Prop} {b g inp n inp' n' : Nat} {c c' : Cop} (h : CopN w0 w1 F b inp n c) (E : Ext w1 w2) (h' : CopN w1 w2 G g inp' n' c') (hG : ∀ q, G q → w1.heap.size ≤ q) : ∃ A B, TwoC w2 F G b g A B (List.replicate inp []) (List.replicate inp []) (List.replicate n c) (List.replicate inp' []) (List.replicate inp' []) (List.replicate n' c') := by
  obtain ⟨A, a, _⟩ := h
  obtain ⟨B, d, z, zl⟩ := h'
  have la := a.ty.lt a.fd
  have lB := d.ty.lt d.fd
  have gB := hG _ d.fd
  refine ⟨_, B, (a.ext E).reZ (fun k => k = A.bd ∨ k = B.bd) w2.heap.size (fun i hi k hk hz => ?_) (.inl rfl) (fun k hz => ?_) (by have := E.size'; show A.bd < _; omega) (Nat.le_refl _), d, .inr rfl, z _ la, lB, Nat.lt_of_lt_of_le la zl, fun q hq hg => ?_⟩
  · rcases hz with e | e
    · exact a.farD hi (by rw [hk, e])
    · have := ((a.parts i hi).owners.lt k hk).2
      omega
  · have := E.size'
    rcases hz with e | e <;> omega
  · have := a.ty.lt hq
    have := hG q hg
    omega
theorem step_kgE {c : Cop} {cl : List (List Bat)} {op : List Bat} (hX : OneX' c cl) {n : Nat} {d : Nat → Nat} {w : World} {F : Nat → Prop} {b : Nat} {A : CopA} (h : CopG w F b A cl op (KD c (logM cl) n d)) {i : Nat} (hi : i < n) (hd : d i < (logM cl).length) :
    Calls Tryz.prog 17 #[.pointer (some ⟨b, 0, none⟩), .int .i64 i] w fun e w' => e = .returned (.tuple #[.bool (okE (goC c (logM cl) (d i)) (logM cl)[d i]), .int .i64 0]) ∧ ∃ F', CopE A w' F' b cl op (KD c (logM cl) n (upD d i (d i + 1))) ∧ Kp F w w' F' := by
  obtain ⟨g1, g2, _, _, g5⟩ := goC_le hX.ok hX.dn hX.log.ok hX.log.len (by omega) (show d i ≤ (logM cl).length by omega)
  have ST := cstep_okE (i := i) h (by rw [kd_len]; exact hi) (by rw [kd_at _ _ _ hi]; exact g1) g5 hX.log (x := (logM cl)[d i]) (by rw [kd_at _ _ _ hi, g2]; exact List.getElem?_eq_getElem hd)
  rw [kd_at _ _ _ hi] at ST
  unfold stepK at ST
  rw [kd_at _ _ _ hi, goC_one hd, kd_set] at ST
  exact ST
theorem cadd_oneE {w : World} {F : Nat → Prop} {b : Nat} {A : CopA} {P : Bat} {K : List Cop} (h : CopG w F b A [[]] [P] K) (e : EV) (x : Ent) (hx : EntSeg w e x) (ok : EntOk x) (hp : P.length < 60) :
    Calls Tryz.prog 13 #[.pointer (some ⟨A.bm, 0, none⟩), .int .i64 0, evV e] w fun r w' => r = .returned (.int .i64 0) ∧ ∃ F', CopE A w' F' b [[]] [P ++ [plainE x]] K ∧ Kp F w w' F' := by
  refine (madd_ok h.mer 0 (by simp) e x hx ok.sm ok.sz ok.ok (by simp [manyM, manyTo]; omega) (fun i hi => ?_) (by simpa using hp)).mono ?_
  · have : i = 0 := by simp at hi; omega
    subst this; simp
  · rintro r w' ⟨rfl, S', hM, hk⟩
    obtain ⟨F', g, k⟩ := h.merge hM hk
    exact ⟨rfl, F', ⟨_, g, rfl, rfl, rfl⟩, k⟩
theorem cclose_oneE {w : World} {F : Nat → Prop} {b : Nat} {A : CopA} {P : Bat} {K : List Cop} (h : CopG w F b A [[]] [P] K) :
    Calls Tryz.prog 14 #[.pointer (some ⟨A.bm, 0, none⟩), .int .i64 0] w fun r w' => r = .returned (.tuple #[.int .i64 1, .int .i64 0]) ∧ ∃ F', CopE A w' F' b [[P]] [[]] K ∧ Kp F w w' F' := by
  refine (mclose_ok h.mer 0 (by simp) (by simp)).mono ?_
  rintro r w' ⟨rfl, S', hM, hk⟩
  obtain ⟨F', g, k⟩ := h.merge hM hk
  exact ⟨rfl, F', ⟨_, g, rfl, rfl, rfl⟩, k⟩
end Go.Proofs.YtddghaoejnbkaaaGreatDoor
