/- Contracts and lemmas for the proof of LockPlays; each theorem states its own conditions. -/
import Derived.Test.YtomgeolmfpijoaaDoorQLockPlaysbe
import Derived.Test.YtomgeolmfpijoaaDoorQLockPlaysac
import Derived.Test.YtomgeolmfpijoaaDoorQLockPlaysbh
import Derived.Test.YtomgeolmfpijoaaDoorQLockPlaysbf
import Derived.Test.YtomgeolmfpijoaaDoorQLockPlaysbr
import Derived.Test.YtomgeolmfpijoaaDoorQLockPlaysbs
import Derived.Test.YtomgeolmfpijoaaDoorQLockPlaysbp
import Derived.Test.YtomgeolmfpijoaaDoorQLockPlaysbm
set_option linter.unusedVariables false
set_option linter.unusedSimpArgs false
/- Contracts and lemmas for the proofs of this seat; each theorem states its own conditions. -/
namespace Go.Proofs.YtomgeolmfpijoaaDoor
open Go.RowKit
/-! deed.meet, deed.Clash -/
theorem meet1_any (x : ByteArray) (b : Nat) (v : Value) (L : List ByteArray) (w : World) (hb : w.cell? ⟨b, 0, none⟩ = some v) (hv : Seg w v 1 L.length (cS L)) :
    Calls Tryd.prog 185 #[.string x, .pointer (some ⟨b, 0, none⟩)] w fun e w' => e = .returned (.bool (conS L x)) ∧ Ext w w' := by
  have C := hid (conS_any v L x w hv)
  clear hv
  go_enter Tryd.func185, Tryd.ntmps185
  go_wp2_with fail
  refine (C.out).mono ?_
  rintro e w' ⟨rfl, rfl⟩
  go_wp2
  go_ret
  exact ⟨rfl, Ext.refl _⟩
theorem conS_mem (L : List ByteArray) (x : ByteArray) : conS L x = memB L x := rfl
theorem meets_any (a b : List ByteArray) : a.any (fun k => conS b k) = meets a b := by
  rfl
set_option maxRecDepth 10000 in
set_option maxHeartbeats 1000000 in
theorem meet_any (va vb : Value) (a b : List ByteArray) (w : World) (ha : Seg w va 1 a.length (cS a)) (hb : Seg w vb 1 b.length (cS b)) :
    Calls Tryd.prog 155 #[va, vb] w fun e w' => e = .returned (.bool (meets a b)) ∧ Ext w w' := by
  obtain ⟨ab, cb, rfl⟩ := seg_form hb
  have E0 := (Ext.refl w).alloc (.cells #[.slice ab b.length cb] 26)
  have c0 := cell_of_one (heap_alloc_new w (.cells #[.slice ab b.length cb] 26))
  have C := containsF_Str 185 #[.pointer (some ⟨w.heap.size, 0, none⟩)] (enters_of Tryd.func185 (by kernel_rfl) rfl) (fun k => conS b k) va a (w.alloc (.cells #[.slice ab b.length cb] 26)) (ha.ext E0) (fun x _ w' E => meet1_any x w.heap.size _ b w' (E.cell c0) ((hb.ext E0).ext E))
  rw [meets_any] at C
  have C := hid C
  have hmf : ∀ (fn : Fn) (first cap : Array Value) (w : World), (Instr.makeFunc fn first cap).run Tryd.prog w = .ok (.func fn first cap) w := fun _ _ _ _ => rfl
  clear ha hb
  go_enter Tryd.func155, Tryd.ntmps155
  go_wp2_with fail
  refine (C.out).mono ?_
  rintro e w' ⟨rfl, Ea⟩
  go_wp2
  go_ret
  exact ⟨rfl, E0.trans Ea⟩
theorem clash_sort (a b : Ops) : (meets (sortU (wrs a)) (sortU (wrs b)) || meets (sortU (wrs a)) (sortU (rds b)) || meets (sortU (rds a)) (sortU (wrs b))) = clashB a b := by
  unfold clashB
  rw [meets_congr (sortU_mem (wrs a)) (sortU_mem (wrs b)), meets_congr (sortU_mem (wrs a)) (sortU_mem (rds b)), meets_congr (sortU_mem (rds a)) (sortU_mem (wrs b))]
set_option maxRecDepth 10000 in
set_option maxHeartbeats 1000000 in
theorem clash_ok (va vb : Value) (a b : Ops) (w : World) (ha : Seg w va 4 a.length (cO a)) (hb : Seg w vb 4 b.length (cO b)) (oa : DeedOk a) (ob : DeedOk b) (fa : ∀ o ∈ a, o.from_.size ≤ 9223372036854775807) (fb : ∀ o ∈ b, o.from_.size ≤ 9223372036854775807) :
    Calls Tryd.prog 111 #[.agg #[va], .agg #[vb]] w fun e w' => e = .returned (.tuple #[.bool (clashB a b), .int .i64 0]) ∧ Ext w w' := by
  obtain ⟨x1, c1, rfl⟩ := seg_form ha
  obtain ⟨x2, c2, rfl⟩ := seg_form hb
  have b1 := heap_1 w (.cells #[.slice x1 a.length c1] 46) (.cells #[.slice x2 b.length c2] 46)
  have b2 := heap_2 w (.cells #[.slice x1 a.length c1] 46) (.cells #[.slice x2 b.length c2] 46)
  have E := ((Ext.refl w).alloc (.cells #[.slice x1 a.length c1] 46)).alloc (.cells #[.slice x2 b.length c2] 46)
  have y1 := cell_of_one b1
  have y2 := cell_of_one b2
  have K1 := hid (keys_ok (.slice x1 a.length c1) a _ (ha.ext E) oa fa)
  have hb := hb.ext E
  clear b1 b2 ha
  go_enter Tryd.func111, Tryd.ntmps111
  go_wp2_with fail
  refine (K1.out).mono ?_
  clear K1
  rintro e w1 ⟨r, u, rfl, hr, hu, E1⟩
  have z2 := E1.cell y2
  replace hb := hb.ext E1
  replace E := E.trans E1
  have sr := own_seg hr
  have su := own_seg hu
  have K2 := hid (keys_ok (.slice x2 b.length c2) b _ hb ob fb)
  clear y1 y2 E1 hr hu hb
  go_wp2_with fail
  refine (K2.out).mono ?_
  clear K2
  rintro e w2 ⟨s, t, rfl, hs, ht, E1⟩
  replace sr := sr.ext E1
  replace su := su.ext E1
  replace E := E.trans E1
  have ss := own_seg hs
  have st := own_seg ht
  have M1 := hid (meet_any _ _ _ _ _ su st)
  have CS := hid (clash_sort a b)
  clear E1 hs ht z2
  cases m1 : meets (sortU (wrs a)) (sortU (wrs b)) with
  | true =>
    rw [m1] at M1 CS
    clear m1
    go_wp2_with fail
    refine (M1.out).mono ?_
    rintro e w3 ⟨rfl, E1⟩
    have hres := hid (show clashB a b = true by rw [← CS.out]; rfl)
    go_wp2
    go_ret2
    exact ⟨rT2 (vB hres.out.symm) rfl, E.trans E1⟩
  | false =>
    rw [m1] at M1 CS
    clear m1
    go_wp2_with fail
    refine (M1.out).mono ?_
    rintro e w3 ⟨rfl, E1⟩
    replace sr := sr.ext E1
    replace su := su.ext E1
    replace ss := ss.ext E1
    replace st := st.ext E1
    replace E := E.trans E1
    have M2 := hid (meet_any _ _ _ _ _ su ss)
    clear E1 M1
    cases m2 : meets (sortU (wrs a)) (sortU (rds b)) with
    | true =>
      rw [m2] at M2 CS
      clear m2
      go_wp2_with fail
      refine (M2.out).mono ?_
      rintro e w4 ⟨rfl, E1⟩
      have hres := hid (show clashB a b = true by rw [← CS.out]; rfl)
      go_wp2
      go_ret2
      exact ⟨rT2 (vB hres.out.symm) rfl, E.trans E1⟩
    | false =>
      rw [m2] at M2 CS
      clear m2
      go_wp2_with fail
      refine (M2.out).mono ?_
      rintro e w4 ⟨rfl, E1⟩
      replace sr := sr.ext E1
      replace st := st.ext E1
      replace E := E.trans E1
      have M3 := hid (meet_any _ _ _ _ _ sr st)
      clear E1 M2
      have hres := hid (show clashB a b = meets (sortU (rds a)) (sortU (wrs b)) by rw [← CS.out]; rfl)
      clear CS
      go_wp2_with fail
      refine (M3.out).mono ?_
      rintro e w5 ⟨rfl, E1⟩
      go_wp2
      go_ret2
      exact ⟨rT2 (vB hres.out.symm) rfl, E.trans E1⟩
end Go.Proofs.YtomgeolmfpijoaaDoor

/- Contracts and lemmas for the proofs of this seat; each theorem states its own conditions. -/
namespace Go.Proofs.YtomgeolmfpijoaaDoor
open Go.RowKit Go.Maps
/-! rokeep.lockBegun -/
theorem lnew_ok (w : World) : Calls Tryd.prog 42 #[] w fun e w' => ∃ bt bk bd, e = .returned (.pointer (some ⟨bt, 0, none⟩)) ∧ LockSt w' w.heap.size bt bk bd [] (fun _ => false) (fun _ => none) (fun _ => none) ∧ Ext w w' := by
  refine (lnew_any w).mono ?_
  rintro e w' ⟨rfl, h, E⟩
  exact ⟨_, _, _, rfl, h, E⟩
def setA : Ops := [⟨1, ⟨#[97]⟩, ⟨#[]⟩, 0⟩]
theorem setA_ok : deedE setA = 0 := by decide +kernel
theorem ready_one (d : Ops) : readyL [d] (fun _ => false) 1 = [0] := by
  have h := ready_succ [d] (fun _ => false) 0
  have m : mayB [d] (fun _ => false) 0 = true := by simp [mayB]
  rw [m] at h
  have z : readyL [d] (fun _ => false) 0 = [] := by simp [readyL]
  rw [z] at h
  simpa using h
theorem cN_cI (l : List Nat) : cN l = cI (l.map fun (n : Nat) => (n : Int)) := by simp [cN, cI]
end Go.Proofs.YtomgeolmfpijoaaDoor

/- Contracts and lemmas for the proofs of this seat; each theorem states its own conditions. -/
namespace Go.Proofs.YtomgeolmfpijoaaDoor
/-! orders of deeds, in plain lists -/
def evO (A : List Ops) (v : Vls) : List Nat → Vls
  | [] => v
  | i :: q => evO A (stepV v (A.getD i [])) q
def trO (A : List Ops) (v : Vls) : List Nat → List (Nat × Bool)
  | [] => []
  | i :: q => (i, okV v (A.getD i [])) :: trO A (stepV v (A.getD i [])) q
theorem evO_app (A : List Ops) (v : Vls) (p q : List Nat) : evO A v (p ++ q) = evO A (evO A v p) q := by
  induction p generalizing v with
  | nil => rfl
  | cons i p ih => exact ih _
theorem trO_app (A : List Ops) (v : Vls) (p q : List Nat) : trO A v (p ++ q) = trO A v p ++ trO A (evO A v p) q := by
  induction p generalizing v with
  | nil => rfl
  | cons i p ih => simp only [List.cons_append, trO, evO, ih]
theorem trO_fst (A : List Ops) (v : Vls) (q : List Nat) : (trO A v q).map (·.1) = q := by
  induction q generalizing v with
  | nil => rfl
  | cons i q ih => simp [trO, ih]
/-- every order in which what clashes stands as it did -/
def AdmO (A : List Ops) (ord : List Nat) : Prop := ∀ p s q, ord = p ++ s :: q → ∀ t, t < s → t ∉ p → clashB (A.getD t []) (A.getD s []) = false
/-- one goes behind those that it does not clash with -/
theorem move_end {A : List Ops} (hA : ∀ i, ∀ o ∈ A.getD i [], OpOk o) {m : Nat} : ∀ {q : List Nat} {v : Vls}, (∀ t ∈ q, clashB (A.getD t []) (A.getD m []) = false) →
    evO A v (m :: q) = evO A v (q ++ [m]) ∧ ∀ i b, (i, b) ∈ trO A v (m :: q) ↔ (i, b) ∈ trO A v (q ++ [m])
  | [], v, _ => ⟨rfl, fun _ _ => Iff.rfl⟩
  | t :: q, v, h => by
    have hc := h t (by simp)
    obtain ⟨b1, b2, b3⟩ := bernstein (hA t) (hA m) hc v
    obtain ⟨i1, i2⟩ := move_end hA (q := q) (v := stepV v (A.getD t [])) (fun u hu => h u (by simp [hu]))
    constructor
    · have : evO A v (m :: t :: q) = evO A (stepV v (A.getD t [])) (m :: q) := by
        simp only [evO]; rw [b1]
      rw [this, i1]; rfl
    · intro i b
      have e2 := i2 i b
      simp only [List.cons_append, trO, List.mem_cons] at e2 ⊢
      rw [b1] at e2
      rw [b2] at e2
      rw [b3, ← e2]
      constructor
      · rintro (a | a | a)
        · exact .inr (.inl a)
        · exact .inl a
        · exact .inr (.inr a)
      · rintro (a | a | a)
        · exact .inr (.inl a)
        · exact .inl a
        · exact .inr (.inr a)
theorem adm_ser {A : List Ops} (hA : ∀ i, ∀ o ∈ A.getD i [], OpOk o) : ∀ {n : Nat} {ord : List Nat} {v : Vls}, AdmO A ord → ord.Nodup → (∀ i, i ∈ ord ↔ i < n) →
    evO A v ord = evO A v (List.range n) ∧ ∀ i b, (i, b) ∈ trO A v ord ↔ (i, b) ∈ trO A v (List.range n)
  | 0, ord, v, _, _, h => by
    have : ord = [] := by
      cases ord with
      | nil => rfl
      | cons i q => have := (h i).1 (by simp); omega
    subst this
    exact ⟨rfl, fun _ _ => Iff.rfl⟩
  | n + 1, ord, v, ha, hn, h => by
    obtain ⟨p, q, rfl⟩ := List.append_of_mem ((h n).2 (by omega))
    have hn' := hn
    rw [List.nodup_append, List.nodup_cons] at hn
    obtain ⟨n1, ⟨n2, n3⟩, n4⟩ := hn
    have hnp : n ∉ p := fun hp => n4 n hp n (by simp) rfl
    have hq : ∀ t ∈ q, clashB (A.getD t []) (A.getD n []) = false := fun t ht => by
      have h1 := (h t).1 (by simp [ht])
      have hne : t ≠ n := fun e => n2 (e ▸ ht)
      exact ha p n q rfl t (by omega) (fun hp => n4 t hp t (by simp [ht]) rfl)
    obtain ⟨m1, m2⟩ := move_end hA (v := evO A v p) hq
    have hpq : AdmO A (p ++ q) := by
      intro p' s r e t hts ht
      rcases List.append_eq_append_iff.1 e with ⟨a, e1, e2⟩ | ⟨a, e1, e2⟩
      · -- p' = p ++ a, q = a ++ s :: r
        subst e1
        have hs := (h s).1 (by rw [e2]; simp)
        have hsn : s ≠ n := fun e => n2 (by rw [e2, ← e]; simp)
        refine ha (p ++ n :: a) s r (by rw [e2]; simp) t hts ?_
        simp only [List.mem_append, List.mem_cons] at ht ⊢
        rintro (x | x | x)
        · exact ht (.inl x)
        · omega
        · exact ht (.inr x)
      · -- p = p' ++ a, s :: r = a ++ q
        cases a with
        | nil =>
          simp at e1 e2
          subst e1
          have hs := (h s).1 (by rw [← e2]; simp)
          have hsn : s ≠ n := fun e => n2 (by rw [← e2, ← e]; simp)
          refine ha (p ++ [n]) s r (by rw [← e2]; simp) t hts ?_
          simp only [List.mem_append, List.mem_singleton]
          rintro (x | x)
          · exact ht x
          · omega
        | cons s' a =>
          simp at e2
          obtain ⟨rfl, rfl⟩ := e2
          exact ha p' s (a ++ n :: q) (by rw [e1]; simp) t hts ht
    have hnd : (p ++ q).Nodup := by
      rw [List.nodup_append]
      exact ⟨n1, n3, fun a hp b hb => n4 a hp b (by simp [hb])⟩
    have hmem : ∀ i, i ∈ p ++ q ↔ i < n := fun i => by
      have hi := h i
      simp only [List.mem_append, List.mem_cons] at hi ⊢
      constructor
      · intro hh
        have h1 : i < n + 1 := hi.1 (by rcases hh with x | x; exact .inl x; exact .inr (.inr x))
        have : i ≠ n := by rintro rfl; rcases hh with x | x; exact hnp x; exact n2 x
        omega
      · intro hh
        rcases hi.2 (by omega) with x | x | x
        · exact .inl x
        · omega
        · exact .inr x
    obtain ⟨i1, i2⟩ := adm_ser hA (v := v) hpq hnd hmem
    rw [List.range_succ]
    constructor
    · rw [evO_app, m1, ← evO_app, ← List.append_assoc, evO_app, i1, ← evO_app]
    · intro i b
      have e2 := m2 i b
      have e3 := i2 i b
      rw [trO_app, List.mem_append] at e2 e3
      rw [trO_app, trO_app, List.mem_append, List.mem_append, e2, ← e3, ← i1, evO_app]
      rw [or_assoc]
end Go.Proofs.YtomgeolmfpijoaaDoor
