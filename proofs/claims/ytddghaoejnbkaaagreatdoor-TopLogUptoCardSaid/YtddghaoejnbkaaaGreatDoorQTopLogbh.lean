/- Contracts and lemmas for the proof of TopLog; each theorem states its own conditions. -/
import Derived.Test.YtddghaoejnbkaaaGreatDoorQTopLogbg
import Derived.Test.YtddghaoejnbkaaaGreatDoorQTopLogai
import Derived.Test.YtddghaoejnbkaaaGreatDoorQTopLogax
import Derived.Test.YtddghaoejnbkaaaGreatDoorQTopLogaw
import Derived.Test.YtddghaoejnbkaaaGreatDoorQTopLogan
import Derived.Shelf.Abstract
set_option linter.unusedVariables false
set_option linter.unusedSimpArgs false
/- Contracts and lemmas for the proofs of this seat; each theorem states its own conditions. -/
namespace Go.Proofs.YtddghaoejnbkaaaGreatDoor
open Go.RowKit
/-! rokeep.mergeBegun, rokeep.fed -/
theorem SegLL.in {w : World} {v : Value} {ls : List (List Int)} (h : SegLL w v ls) : ∃ (a : Option Addr) (c : Nat) (us : List Value), v = .slice a ls.length c ∧ ls.length ≤ c ∧ c ≤ maxLen ∧ us.length = ls.length ∧ (0 < ls.length → ∃ b off, a = some ⟨b, off, none⟩ ∧ ∀ j u, us[j]? = some u → w.cell? ⟨b, off + j, none⟩ = some u) ∧ ∀ (i : Nat) (u : Value) (m : List Int), us[i]? = some u → ls[i]? = some m → Seg w u 1 m.length (cI m) := by
  obtain ⟨us, h1, ⟨_, a, c, rfl, h2, h3, h4⟩, h5⟩ := h
  rw [h1] at h2 h4 ⊢
  exact ⟨a, c, us, rfl, h2, h3, h1, h4, h5⟩
/-- entries that lie beside what turns -/
def EntsO (w : World) (S : Nat → Prop) (v : Value) (X : List Ent) : Prop := ∃ es, EntsSt 0 w es X ∧ Seg w v 4 X.length (cEn es) ∧ ∀ b off n c, v = .slice (some ⟨b, off, none⟩) n c → 0 < X.length → ¬ S b
theorem EntsO.seg {w : World} {S : Nat → Prop} {v : Value} {X : List Ent} (h : EntsO w S v X) : EntsSeg w v X := by
  obtain ⟨es, h1, h2, _⟩ := h
  exact ⟨es, h1.1, h2, fun j e x a b => (h1.2 j e x a b).seg⟩
theorem EntsO.kp {S S' : Nat → Prop} {w w' : World} (ty : TyS w S mTy) (k : Kp S w w' S') {v : Value} {X : List Ent} (h : EntsO w S v X) : EntsO w' S' v X := by
  obtain ⟨es, h1, ⟨g0, a, c, rfl, g1, g2, g3⟩, h3⟩ := h
  by_cases hn : 0 < X.length
  · obtain ⟨b, off, rfl, hc⟩ := g3 hn
    have hb := h3 b off _ _ rfl hn
    have hlt : b < w.heap.size := by
      have := hc 0 ((cEn es)[0]'(by rw [g0]; omega)) (List.getElem?_eq_getElem _)
      exact World.block_lt_of_cell? _ ⟨b, off + 0, none⟩ this
    have hblk := k.2.1 b hlt hb
    refine ⟨es, h1.kp ty k, ⟨g0, _, _, rfl, g1, g2, fun _ => ⟨b, off, rfl, fun j u hu => ?_⟩⟩, fun b' off' n c' e _ => ?_⟩
    · have := hc j u hu
      simp only [World.cell?] at this ⊢
      rw [hblk]; exact this
    · injection e with e _ _; injection e with e; injection e with e1 e2
      subst e1
      exact k.out hlt hb
  · exact ⟨es, h1.kp ty k, ⟨g0, _, _, rfl, g1, g2, fun h => absurd h hn⟩, fun _ _ _ _ _ h => absurd h hn⟩
theorem EntsO.ext {S : Nat → Prop} {w w' : World} {v : Value} {X : List Ent} (h : EntsO w S v X) (E : Ext w w') : EntsO w' S v X := by
  obtain ⟨es, h1, h2, h3⟩ := h
  exact ⟨es, h1.ext E, h2.ext E, h3⟩
structure EntOk (x : Ent) : Prop where
  sm : EntSm x
  sz : EntSz x
  ok : entE x = 0
theorem SegLL.low {w0 w w' : World} {S S' : Nat → Prop} {v : Value} {ls : List (List Int)} (h : SegLL w0 v ls) (E : Ext w0 w) (k : Kp S w w' S') (hS : ∀ i, S i → w0.heap.size ≤ i) : SegLL w' v ls := h.ext (k.low E hS).1
end Go.Proofs.YtddghaoejnbkaaaGreatDoor

/- Contracts and lemmas for the proofs of this seat; each theorem states its own conditions. -/
namespace Go.Proofs.YtddghaoejnbkaaaGreatDoor
open Go.RowKit
/-! MergeGrows: what is used besides -/
/-- one entry of some -/
theorem EntsO.one {w : World} {S : Nat → Prop} {b off c i : Nat} {X : List Ent} (h : EntsO w S (.slice (some ⟨b, off, none⟩) X.length c) X) (hi : i < X.length) : EntsO w S (.slice (some ⟨b, off + i * 4, none⟩) 1 (c - i)) [X[i]] := by
  obtain ⟨es, h1, h2, h3⟩ := h
  have hie : i < es.length := by have := h1.1; omega
  obtain ⟨b', off', he, _, p1, p2, hc⟩ := seg_cells h2 (by omega)
  injection he with he; injection he with e1 e2
  subst e1; subst e2
  obtain ⟨x0, x1, x2, x3⟩ := cEn_at es hie
  replace x0 := hc _ _ x0
  replace x1 := hc _ _ x1
  replace x2 := hc _ _ x2
  replace x3 := hc _ _ x3
  refine ⟨[es[i]], ⟨rfl, fun j e x a b => ?_⟩, ⟨rfl, _, _, rfl, (show 1 ≤ c - i by omega), by omega, fun _ => ⟨b, _, rfl, fun j u hu => ?_⟩⟩, fun b' off' n' c' e _ => ?_⟩
  · have hj : j = 0 := by have := (List.getElem?_eq_some_iff.1 a).1; simp at this; omega
    subst hj; simp at a b; subst a; subst b
    exact h1.2 i _ _ (List.getElem?_eq_getElem hie) (List.getElem?_eq_getElem hi)
  · have hcell : ∀ m, off + i * 4 + m = off + (i * 4 + m) := fun m => by omega
    rw [hcell]
    have hu' : (evC es[i])[j]? = some u := by simpa [cEn] using hu
    rcases j with _ | _ | _ | _ | j
    · simp [evC] at hu'; subst hu'; exact x0
    · simp [evC] at hu'; subst hu'; exact x1
    · simp [evC] at hu'; subst hu'; exact x2
    · simp [evC] at hu'; subst hu'; exact x3
    · simp [evC] at hu'
  · injection e with e _ _; injection e with e; injection e with e1 e2
    subst e1
    exact h3 b off _ _ rfl (by omega)
theorem EntsO.nil (w : World) (S : Nat → Prop) : EntsO w S (.slice none 0 0) [] := ⟨[], EntsSt.nil w, Seg.nil _ _, fun b off n c h => by cases h⟩
/-- one list of some -/
theorem SegLL.one {w : World} {b off c i : Nat} {ls : List (List Int)} (h : SegLL w (.slice (some ⟨b, off, none⟩) ls.length c) ls) (hi : i < ls.length) : SegLL w (.slice (some ⟨b, off + i, none⟩) 1 (c - i)) [ls[i]] := by
  obtain ⟨us, h1, h2, h3⟩ := h
  have hiu : i < us.length := by omega
  obtain ⟨b', off', he, _, p1, p2, hc⟩ := seg_cells h2 (by omega)
  injection he with he; injection he with e1 e2
  subst e1; subst e2
  have x0 := hc i us[i] (List.getElem?_eq_getElem hiu)
  refine ⟨[us[i]], rfl, ⟨rfl, _, _, rfl, ?_, by omega, fun _ => ⟨b, _, rfl, fun j u hu => ?_⟩⟩, fun j u m a b => ?_⟩
  · show 1 ≤ c - i; omega
  · have hj : j = 0 := by have := (List.getElem?_eq_some_iff.1 hu).1; simp at this; omega
    subst hj; simp at hu; subst hu
    exact x0
  · have hj : j = 0 := by have := (List.getElem?_eq_some_iff.1 a).1; simp at this; omega
    subst hj; simp at a b; subst a; subst b
    exact h3 i _ _ (List.getElem?_eq_getElem hiu) (List.getElem?_eq_getElem hi)
/-- the first of some entries -/
theorem EntsSeg.take {w : World} {a : Option Addr} {c m : Nat} {X : List Ent} (h : EntsSeg w (.slice a X.length c) X) (hm : m ≤ X.length) : EntsSeg w (.slice a m c) (X.take m) := by
  obtain ⟨es, h1, ⟨g0, a', c', e, g1, g2, g3⟩, h3⟩ := h
  injection e with e1 _ e2
  subst e1; subst e2
  have hl : (X.take m).length = m := by rw [List.length_take]; omega
  refine ⟨es.take m, by rw [List.length_take, hl]; omega, ⟨by rw [cEn_len, List.length_take, hl]; omega, a, c, by rw [hl], by omega, g2, fun hn => ?_⟩, fun j e x p q => ?_⟩
  · rw [hl] at hn
    obtain ⟨b, off, rfl, hc⟩ := g3 (by omega)
    refine ⟨b, off, rfl, fun j u hu => hc j u ?_⟩
    rw [← cEn_take] at hu
    have hj := (List.getElem?_eq_some_iff.1 hu).1
    rw [List.length_take] at hj
    rw [List.getElem?_take_of_lt (by omega)] at hu
    exact hu
  · have hj := (List.getElem?_eq_some_iff.1 q).1
    rw [hl] at hj
    rw [List.getElem?_take_of_lt hj] at p q
    exact h3 j e x p q
/-- a log lies beside what was there -/
theorem LogR.off {w : World} {S : Nat → Prop} {T : List Nat} {X : List Ent} {v : Value} {a : World} (h : LogR w X v a) (ty : TyS w S T) : EntsO a S v X := by
  obtain ⟨es, h1, h2, h3⟩ := h
  refine ⟨es, h1.low (Nat.zero_le _), own_seg h2, fun b off n c e hn hb => ?_⟩
  have := ty.lt hb
  have := own_ge h2 b (by
    rcases h2.2 with ⟨e', _⟩ | ⟨g, cap, cur, e', _⟩
    · rw [e'] at e; cases e
    · rw [e'] at e ⊢
      injection e with e _ _; injection e with e; injection e with e1 e2
      subst e1; rfl)
  omega
end Go.Proofs.YtddghaoejnbkaaaGreatDoor

/- Contracts and lemmas for the proofs of this seat; each theorem states its own conditions. -/
namespace Go.Proofs.YtddghaoejnbkaaaGreatDoor
/-! orders of deeds, in plain lists -/
end Go.Proofs.YtddghaoejnbkaaaGreatDoor

/- Contracts and lemmas for the proofs of this seat; each theorem states its own conditions. -/
namespace Go.Proofs.YtddghaoejnbkaaaGreatDoor
/-! orders of deeds, on stores; where each stands; rounds -/
/-- the round of each, up to k -/
def rnd1 (A : List Ops) (R : List Nat) (i : Nat) : Nat → Nat
  | 0 => 0
  | k + 1 => if clashB (A.getD k []) (A.getD i []) = true then max (rnd1 A R i k) (R.getD k 0 + 1) else rnd1 A R i k
def rndTo (A : List Ops) : Nat → List Nat
  | 0 => []
  | n + 1 => rndTo A n ++ [rnd1 A (rndTo A n) n n]
end Go.Proofs.YtddghaoejnbkaaaGreatDoor

/- Contracts and lemmas for the proofs of this seat; each theorem states its own conditions. -/
namespace Go.Proofs.YtddghaoejnbkaaaGreatDoor
open Go.RowKit
/-! slices.IndexFunc, ContainsFunc, DeleteFunc at pairs -/

set_option maxRecDepth 10000 in
set_option maxHeartbeats 1000000 in
theorem indexF_P (fn : Nat) (cs : Array Value) (hen : ∀ args w, (callFunc fn args).run Tryz.prog w = .ok (.enter fn args) w) (p : ByteArray × Int → Bool) (v : Value) (L : List (ByteArray × Int)) (w : World) (hv : Seg w v 2 L.length (cP L))
    (hc : ∀ x ∈ L, ∀ w', Ext w w' → Calls Tryz.prog fn (#[.agg #[.string x.1, .int .i64 x.2]] ++ cs) w' fun e w'' => e = .returned (.bool (p x)) ∧ Ext w' w'') :
    Calls Tryz.prog 216 #[v, .func (.func fn) #[] cs] w fun e w' => e = .returned (.int .i64 (firstI p L 0)) ∧ Ext w w' := by
  obtain ⟨h0, a, cap, rfl, h1, h2, h3⟩ := hv
  unfold maxLen at h2
  have H3 := hid h3
  have HC := hid hc
  clear h3 hc h0
  go_enter Tryz.func216, Tryz.ntmps216
  go_wp2
  go_loopw [5, 8] (fun _ i wr => ∃ k : Nat, k ≤ L.length ∧ i = .int .i64 k ∧ (∀ j (h : j < L.length), j < k → p L[j] = false) ∧ Ext w wr) (fun _ i _ => L.length - (intOf i).toNat)
  case atStart => exact ⟨0, Nat.zero_le _, rfl, fun j _ h => by omega, Ext.refl _⟩
  case round =>
    obtain ⟨k, hk, rfl, hn, E⟩ := hrel
    have HN := hid hn
    clear hn
    by_cases hlt : k < L.length
    · obtain ⟨b, off, rfl, hcell⟩ := H3.out (by omega)
      have x0 := E.cell (hcell (k * 2) _ (cP_at L k hlt).1)
      have x1 := E.cell (hcell (k * 2 + 1) _ (cP_at L k hlt).2)
      rw [← Nat.add_assoc] at x1
      have C := HC.out L[k] (List.getElem_mem hlt) wr E
      clear hcell
      cases hp : p L[k] with
      | true =>
        rw [hp] at C
        have C := hid C
        have hi : firstI p L 0 = (k : Int) := by
          have := firstI_hit (i := 0) hlt (fun j h' => HN.out j (by omega) h') hp
          simpa using this
        have HI := hid hi
        clear hi hp
        generalize L[k] = x at x0 x1 C
        go_wp2_with (first | (go_at_fn fn; refine (C.out).mono ?_; rintro e wa ⟨rfl, Ea⟩))
        go_ret
        exact ⟨rI HI.out.symm, E.trans Ea⟩
      | false =>
        rw [hp] at C
        have C := hid C
        have HP := hid hp
        have HS := hid (show ∀ j (h : j < L.length), j < k + 1 → p L[j] = false from fun j hj h => by
          rcases Nat.lt_or_ge j k with h' | h'
          · exact HN.out j hj h'
          · have : j = k := by omega
            subst this; exact HP.out)
        clear hp
        generalize L[k] = x at x0 x1 C
        go_wp2_with (first | (go_at_fn fn; refine (C.out).mono ?_; rintro e wa ⟨rfl, Ea⟩))
        go_roundw
        case rel => exact ⟨k + 1, by omega, by go_num, HS.out, E.trans Ea⟩
        case measure => simp [intOf]; omega
    · obtain rfl : k = L.length := by omega
      have hi : firstI p L 0 = -1 := firstI_miss fun x hx => by
        obtain ⟨j, hj, rfl⟩ := List.mem_iff_getElem.1 hx
        exact HN.out j hj hj
      have HI := hid hi
      clear hi
      go_wp2
      go_ret
      exact ⟨rI HI.out.symm, E⟩
theorem delset_P (x : ByteArray × Int) : ∀ (l : List (ByteArray × Int)) (k : Nat), k < l.length → ((cP l).set (k * 2) (.string x.1)).set (k * 2 + 1) (.int .i64 x.2) = cP (l.set k x)
  | [], k, h => by simp at h
  | c :: l, 0, h => by simp [cP]
  | c :: l, k + 1, h => by
    have := delset_P x l k (by simpa using h)
    have e : ∀ (y : ByteArray × Int) (m : List (ByteArray × Int)), cP (y :: m) = [.string y.1, .int .i64 y.2] ++ cP m := fun y m => by simp [cP]
    rw [show (k + 1) * 2 = k * 2 + 1 + 1 by omega, List.set_cons_succ, e, e, ← this]
    rfl
theorem zeroDelP (w : World) : (zeroValue 62).run Tryz.prog w = .ok (.agg #[.string ⟨#[]⟩, .int .i64 0]) w := Tryz.zeroValue62 w
theorem zeroDelCP (n : Nat) : ∀ v ∈ (Builtin.zeroCells (Value.agg #[.string ⟨#[]⟩, .int .i64 0]).cells n).toList, v.oneCell' = true := by
  intro v hv
  have hc : (Value.agg #[.string ⟨#[]⟩, .int .i64 0]).cells = #[.string ⟨#[]⟩, .int .i64 0] := by kernel_rfl
  rw [hc] at hv
  simp only [Builtin.zeroCells, Array.toList_map, List.mem_map] at hv
  obtain ⟨i, _, rfl⟩ := hv
  have h2 : i % 2 = 0 ∨ i % 2 = 1 := by omega
  rcases h2 with h2 | h2 <;> simp [h2, Value.oneCell']
set_option maxRecDepth 10000 in
set_option maxHeartbeats 2000000 in
theorem delF_P (B fn : Nat) (cs : Array Value) (hen : ∀ args w, (callFunc fn args).run Tryz.prog w = .ok (.enter fn args) w) (p : ByteArray × Int → Bool) (v : Value) (L : List (ByteArray × Int)) (w : World) (ho : w.ownsRow B 62 2 v L.length (cP L)) (hn : L.length ≤ 1000000)
    (hc : ∀ x ∈ L, ∀ w', w.grownBy w' v.ownBlock → Calls Tryz.prog fn (#[.agg #[.string x.1, .int .i64 x.2]] ++ cs) w' fun e w'' => e = .returned (.bool (p x)) ∧ Ext w' w'') :
    Calls Tryz.prog 164 #[v, .func (.func fn) #[] cs] w fun e w' => ∃ v', e = .returned v' ∧ w'.ownsRow B 62 2 v' (L.filter fun x => !p x).length (cP (L.filter fun x => !p x)) ∧ w.grownBy w' v.ownBlock ∧ v'.ownBlock = v.ownBlock := by
  have hI := indexF_P fn cs hen p v L w (own_seg ho) (fun x hx w' E => hc x hx w' (grown_of_ext E))
  obtain ⟨a, c, rfl⟩ := own_form ho
  by_cases hany : ∀ x ∈ L, p x = false
  · rw [firstI_miss hany] at hI
    have hI := hid hI
    have hf := hid (show (L.filter fun x => !p x) = L from List.filter_eq_self.2 fun x hx => by simp [hany x hx])
    clear hany hc
    go_enter Tryz.func164, Tryz.ntmps164
    go_wp2_with fail
    refine (hI.out).mono ?_
    rintro e w1 ⟨rfl, E1⟩
    go_wp2
    go_ret
    exact ⟨_, rfl, by rw [hf.out]; exact own_ext ho E1, grown_of_ext E1, rfl⟩
  · obtain ⟨i0, hi0, hlo, hp0⟩ := first_of hany
    rw [firstI_hit hi0 (fun j h => hlo j h) hp0, Nat.zero_add] at hI
    have hI := hid hI
    obtain ⟨g, rfl, hg1, hg2, hg3, hg4⟩ := own_pos ho (by omega)
    unfold maxLen at hg4
    have HC := hid hc
    have qi : ((i0 : Int) == -1) = false := by simp
    have F0 := hid (first_fil hi0 hlo hp0)
    clear hany hc hlo hp0
    go_enter Tryz.func164, Tryz.ntmps164
    go_wp2_with fail
    refine (hI.out).mono ?_
    clear hI
    rintro e w1 ⟨rfl, E1⟩
    go_wp2_with fail
    go_loopw [5, 6, 7] (fun i6 j6 _ wr => ∃ (i j : Nat) (mid : List (ByteArray × Int)), i6 = .int .i64 i ∧ j6 = .int .i64 j ∧ j ≤ L.length ∧ ((L.take j).filter fun x => !p x).length = i ∧ i + mid.length = j ∧ i < j ∧ wr.ownsRow B 62 2 (.slice (some ⟨g, 0, none⟩) L.length c) L.length (cP (((L.take j).filter fun x => !p x) ++ mid ++ L.drop j)) ∧ w.grownBy wr (some g)) (fun _ j6 _ _ => L.length - (intOf j6).toNat)
    case atStart => exact ⟨i0, i0 + 1, [L[i0]], rfl, by go_num, by omega, F0.out.1, rfl, by omega, by rw [F0.out.2]; exact own_ext ho E1, grown_of_ext E1⟩
    case round =>
      obtain ⟨i, j, mid, rfl, rfl, hj, hfi, hmid, hij, ho2, hg⟩ := hrel
      by_cases hjl : j < L.length
      · have hlen : ((((L.take j).filter fun x => !p x) ++ mid ++ L.drop j)).length = L.length := by simp only [List.length_append, List.length_drop]; omega
        have hget : (((L.take j).filter fun x => !p x) ++ mid ++ L.drop j)[j]? = some L[j] := by
          rw [List.getElem?_append_right (by simp only [List.length_append]; omega)]
          simp only [List.length_append, hfi, hmid, Nat.sub_self]
          simp [hjl]
        have hstep := del_step (p := p) hjl hfi hmid hij
        obtain ⟨_, _, he, _, _, _, hcell⟩ := seg_cells (own_seg ho2) (by omega)
        injection he with he; injection he with he1 he2
        subst he1; subst he2
        generalize hM : ((L.take j).filter fun x => !p x) ++ mid ++ L.drop j = M at ho2 hlen hget hcell hstep
        have hMj : M[j]'(by omega) = L[j] := by rw [List.getElem?_eq_getElem (by omega)] at hget; injection hget
        have x0 := hcell (j * 2) _ (cP_at M j (by omega)).1
        have x1 := hcell (j * 2 + 1) _ (cP_at M j (by omega)).2
        rw [hMj, Nat.zero_add] at x0 x1
        have hmem := List.getElem_mem hjl
        clear hcell hget hMj hM
        have HST := hid hstep
        clear hstep
        generalize L[j] = x at x0 x1 hmem HST
        have bx := heap_alloc_new wr (.cells #[.string x.1, .int .i64 x.2] 62)
        have EA := (Ext.refl wr).alloc (.cells #[.string x.1, .int .i64 x.2] 62)
        have gA := hg.trans (grown_of_ext EA)
        have C := HC.out x hmem (wr.alloc (.cells #[.string x.1, .int .i64 x.2] 62)) gA
        cases hp : p x with
        | true =>
          rw [hp] at C
          have C := hid C
          have S1 := hid (HST.out.1 hp)
          clear hp
          have xb := blk2 bx
          go_wp2_with (first | (go_at_fn fn; refine (C.out).mono ?_; rintro e wa ⟨rfl, Ea⟩))
          go_roundw
          case rel =>
            obtain ⟨mid', s1, s2, s3⟩ := S1.out
            exact ⟨i, j + 1, mid', rfl, by go_num, by omega, s1, s2, by omega, by rw [s3]; exact own_ext (own_ext ho2 EA) Ea, gA.trans (grown_of_ext Ea)⟩
          case measure => simp [intOf]; omega
        | false =>
          rw [hp] at C
          have C := hid C
          have S1 := hid (HST.out.2 hp)
          clear hp
          have hil : i < M.length := by omega
          go_wp2_with (first | (go_at_fn fn; refine (C.out).mono ?_; rintro e wa ⟨rfl, Ea⟩; have xb := blk2 (Ea.heap bx); obtain ⟨⟨y0, w0⟩, w1, ⟨y2, w2⟩, w3⟩ := own_two (own_ext (own_ext ho2 EA) Ea) (i := i * 2) (by rw [cP_len]; omega) (.string x.1)))
          go_roundw
          case rel =>
            obtain ⟨mid', s1, s2, s3⟩ := S1.out
            have o3 := own_ext (own_ext ho2 EA) Ea
            have o4 := own_cell_set o3 (i := i * 2) (by rw [cP_len]; omega) (.string x.1)
            have o5 := own_cell_set o4 (i := i * 2 + 1) (by rw [List.length_set, cP_len]; omega) (.int .i64 x.2)
            rw [delset_P x M i hil] at o5
            exact ⟨i + 1, j + 1, mid', by go_num, by go_num, by omega, s1, s2, by omega, by rw [s3]; exact o5, ((gA.trans (grown_of_ext Ea)).trans (set_grown _ _ _)).trans (set_grown _ _ _)⟩
          case measure => simp [intOf]; omega
      · have hjL : j = L.length := by omega
        subst hjL
        rw [List.take_of_length_le (Nat.le_refl _)] at hfi ho2
        rw [List.drop_of_length_le (Nat.le_refl _), List.append_nil] at ho2
        obtain ⟨g', cur, he, hb, hlt, hrow, hnc, hcm, hcl, htk⟩ := own_row ho2 (by omega)
        injection he with he; injection he with he
        subst he
        have hz2 : (Builtin.zeroCells (Value.agg #[.string ⟨#[]⟩, .int .i64 0]).cells (L.length - i)).size = (L.length - i) * 2 := by
          rw [size_zeroCells]; rfl
        have hz3 : (Builtin.zeroCells (Value.agg #[.string ⟨#[]⟩, .int .i64 0]).cells (L.length - i)).toList.length = (L.length - i) * 2 := hz2
        have hclr := fun ty => run_clear_row (P := Tryz.prog) wr 36 62 ty _ Tryz.underlying36 zeroDelP g (i * 2) (L.length - i) (c - i) cur (by omega) hrow (by rw [hz2, hcl]; omega) (zeroDelCP _)
        have hl3 := spl_len (cur := cur) (o := i * 2) (vs := (Builtin.zeroCells (Value.agg #[.string ⟨#[]⟩, .int .i64 0]).cells (L.length - i)).toList) (by rw [hz3, hcl]; omega)
        have ht3 := spl_take_lo (cur := cur) (o := i * 2) (m := i * 2) (vs := (Builtin.zeroCells (Value.agg #[.string ⟨#[]⟩, .int .i64 0]).cells (L.length - i)).toList) (by rw [hcl]; omega) (Nat.le_refl _)
        have hrow3 := hrow.set (spl cur (i * 2) (Builtin.zeroCells (Value.agg #[.string ⟨#[]⟩, .int .i64 0]).cells (L.length - i)).toList)
        have hB3 := row_grown wr g (spl cur (i * 2) (Builtin.zeroCells (Value.agg #[.string ⟨#[]⟩, .int .i64 0]).cells (L.length - i)).toList).toArray
        generalize spl cur (i * 2) (Builtin.zeroCells (Value.agg #[.string ⟨#[]⟩, .int .i64 0]).cells (L.length - i)).toList = cur3 at hclr hl3 ht3 hrow3 hB3
        have hcut : cur.take (i * 2) = cP (L.filter fun x => !p x) := by
          have h1 : cur.take (i * 2) = (cP ((L.filter fun x => !p x) ++ mid)).take (i * 2) := by rw [← htk, List.take_take, Nat.min_eq_left (by omega)]
          rw [h1, cP_app, List.take_left' (by rw [cP_len, hfi])]
        have HD := hid (And.intro (hl3.trans hcl) (ht3.trans hcut))
        have HCL := hid hclr
        have HF := hid hfi
        have hci : ¬ c = i := by omega
        have hi1 : (i : Int) ≤ (L.length : Int) := by omega
        have hi2 : (i : Int) ≤ (c : Int) := by omega
        clear hl3 ht3 hz2 hz3 hclr hcut htk hcl hfi ho2
        go_wp2_with (first | (refine wpList_clear_run wr rfl _ _ rfl _ (by rfl) (HCL.out _) ?_))
        go_ret
        refine ⟨_, rfl, ?_, hg.trans hB3, rfl⟩
        rw [HF.out]
        exact own_of_row hrow3 hb (by omega) hcm HD.out.1 (by rw [cP_len, HF.out]) HD.out.2
end Go.Proofs.YtddghaoejnbkaaaGreatDoor
