/- Contracts and lemmas for the proof of MergePlays; each theorem states its own conditions. -/
import Derived.Test.YtddghaoejnbkaaaDoorQMergePlaysbx
import Derived.Test.YtddghaoejnbkaaaDoorQMergePlaysak
set_option linter.unusedVariables false
set_option linter.unusedSimpArgs false
/- Contracts and lemmas for the proofs of this seat; each theorem states its own conditions. -/
namespace Go.Proofs.YtddghaoejnbkaaaDoor
open Go.RowKit Go.Deep Go.WideShapes Go.ChangeShapes
/-! what a row tells of a deed -/
instance : Inhabited GOp := ⟨⟨0, ⟨#[]⟩, ⟨#[]⟩, 0⟩⟩
def opW (o : GOp) : Prop := o.key.size ≤ maxLen ∧ o.from_.size ≤ maxLen ∧ (Lit.int .i64 o.kind).wf = true ∧ (Lit.int .i64 o.n).wf = true
def opsW (d : Ops) : Prop := ∀ o ∈ d, opW o
theorem opsW.sm {d : Ops} (h : opsW d) : opsSm d := fun o ho => by
  obtain ⟨h1, h2, _, _⟩ := h o ho
  unfold maxLen at h1 h2
  exact ⟨by omega, by omega⟩
set_option maxRecDepth 10000 in
theorem segO_of_trod {H : Type} {enc : TypeId × Value → H} {W : World} {base : Nat} {held : Bool} {fuel : Nat} {v : Value} {x : DataW H × List MemPlace}
    (h : DataW.trod enc Tryd.prog W base (fun _ => true) held fuel 34 [v] = some x) :
    ∃ a len cap, ∃ d : Ops, v = .slice a len cap ∧ Seg W (.slice a len cap) 4 d.length (cO d) ∧ opsW d ∧ 5 * d.length + 1 ≤ Rows.uptoBulk x.1 := by
  have ki : Tryd.prog.cellsOf 3 = 1 := by kernel_rfl
  have ks : Tryd.prog.cellsOf 9 = 1 := by kernel_rfl
  have ko : Tryd.prog.cellsOf 71 = 4 := by kernel_rfl
  rcases open_slice Tryd.underlying34 h with ⟨hcs, rfl⟩ | ⟨ad, len, cap, m, n, D, Pl, hcs, _, hl, hm, hmm, rfl, hx⟩
  · injection hcs with hcs _
    exact ⟨none, 0, 0, [], hcs, Seg.nil _ _, by simp [opsW], by simp [Rows.uptoBulk]⟩
  · injection hcs with hcs _
    simp only [if_true] at hmm
    obtain ⟨f, hf⟩ := pick_fun (α := GOp) (n := len) (p := fun i o => (W.cell? (ad.add (i * 4)) = some (.int .i64 o.kind) ∧ W.cell? (ad.add (i * 4 + 1)) = some (.string o.key) ∧ W.cell? (ad.add (i * 4 + 2)) = some (.string o.from_) ∧ W.cell? (ad.add (i * 4 + 3)) = some (.int .i64 o.n)) ∧ opW o ∧ 5 ≤ Rows.uptoBulk (D i)) (fun i hi => by
      obtain ⟨cs', h1, h2⟩ := hx i (by omega)
      rw [ko] at h1
      obtain ⟨_, hlen, hcell⟩ := World.cells?_some h1
      obtain ⟨xs, k, hk, hxy, _, hxl, hfl⟩ := DataW.trod_struct Tryd.underlying71 h2
      match xs, hxl, cs', hlen with
      | [t0, t1, t2, t3], _, [v0, v1, v2, v3], _ =>
        have g0 := hfl 0 _ rfl
        have g1 := hfl 1 _ rfl
        have g2 := hfl 2 _ rfl
        have g3 := hfl 3 _ rfl
        simp [ki, ks] at g0 g1 g2 g3
        have e0 := hcell 0 (by omega)
        have e1 := hcell 1 (by omega)
        have e2 := hcell 2 (by omega)
        have e3 := hcell 3 (by omega)
        rw [add_add] at e0 e1 e2 e3
        simp at e0 e1 e2 e3
        obtain ⟨kd, q0, _, r0⟩ := DataW.trod_int Tryd.underlying3 g0
        obtain ⟨ky, q1, _, r1⟩ := DataW.trod_string Tryd.underlying9 g1
        obtain ⟨fr, q2, _, r2⟩ := DataW.trod_string Tryd.underlying9 g2
        obtain ⟨nn, q3, _, r3⟩ := DataW.trod_int Tryd.underlying3 g3
        injection q0 with q0 _
        injection q1 with q1 _
        injection q2 with q2 _
        injection q3 with q3 _
        subst q0; subst q1; subst q2; subst q3
        refine ⟨⟨kd, ky, fr, nn⟩, ⟨e0, e1, e2, e3⟩, ⟨r1, r2, r0, r3⟩, ?_⟩
        simp only [Prod.mk.injEq] at hxy
        rw [hxy.1]
        have b0 := bulk_one t0.1
        have b1 := bulk_one t1.1
        have b2 := bulk_one t2.1
        have b3 := bulk_one t3.1
        simp only [List.map_cons, List.map_nil, Rows.uptoBulk, Rows.uptoBulkAll]
        omega)
    refine ⟨some ad, len, cap, (List.range len).map f, hcs, ⟨by rw [cO_len], some ad, cap, by simp, by simpa using hl, hm, fun hn => ?_⟩, ?_, ?_⟩
    · simp at hn
      have hs := cell_spot (hf 0 (by omega)).1.1
      obtain ⟨b, off, sp⟩ := ad
      have : sp = none := by simpa [Addr.add] using hs
      subst this
      refine ⟨b, off, rfl, fun j u hu => ?_⟩
      have hj := (List.getElem?_eq_some_iff.1 hu).1
      rw [cO_len] at hj
      simp at hj
      have hk : j / 4 < ((List.range len).map f).length := by simp; omega
      have ek : ((List.range len).map f)[j / 4] = f (j / 4) := by simp
      obtain ⟨⟨g0, g1, g2, g3⟩, _⟩ := hf (j / 4) (by omega)
      rw [addr_add] at g0 g1 g2 g3
      have hlt := Nat.mod_lt j (show 0 < 4 by omega)
      rcases (show j % 4 = 0 ∨ j % 4 = 1 ∨ j % 4 = 2 ∨ j % 4 = 3 by omega) with e | e | e | e
      · have hj2 : j = j / 4 * 4 := by omega
        have c := cO_at0 _ _ hk
        rw [← hj2, hu, ek] at c
        injection c with c
        rw [c, ← g0, ← hj2]
      · have hj2 : j = j / 4 * 4 + 1 := by omega
        have c := cO_at1 _ _ hk
        rw [← hj2, hu, ek] at c
        injection c with c
        rw [c, ← g1, ← hj2]
      · have hj2 : j = j / 4 * 4 + 2 := by omega
        have c := cO_at2 _ _ hk
        rw [← hj2, hu, ek] at c
        injection c with c
        rw [c, ← g2, ← hj2]
      · have hj2 : j = j / 4 * 4 + 3 := by omega
        have c := cO_at3 _ _ hk
        rw [← hj2, hu, ek] at c
        injection c with c
        rw [c, ← g3, ← hj2]
    · intro o ho
      simp at ho
      obtain ⟨i, hi, rfl⟩ := ho
      exact (hf i hi).2.1
    · have hb := bulk_map (c := 5) (f := D) (l := List.range len) (fun i hi => (hf i (List.mem_range.1 hi)).2.2)
      simp only [List.length_range] at hb
      simp only [List.length_map, List.length_range, Rows.uptoBulk]
      omega
set_option maxRecDepth 10000 in
theorem deed_of_trod {H : Type} {enc : TypeId × Value → H} {W : World} {base : Nat} {held : Bool} {fuel : Nat} {cs : List Value} {x : DataW H × List MemPlace}
    (h : DataW.trod enc Tryd.prog W base (fun _ => true) held fuel 36 cs = some x) :
    ∃ a len cap, ∃ d : Ops, cs = [.slice a len cap] ∧ Seg W (.slice a len cap) 4 d.length (cO d) ∧ opsW d ∧ 5 * d.length + 2 ≤ Rows.uptoBulk x.1 := by
  have kd : Tryd.prog.cellsOf 36 = 1 := by kernel_rfl
  have ks : Tryd.prog.cellsOf 34 = 1 := by kernel_rfl
  obtain ⟨y0, n, rfl, hl, h0⟩ := trod_struct1 Tryd.underlying36 h
  rw [kd] at hl
  match cs, hl with
  | [c], _ =>
    simp [ks] at h0
    obtain ⟨a, len, cap, d, rfl, h1, h2, h3⟩ := segO_of_trod h0
    refine ⟨a, len, cap, d, rfl, h1, h2, ?_⟩
    simp only [Rows.uptoBulk, Rows.uptoBulkAll]
    omega
end Go.Proofs.YtddghaoejnbkaaaDoor
