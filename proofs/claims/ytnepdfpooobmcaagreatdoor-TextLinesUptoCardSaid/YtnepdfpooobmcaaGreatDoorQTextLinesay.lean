/- Contracts and lemmas for the proof of TextLines; each theorem states its own conditions. -/
import Derived.Test.YtnepdfpooobmcaaGreatDoorQTextLinesas
set_option linter.unusedVariables false
set_option linter.unusedSimpArgs false
/- Contracts and lemmas for the proofs of this seat; each theorem states its own conditions. -/
namespace Go.Proofs.YtnepdfpooobmcaaGreatDoor
open Go.RowKit
/-! text.Deed -/
theorem infoS7 : (Tryz.prog.info? 9).map (fun i => (i.zero, i.size, i.bytes)) = some (some (.string ⟨#[]⟩), 1, 16) := by kernel_rfl
theorem join_jn (c : UInt8) (xs : List (List UInt8)) : Lib.join xs [c] = jn c xs := by
  cases xs with
  | nil => rfl
  | cons x r => rw [Lib.join_cons, jn]; simp [Lib.joinTail, List.flatMap]
def dS (d : Ops) : ByteArray := if deedE d = 0 then bA (dT d) else ⟨#[]⟩
theorem opT_len {o : GOp} (h : OpOk o) (hn : -9223372036854775808 ≤ o.n ∧ o.n ≤ 9223372036854775807) : (opT o).length ≤ 40 := by
  have hk := h.kinds
  have hs := key_size h.key
  have hf : o.kind = 3 ∨ o.kind = 5 → o.from_.size ≤ 6 := fun q => key_size (h.from_ q).1
  have hi := itoa_len21 hn.1 hn.2
  unfold opT opTl
  rcases hk with e | e | e | e | e <;> simp only [e] at hf ⊢ <;> simp [toL_len] at hf ⊢ <;> omega
theorem dT_len {d : Ops} (h : DeedOk d) (hn : ∀ o ∈ d, -9223372036854775808 ≤ o.n ∧ o.n ≤ 9223372036854775807) : (dT d).length ≤ 400 := by
  have key : ∀ d : Ops, (∀ o ∈ d, (opT o).length ≤ 40) → (jn 59 (d.map opT)).length ≤ 41 * d.length := by
    intro d hd
    have g : ∀ d : Ops, (∀ o ∈ d, (opT o).length ≤ 40) → ((d.map opT).flatMap (59 :: ·)).length ≤ 41 * d.length := by
      intro d
      induction d with
      | nil => intro _; simp
      | cons o d ih =>
        intro hd
        have h1 := hd o (by simp)
        have h2 := ih (fun q hq => hd q (by simp [hq]))
        simp only [List.map_cons, List.flatMap_cons, List.length_append, List.length_cons]
        omega
    cases d with
    | nil => simp [jn]
    | cons o d =>
      have h1 := hd o (by simp)
      have h2 := g d (fun q hq => hd q (by simp [hq]))
      simp only [List.map_cons, jn, List.length_append, List.length_cons]
      omega
  have := key d (fun o ho => opT_len (h.ops o ho) (hn o ho))
  have := h.hi
  unfold dT
  omega
def txO (d : Ops) : List ByteArray := d.map fun o => bA (opT o)
theorem txO_take {d : Ops} {k : Nat} (hk : k < d.length) : txO (d.take (k + 1)) = txO (d.take k) ++ [bA (opT d[k])] := by
  unfold txO
  rw [List.take_succ_eq_append_getElem hk, List.map_append]
  rfl
theorem txO_len (d : Ops) : (txO d).length = d.length := by simp [txO]
set_option maxRecDepth 10000 in
set_option maxHeartbeats 2000000 in
theorem tdeed_any (v : Value) (d : Ops) (w : World) (L : LaidT w) (hv : Seg w v 4 d.length (cO d)) (hd : opsSm d) (hn : ∀ o ∈ d, -9223372036854775808 ≤ o.n ∧ o.n ≤ 9223372036854775807) :
    Calls Tryz.prog 7 #[.agg #[v]] w fun e w' => e = .returned (.tuple #[.string (dS d), .int .i64 (deedE d)]) ∧ Ext w w' := by
  have E0 := (Ext.refl w).alloc (.cells #[v] 24)
  have b0 := heap_alloc_new w (.cells #[v] 24)
  have c0 : (w.alloc (.cells #[v] 24)).cell? ⟨w.heap.size, 0, none⟩ = some v := by simp only [World.cell?]; rw [b0]; rfl
  have DC := hid (dcheck_any v d _ (hv.ext E0) hd)
  have HL := hid L
  have HE0 := hid E0
  by_cases he : deedE d = 0
  · have ok := deed_ok he
    have HOK := hid ok
    have h1 := ok.lo
    have h8 := ok.hi
    have HN := hid hn
    have HS := hid (show dS d = bA (dT d) by unfold dS; rw [if_pos he])
    have HE := hid he
    rw [he] at DC
    obtain ⟨av, kv, rfl⟩ := seg_form hv
    obtain ⟨bd, od, rfl, _, p1, p2, hcd⟩ := seg_cells hv (by omega)
    have HCD := hid hcd
    clear L hv hd hn ok he hcd E0 b0
    go_enter Tryz.func7, Tryz.ntmps7
    go_wp2_with fail
    refine (DC.out).mono ?_
    clear DC
    rintro e w1 ⟨rfl, E1⟩
    have d0 := E1.cell c0
    have HE1 := hid (HE0.out.trans E1)
    clear E1 c0
    go_wp2_with fail
    go_loopw [5, 16] (fun ov iv wr => ∃ k : Nat, k ≤ d.length ∧ iv = .int .i64 k ∧ Hid (wr.ownsRow w1.heap.size 9 1 ov k (cS (txO (d.take k)))) ∧ Hid (Ext w1 wr)) (fun _ iv _ => d.length - (intOf iv).toNat)
    case atStart => exact ⟨0, Nat.zero_le _, rfl, hid (World.ownsRow_nil _ _ _ _), hid (Ext.refl _)⟩
    case round =>
      obtain ⟨wo, rfl⟩ : ∃ wo : World, wo = wr := ⟨_, rfl⟩
      obtain ⟨k, hk, rfl, hO, hE⟩ := hrel
      obtain ⟨ao, ko, e1⟩ := own_form hO.out
      subst e1
      by_cases hkl : k < d.length
      · have Ew := HE1.out.trans hE.out
        have hcw : ∀ j u, (cO d)[j]? = some u → wo.cell? ⟨bd, od + j, none⟩ = some u := fun j u hj => Ew.cell (HCD.out j u hj)
        obtain ⟨y0, y1, y2, y3⟩ := seg_op hcw (k := k) hkl
        have TP := fun w' (q : Ext wo w') => top_any d[k] w' (HL.out.ext (Ew.trans q)) (HOK.out.ops _ (List.getElem_mem hkl)) (HN.out _ (List.getElem_mem hkl))
        have HT := hid (txO_take hkl)
        have hlt : (txO (d.take k)).length = k := by rw [txO_len, List.length_take]; omega
        have HLT := hid hlt
        generalize d[k] = ok at y0 y1 y2 y3 TP HT
        generalize bA (opT ok) = tk at TP HT
        have TP := hid TP
        clear hcw Ew hlt
        have bx := blk4 (heap_alloc_new wo (.cells #[.int .i64 ok.kind, .string ok.key, .string ok.from_, .int .i64 ok.n] 93))
        have EA := (Ext.refl wo).alloc (.cells #[.int .i64 ok.kind, .string ok.key, .string ok.from_, .int .i64 ok.n] 93)
        have TP1 := hid (TP.out _ EA)
        clear TP
        go_wp2_with fail
        refine (TP1.out).mono ?_
        clear TP1
        rintro e w7 ⟨rfl, E7⟩
        have EW7 := EA.trans E7
        have p1' : Seg (w7.alloc (.cells #[.string tk] 9)) (.slice (some ⟨w7.heap.size, 0, none⟩) 1 1) 1 1 [.string tk] := seg_one (heap_alloc_new w7 _)
        have hcu := (own_ext hO.out EW7).alloc (.cells #[.string tk] 9)
        have hsz : w1.heap.size ≤ (w7.alloc (.cells #[.string tk] 9)).heap.size := by have := EW7.size'; have := hE.out.size'; simp; omega
        have HE9 := hid ((hE.out.trans EW7).alloc (.cells #[.string tk] 9))
        have HCU := hid hcu
        clear EW7 E7 EA bx
        go_wp2_with (first | (at_builtin; refine (wpList_app rfl _ _ 25 rfl w1.heap.size 9 (.string ⟨#[]⟩) 1 16 Tryz.underlying25 infoS7 rfl (by decide) (.slice ao k ko) k (cS (txO (d.take k))) rfl hcu _ 1 [.string tk] rfl p1' (fun u hu => by simp only [List.mem_singleton] at hu; subst hu; rfl) (by omega) (by unfold maxLen; omega) hsz ?_); intro v' w9 ho' hg))
        have HO9 := hid (show w9.ownsRow w1.heap.size 9 1 v' (k + 1) (cS (txO (d.take (k + 1)))) by
          rw [HT.out]
          simpa [cS] using ho')
        have HX9 := hid (HE9.out.grown hg (fun q hq => own_ge HCU.out q hq))
        go_roundw
        case rel => exact ⟨k + 1, by omega, by go_num, HO9, HX9⟩
        case measure => simp [intOf] <;> omega
      · obtain rfl : k = d.length := by omega
        have hO2 := hO.out
        rw [List.take_length] at hO2
        have hl := txO_len d
        rw [← hl] at hO2
        obtain ⟨g, rfl, g1, g2, g3, g4⟩ := own_pos (by rw [← hl]; exact hO2) (show 0 < d.length by omega)
        obtain ⟨g', og, e1, _, q1, q2, hcs⟩ := seg_cells (own_seg hO2) (by omega)
        injection e1 with e1; injection e1 with e1 e2
        subst e1; subst e2
        have hjl := dT_len HOK.out HN.out
        have hje : (txO d).map (·.data.toList) = d.map opT := by simp [txO, bA_toL]
        have JN := Any.strings_Join lays156 bextra156 g 0 ko (txO d) ⟨#[59]⟩ wo (fun j x hx => hcs j _ (by simp [cS, hx])) g2 (by omega) (by omega) (by
          rw [hje, join_jn]
          unfold dT at hjl
          omega)
        rw [hje, join_jn, hl] at JN
        have HR := hid (show bA (jn 59 (d.map opT)) = dS d from HS.out.symm)
        have JN := hid JN
        clear hO2 hl hjl hje hcs q1 q2
        go_wp2_with fail
        refine (JN.out).mono ?_
        clear JN
        rintro e w8 ⟨rfl, E8⟩
        have HX := hid ((HE1.out.trans hE.out).trans E8)
        clear E8
        go_wp2
        go_ret2
        exact ⟨rT2 (rSt HR.out) (rIn HE.out.symm), HX.out⟩
  · have hS : dS d = ⟨#[]⟩ := by unfold dS; rw [if_neg he]
    rw [hS]
    have q : (deedE d != 0) = true := by simp [he]
    clear he
    go_enter Tryz.func7, Tryz.ntmps7
    go_wp2_with fail
    refine (DC.out).mono ?_
    rintro e w1 ⟨rfl, E1⟩
    go_wp2
    go_ret2
    exact ⟨rfl, E0.trans E1⟩
end Go.Proofs.YtnepdfpooobmcaaGreatDoor
