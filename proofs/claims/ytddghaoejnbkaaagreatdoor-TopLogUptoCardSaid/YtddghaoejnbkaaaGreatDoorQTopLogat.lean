/- Contracts and lemmas for the proof of TopLog; each theorem states its own conditions. -/
import Derived.Test.YtddghaoejnbkaaaGreatDoorQTopLogas
import Derived.Test.YtddghaoejnbkaaaGreatDoorQTopLogap
set_option linter.unusedVariables false
set_option linter.unusedSimpArgs false
/- Contracts and lemmas for the proofs of this seat; each theorem states its own conditions. -/
namespace Go.Proofs.YtddghaoejnbkaaaGreatDoor
open Go.RowKit
/-! text.ReadDeed -/
theorem infoOpY : (Tryz.prog.info? 125).map (fun i => (i.zero, i.size, i.bytes)) = some (some (.agg #[.int .i64 0, .string ⟨#[]⟩, .string ⟨#[]⟩, .int .i64 0]), 4, 48) := by kernel_rfl
theorem blk1 {w : World} {b : Nat} {x : Value} {t : TypeId} (h : w.heap[b]? = some (.cells #[x] t (0, 0))) : w.cell? ⟨b, 0, none⟩ = some x ∧ w.frozen? ⟨b, 0, none⟩ = false := by
  simp [World.cell?, World.frozen?, h]
theorem blk1_set {w : World} {b : Nat} {x : Value} {t : TypeId} (h : w.heap[b]? = some (.cells #[x] t (0, 0))) (u : Value) : (w.setCell ⟨b, 0, none⟩ u).heap[b]? = some (.cells #[u] t (0, 0)) := by
  simp [World.setCell, Array.getElem?_modify, h]
theorem cO_snoc (D : Ops) (o : GOp) : cO (D ++ [o]) = cO D ++ [.int .i64 o.kind, .string o.key, .string o.from_, .int .i64 o.n] := by simp [cO]
/-- a deed that is read: its box, its row -/
structure RdD (w1 wr : World) (b4 : Nat) (dv : Value) (D : Ops) : Prop where
  lt : b4 < w1.heap.size
  box : wr.heap[b4]? = some (.cells #[dv] 40 (0, 0))
  ops : wr.ownsRow w1.heap.size 125 4 dv D.length (cO D)
  gb : w1.grownBy wr (some b4)
theorem RdD.ext {w1 wr w' : World} {b4 : Nat} {dv : Value} {D : Ops} (h : RdD w1 wr b4 dv D) (E : Ext wr w') : RdD w1 w' b4 dv D :=
  ⟨h.lt, E.heap h.box, own_ext h.ops E, h.gb.trans (grownX E _)⟩
theorem RdD.more {w1 wr w9 : World} {b4 : Nat} {dv v' : Value} {D : Ops} (h : RdD w1 wr b4 dv D) {o : GOp} (ho : w9.ownsRow w1.heap.size 125 4 v' (D.length + 1) (cO D ++ [.int .i64 o.kind, .string o.key, .string o.from_, .int .i64 o.n])) (hg : wr.grownBy w9 dv.ownBlock) :
    w9.heap[b4]? = some (.cells #[dv] 40 (0, 0)) ∧ RdD w1 (w9.setCell ⟨b4, 0, none⟩ v') b4 v' (D ++ [o]) := by
  have hbx : w9.heap[b4]? = some (.cells #[dv] 40 (0, 0)) := grown_heap hg h.box (own_diff h.ops h.box (by decide))
  refine ⟨hbx, h.lt, blk1_set hbx v', ?_, ?_⟩
  · have := own_set_far (p := ⟨b4, 0, none⟩) (u := v') ho h.lt
    rw [cO_snoc, List.length_append]
    exact this
  · have g1 : w1.grownBy w9 (some b4) := ⟨hg.os.trans h.gb.os, hg.tape.trans h.gb.tape, hg.output.trans h.gb.output, Nat.le_trans h.gb.size hg.size, fun k hk hne => by
      rw [hg.block k (Nat.lt_of_lt_of_le hk h.gb.size) (fun e => by have := own_ge h.ops k e.symm; omega), h.gb.block k hk hne]⟩
    exact g1.trans (grownS _ _ _)
theorem RdD.E {w w1 wr : World} {b4 : Nat} {dv : Value} {D : Ops} (h : RdD w1 wr b4 dv D) (E : Ext w w1) (hb : w.heap.size ≤ b4) : Ext w wr :=
  E.grown h.gb (fun k hk => by injection hk with hk; omega)
theorem rdOps_step {P r : List ByteArray} {D : Ops} {x : ByteArray} {o : GOp} (h : rdOps P = (rdOps (x :: r)).map fun p => D ++ p) (ho : rdOp x = some o) : rdOps P = (rdOps r).map fun p => (D ++ [o]) ++ p := by
  rw [h]
  simp only [rdOps, ho]
  cases rdOps r <;> simp
theorem rdOps_stop {P r : List ByteArray} {D : Ops} {x : ByteArray} (h : rdOps P = (rdOps (x :: r)).map fun p => D ++ p) (ho : rdOp x = none) : rdOps P = none := by
  rw [h]
  simp only [rdOps, ho]
  rfl
set_option maxRecDepth 10000 in
set_option maxHeartbeats 2000000 in
theorem treaddeed_any (s : ByteArray) (w : World) (L : LaidT w) (hs : s.size ≤ 4000000000) :
    Calls Tryz.prog 140 #[.string s] w fun e w' => ∃ v', e = .returned (.tuple #[.agg #[v'], .int .i64 (deedRd s).1]) ∧ w'.ownsRow w.heap.size 125 4 v' (deedRd s).2.length (cO (deedRd s).2) ∧ Ext w w' := by
  have E0 := ((Ext.refl w).alloc (.cells #[.slice none 0 0] 40)).alloc (.cells #[.slice none 0 0] 40)
  have b2 := heap_1 w (.cells #[.slice none 0 0] 40) (.cells #[.slice none 0 0] 40)
  have b4 := heap_2 w (.cells #[.slice none 0 0] 40) (.cells #[.slice none 0 0] 40)
  have SP := hid (fun w' (q : Ext w w') => split_any s 59 w' (L.ext q) (by omega))
  have HL := hid L
  have hP : ∀ x ∈ pcs s 59, x.size ≤ s.size := fun x hx => (pcs_mem hx).1
  have hPl : (pcs s 59).length ≤ s.size + 1 := by
    rw [pcs_len]
    have := Lib.countB_le ⟨#[59]⟩ (Nat.le_refl 1) s.size s (Nat.le_refl _)
    omega
  have HRD := hid (show deedRd s = (match rdOps (pcs s 59) with | none => (9, []) | some d => if deedE d = 0 then (0, d) else (deedE d, [])) from rfl)
  generalize pcs s 59 = P at SP hP hPl HRD
  have HP := hid hP
  have hPl2 : P.length ≤ 5000000000 := by omega
  have SP1 := hid (SP.out _ E0)
  clear L SP hP
  go_enter Tryz.func140, Tryz.ntmps140
  go_wp2_with fail
  refine (SP1.out).mono ?_
  clear SP1
  rintro e w1 ⟨rfl, hsg, E1⟩
  simp only [World.size_alloc] at hsg ⊢
  have hz := E1.size'
  simp only [World.size_alloc] at hz
  have b2 := E1.heap b2
  have HI := hid (show RdD w1 w1 (w.heap.size + 1) (.slice none 0 0) [] from ⟨by omega, E1.heap b4, World.ownsRow_nil _ _ _ _, World.grownBy.refl _ _⟩)
  have HE1 := hid (E0.trans E1)
  have HSG := hid hsg
  have HB2 := hid b2
  clear E0 E1 b2 b4 hsg hz
  go_wp2_with fail
  go_loopw [13] (fun iv wr => ∃ (k : Nat) (D : Ops) (dv : Value), k ≤ P.length ∧ iv = .int .i64 k ∧ D.length = k ∧ Hid (rdOps P = (rdOps (P.drop k)).map fun p => D ++ p) ∧ Hid (∀ o ∈ D, o.key.size ≤ s.size ∧ o.from_.size ≤ s.size) ∧ Hid (RdD w1 wr (w.heap.size + 1) dv D)) (fun iv _ => P.length - (intOf iv).toNat)
  case atStart => exact ⟨0, [], _, Nat.zero_le _, rfl, rfl, hid (by simp), hid (by simp), HI⟩
  case round =>
    obtain ⟨wo, rfl⟩ : ∃ wo : World, wo = wr := ⟨_, rfl⟩
    obtain ⟨k, D, dv, hk, rfl, hDk, hR, hC, hI⟩ := hrel
    have HDK := hid hDk
    have hDl : D.length ≤ 5000000000 := by omega
    clear HI hDk
    by_cases hkl : k < P.length
    · obtain ⟨bp, op, ep, _, p1, p2, hcp⟩ := seg_cells HSG.out (by omega)
      injection ep with ep; injection ep with e1 e2
      subst e1; subst e2
      have x0 := hcp k _ (cS_at0 P k hkl)
      have hgb := hI.out.gb
      have x1 : wo.cell? ⟨w.heap.size + 1 + 1, 0 + k, none⟩ = some (.string P[k]) := by
        rw [World.cell?_of_block (hgb.block (w.heap.size + 1 + 1) (World.block_lt_of_cell? _ _ x0) (fun e => by injection e with e; omega))]
        exact x0
      rw [Nat.zero_add] at x1
      have hdrop : P.drop k = P[k] :: P.drop (k + 1) := List.drop_eq_getElem_cons hkl
      have hR2 := hR.out
      rw [hdrop] at hR2
      have hPk := HP.out P[k] (List.getElem_mem hkl)
      generalize P[k] = wk at x1 hR2 hPk
      have hR := hid hR2
      obtain ⟨ac, kc, e1⟩ := own_form hI.out.ops
      subst e1
      have hEo := hid (hI.out.E HE1.out (by omega))
      have hwz := hgb.size
      have hb2o : wo.heap[w.heap.size]? = some (.cells #[.slice none 0 0] 40 (0, 0)) := grown_heap hI.out.gb HB2.out (by intro e; injection e with e; omega)
      have RO := hid (treadop_any wk wo (HL.out.ext hEo.out) (by omega))
      clear x0 hcp hdrop hR2 hgb
      go_wp2_with fail
      refine (RO.out).mono ?_
      clear RO
      rintro e w7 ⟨o, ok, rfl, hy, hn, E7⟩
      unfold opV
      cases hro : rdOp wk with
      | none =>
        obtain rfl := hn hro
        have hX := rdOps_stop hR.out hro
        have hrd := HRD.out
        rw [hX] at hrd
        simp only at hrd
        have HRR := hid hrd
        have hb7 := ((E7.alloc (.cells #[.int .i64 o.kind, .string o.key, .string o.from_, .int .i64 o.n] 125))).heap hb2o
        have d2 := blk1 hb7
        have rB := blk1 (blk1_set hb7 (.slice none 0 0))
        have HE7 := hid (hEo.out.trans (E7.alloc (.cells #[.int .i64 o.kind, .string o.key, .string o.from_, .int .i64 o.n] 125)))
        clear hro hX hrd hy hn E7 hb2o hb7
        go_wp2
        exact bodyPost_ret (v := .tuple #[.agg #[.slice none 0 0], .int .i64 9]) (by simp [results, Tryz.results140, go_sem, rB.1]) rfl ⟨_, by rw [HRR.out], by rw [HRR.out]; exact World.ownsRow_nil _ _ _ _, HE7.out.setCell (by simp) _⟩
      | some p =>
        obtain ⟨rfl, rfl⟩ := hy p hro
        have HRN := hid (rdOps_step hR.out hro)
        have hsz := rdOp_size hro
        have HSZ := hid (show ∀ q ∈ D ++ [o], q.key.size ≤ s.size ∧ q.from_.size ≤ s.size from fun q hq => by
          rcases List.mem_append.1 hq with h | h
          · exact hC.out q h
          · simp at h; subst h; exact ⟨by omega, by omega⟩)
        have EB := E7.alloc (.cells #[.int .i64 o.kind, .string o.key, .string o.from_, .int .i64 o.n] 125)
        have bo := blk4 (heap_alloc_new w7 (.cells #[.int .i64 o.kind, .string o.key, .string o.from_, .int .i64 o.n] 125))
        have HI7 := hid (hI.out.ext EB)
        have d0 := blk1 HI7.out.box
        have hw7 := E7.size'
        have p1' : Seg ((w7.alloc (.cells #[.int .i64 o.kind, .string o.key, .string o.from_, .int .i64 o.n] 125)).alloc (.cells #[.int .i64 o.kind, .string o.key, .string o.from_, .int .i64 o.n] 125)) (.slice (some ⟨w7.heap.size + 1, 0, none⟩) 1 1) 4 1 [.int .i64 o.kind, .string o.key, .string o.from_, .int .i64 o.n] := by
          have hx := heap_alloc_new (w7.alloc (.cells #[.int .i64 o.kind, .string o.key, .string o.from_, .int .i64 o.n] 125)) (.cells #[.int .i64 o.kind, .string o.key, .string o.from_, .int .i64 o.n] 125)
          simp only [World.size_alloc] at hx
          exact seg_blk (xs := [.int .i64 o.kind, .string o.key, .string o.from_, .int .i64 o.n]) (n := 1) (sz := 4) (c := 1) hx rfl (Nat.le_refl _) (by decide)
        have HIA := hid (HI7.out.ext ((Ext.refl (w7.alloc (.cells #[.int .i64 o.kind, .string o.key, .string o.from_, .int .i64 o.n] 125))).alloc (.cells #[.int .i64 o.kind, .string o.key, .string o.from_, .int .i64 o.n] 125)))
        have hcu := HIA.out.ops
        have hsz2 : w1.heap.size ≤ ((w7.alloc (.cells #[.int .i64 o.kind, .string o.key, .string o.from_, .int .i64 o.n] 125)).alloc (.cells #[.int .i64 o.kind, .string o.key, .string o.from_, .int .i64 o.n] 125)).heap.size := by simp; omega
        clear hro hy hn E7 hb2o EB hsz
        go_wp2_with (first | (at_builtin; refine (wpList_app rfl _ _ 38 rfl w1.heap.size 125 (.agg #[.int .i64 0, .string ⟨#[]⟩, .string ⟨#[]⟩, .int .i64 0]) 4 48 Tryz.underlying38 infoOpY rfl (by decide) (.slice ac D.length kc) D.length (cO D) rfl hcu _ 1 [.int .i64 o.kind, .string o.key, .string o.from_, .int .i64 o.n] rfl p1' (fun u hu => by simp only [List.mem_cons, List.not_mem_nil, or_false] at hu; rcases hu with rfl | rfl | rfl | rfl <;> rfl) (by omega) (by unfold maxLen; omega) hsz2 ?_); intro v' w9 ho' hg; obtain ⟨hbx, HN⟩ := HIA.out.more ho' hg; have d9 := blk1 hbx; obtain ⟨a9, k9, e9⟩ := own_form ho'; subst e9))
        go_roundw
        case rel => exact ⟨k + 1, D ++ [o], _, by omega, by go_num, by simp [HDK.out], HRN, HSZ, hid HN⟩
        case measure => simp [intOf] <;> omega
    · obtain rfl : k = P.length := by omega
      obtain ⟨ac, kc, e1⟩ := own_form hI.out.ops
      subst e1
      have d0 := blk1 hI.out.box
      have hEo := hid (hI.out.E HE1.out (by omega))
      have hrd := HRD.out
      have hr := hR.out
      rw [List.drop_length] at hr
      simp only [rdOps, Option.map_some, List.append_nil] at hr
      rw [hr] at hrd
      simp only at hrd
      have hb2o : wo.heap[w.heap.size]? = some (.cells #[.slice none 0 0] 40 (0, 0)) := grown_heap hI.out.gb HB2.out (by intro e; injection e with e; omega)
      have DC := hid (dcheck_any (.slice ac D.length kc) D wo (own_seg hI.out.ops) (fun o ho => by have := hC.out o ho; exact ⟨by omega, by omega⟩))
      have HRD := hid hrd
      have HRW := hid hI.out.ops
      have hlt := hI.out.lt
      have HLT := hid (show w.heap.size < w1.heap.size by omega)
      clear hrd hr hR hI hlt
      go_wp2_with fail
      refine (DC.out).mono ?_
      clear DC
      rintro e w7 ⟨rfl, E7⟩
      have hb7 := E7.heap hb2o
      have d2 := blk1 hb7
      have HE7 := hid (hEo.out.trans E7)
      have HD0 := hid (E7.cell d0.1)
      have HRW := hid (own_ext HRW.out E7)
      by_cases he : deedE D = 0
      · have hrd := HRD.out
        rw [if_pos he] at hrd
        have HRD := hid hrd
        have d4 := HD0.out
        have q : (deedE D != 0) = false := by simp [he]
        have rB := blk1 (blk1_set hb7 (.slice ac D.length kc))
        clear hrd he E7 hb2o hb7 d0
        go_wp2
        refine bodyPost_ret (v := .tuple #[.agg #[.slice ac D.length kc], .int .i64 0]) (by simp [results, Tryz.results140, go_sem, rB.1]) rfl ⟨_, by rw [HRD.out], ?_, HE7.out.setCell (by simp) _⟩
        rw [HRD.out]
        have hlt := HLT.out
        exact own_base (own_set_far HRW.out (by show w.heap.size < _; omega)) (by omega)
      · have hrd := HRD.out
        rw [if_neg he] at hrd
        have HRD := hid hrd
        have q : (deedE D != 0) = true := by simp [he]
        have rB := blk1 (blk1_set hb7 (.slice none 0 0))
        clear hrd he E7 hb2o hb7 d0
        go_wp2
        exact bodyPost_ret (v := .tuple #[.agg #[.slice none 0 0], .int .i64 (deedE D)]) (by simp [results, Tryz.results140, go_sem, rB.1]) rfl ⟨_, by rw [HRD.out], by rw [HRD.out]; exact World.ownsRow_nil _ _ _ _, HE7.out.setCell (by simp) _⟩
end Go.Proofs.YtddghaoejnbkaaaGreatDoor

/- Contracts and lemmas for the proofs of this seat; each theorem states its own conditions. -/
namespace Go.Proofs.YtddghaoejnbkaaaGreatDoor
open Go.RowKit
/-! text.Deed -/
theorem infoS7 : (Tryz.prog.info? 9).map (fun i => (i.zero, i.size, i.bytes)) = some (some (.string ⟨#[]⟩), 1, 16) := by kernel_rfl
theorem join_jn (c : UInt8) (xs : List (List UInt8)) : Lib.join xs [c] = jn c xs := by
  cases xs with
  | nil => rfl
  | cons x r => rw [Lib.join_cons, jn]; simp [Lib.joinTail, List.flatMap]
def dS (d : Ops) : ByteArray := if deedE d = 0 then bA (dT d) else ⟨#[]⟩
theorem opT_len {o : GOp} (h : OpOk o) (hn : -9223372036854775808 ≤ o.n ∧ o.n ≤ 9223372036854775807) : (opT o).length ≤ 40 := by
  have hk := h.kinds
  have hs := key_size h.key
  have hf : o.kind = 3 ∨ o.kind = 5 → o.from_.size ≤ 6 := fun q => key_size (h.from_ q).1
  have hi := itoa_len21 hn.1 hn.2
  unfold opT opTl
  rcases hk with e | e | e | e | e <;> simp only [e] at hf ⊢ <;> simp [toL_len] at hf ⊢ <;> omega
theorem dT_len {d : Ops} (h : DeedOk d) (hn : ∀ o ∈ d, -9223372036854775808 ≤ o.n ∧ o.n ≤ 9223372036854775807) : (dT d).length ≤ 400 := by
  have key : ∀ d : Ops, (∀ o ∈ d, (opT o).length ≤ 40) → (jn 59 (d.map opT)).length ≤ 41 * d.length := by
    intro d hd
    have g : ∀ d : Ops, (∀ o ∈ d, (opT o).length ≤ 40) → ((d.map opT).flatMap (59 :: ·)).length ≤ 41 * d.length := by
      intro d
      induction d with
      | nil => intro _; simp
      | cons o d ih =>
        intro hd
        have h1 := hd o (by simp)
        have h2 := ih (fun q hq => hd q (by simp [hq]))
        simp only [List.map_cons, List.flatMap_cons, List.length_append, List.length_cons]
        omega
    cases d with
    | nil => simp [jn]
    | cons o d =>
      have h1 := hd o (by simp)
      have h2 := g d (fun q hq => hd q (by simp [hq]))
      simp only [List.map_cons, jn, List.length_append, List.length_cons]
      omega
  have := key d (fun o ho => opT_len (h.ops o ho) (hn o ho))
  have := h.hi
  unfold dT
  omega
def txO (d : Ops) : List ByteArray := d.map fun o => bA (opT o)
theorem txO_take {d : Ops} {k : Nat} (hk : k < d.length) : txO (d.take (k + 1)) = txO (d.take k) ++ [bA (opT d[k])] := by
  unfold txO
  rw [List.take_succ_eq_append_getElem hk, List.map_append]
  rfl
theorem txO_len (d : Ops) : (txO d).length = d.length := by simp [txO]
set_option maxRecDepth 10000 in
set_option maxHeartbeats 2000000 in
theorem tdeed_any (v : Value) (d : Ops) (w : World) (L : LaidT w) (hv : Seg w v 4 d.length (cO d)) (hd : opsSm d) (hn : ∀ o ∈ d, -9223372036854775808 ≤ o.n ∧ o.n ≤ 9223372036854775807) :
    Calls Tryz.prog 93 #[.agg #[v]] w fun e w' => e = .returned (.tuple #[.string (dS d), .int .i64 (deedE d)]) ∧ Ext w w' := by
  have E0 := (Ext.refl w).alloc (.cells #[v] 40)
  have b0 := heap_alloc_new w (.cells #[v] 40)
  have c0 : (w.alloc (.cells #[v] 40)).cell? ⟨w.heap.size, 0, none⟩ = some v := by simp only [World.cell?]; rw [b0]; rfl
  have DC := hid (dcheck_any v d _ (hv.ext E0) hd)
  have HL := hid L
  have HE0 := hid E0
  by_cases he : deedE d = 0
  · have ok := deed_ok he
    have HOK := hid ok
    have h1 := ok.lo
    have h8 := ok.hi
    have HN := hid hn
    have HS := hid (show dS d = bA (dT d) by unfold dS; rw [if_pos he])
    have HE := hid he
    rw [he] at DC
    obtain ⟨av, kv, rfl⟩ := seg_form hv
    obtain ⟨bd, od, rfl, _, p1, p2, hcd⟩ := seg_cells hv (by omega)
    have HCD := hid hcd
    clear L hv hd hn ok he hcd E0 b0
    go_enter Tryz.func93, Tryz.ntmps93
    go_wp2_with fail
    refine (DC.out).mono ?_
    clear DC
    rintro e w1 ⟨rfl, E1⟩
    have d0 := E1.cell c0
    have HE1 := hid (HE0.out.trans E1)
    clear E1 c0
    go_wp2_with fail
    go_loopw [5, 16] (fun ov iv wr => ∃ k : Nat, k ≤ d.length ∧ iv = .int .i64 k ∧ Hid (wr.ownsRow w1.heap.size 9 1 ov k (cS (txO (d.take k)))) ∧ Hid (Ext w1 wr)) (fun _ iv _ => d.length - (intOf iv).toNat)
    case atStart => exact ⟨0, Nat.zero_le _, rfl, hid (World.ownsRow_nil _ _ _ _), hid (Ext.refl _)⟩
    case round =>
      obtain ⟨wo, rfl⟩ : ∃ wo : World, wo = wr := ⟨_, rfl⟩
      obtain ⟨k, hk, rfl, hO, hE⟩ := hrel
      obtain ⟨ao, ko, e1⟩ := own_form hO.out
      subst e1
      by_cases hkl : k < d.length
      · have Ew := HE1.out.trans hE.out
        have hcw : ∀ j u, (cO d)[j]? = some u → wo.cell? ⟨bd, od + j, none⟩ = some u := fun j u hj => Ew.cell (HCD.out j u hj)
        obtain ⟨y0, y1, y2, y3⟩ := seg_op hcw (k := k) hkl
        have TP := fun w' (q : Ext wo w') => top_any d[k] w' (HL.out.ext (Ew.trans q)) (HOK.out.ops _ (List.getElem_mem hkl)) (HN.out _ (List.getElem_mem hkl))
        have HT := hid (txO_take hkl)
        have hlt : (txO (d.take k)).length = k := by rw [txO_len, List.length_take]; omega
        have HLT := hid hlt
        generalize d[k] = ok at y0 y1 y2 y3 TP HT
        generalize bA (opT ok) = tk at TP HT
        have TP := hid TP
        clear hcw Ew hlt
        have bx := blk4 (heap_alloc_new wo (.cells #[.int .i64 ok.kind, .string ok.key, .string ok.from_, .int .i64 ok.n] 125))
        have EA := (Ext.refl wo).alloc (.cells #[.int .i64 ok.kind, .string ok.key, .string ok.from_, .int .i64 ok.n] 125)
        have TP1 := hid (TP.out _ EA)
        clear TP
        go_wp2_with fail
        refine (TP1.out).mono ?_
        clear TP1
        rintro e w7 ⟨rfl, E7⟩
        have EW7 := EA.trans E7
        have p1' : Seg (w7.alloc (.cells #[.string tk] 9)) (.slice (some ⟨w7.heap.size, 0, none⟩) 1 1) 1 1 [.string tk] := seg_one (heap_alloc_new w7 _)
        have hcu := (own_ext hO.out EW7).alloc (.cells #[.string tk] 9)
        have hsz : w1.heap.size ≤ (w7.alloc (.cells #[.string tk] 9)).heap.size := by have := EW7.size'; have := hE.out.size'; simp; omega
        have HE9 := hid ((hE.out.trans EW7).alloc (.cells #[.string tk] 9))
        have HCU := hid hcu
        clear EW7 E7 EA bx
        go_wp2_with (first | (at_builtin; refine (wpList_app rfl _ _ 32 rfl w1.heap.size 9 (.string ⟨#[]⟩) 1 16 Tryz.underlying32 infoS7 rfl (by decide) (.slice ao k ko) k (cS (txO (d.take k))) rfl hcu _ 1 [.string tk] rfl p1' (fun u hu => by simp only [List.mem_singleton] at hu; subst hu; rfl) (by omega) (by unfold maxLen; omega) hsz ?_); intro v' w9 ho' hg))
        have HO9 := hid (show w9.ownsRow w1.heap.size 9 1 v' (k + 1) (cS (txO (d.take (k + 1)))) by
          rw [HT.out]
          simpa [cS] using ho')
        have HX9 := hid (HE9.out.grown hg (fun q hq => own_ge HCU.out q hq))
        go_roundw
        case rel => exact ⟨k + 1, by omega, by go_num, HO9, HX9⟩
        case measure => simp [intOf] <;> omega
      · obtain rfl : k = d.length := by omega
        have hO2 := hO.out
        rw [List.take_length] at hO2
        have hl := txO_len d
        rw [← hl] at hO2
        obtain ⟨g, rfl, g1, g2, g3, g4⟩ := own_pos (by rw [← hl]; exact hO2) (show 0 < d.length by omega)
        obtain ⟨g', og, e1, _, q1, q2, hcs⟩ := seg_cells (own_seg hO2) (by omega)
        injection e1 with e1; injection e1 with e1 e2
        subst e1; subst e2
        have hjl := dT_len HOK.out HN.out
        have hje : (txO d).map (·.data.toList) = d.map opT := by simp [txO, bA_toL]
        have JN := Any.strings_Join lays156 bextra156 g 0 ko (txO d) ⟨#[59]⟩ wo (fun j x hx => hcs j _ (by simp [cS, hx])) g2 (by omega) (by omega) (by
          rw [hje, join_jn]
          unfold dT at hjl
          omega)
        rw [hje, join_jn, hl] at JN
        have HR := hid (show bA (jn 59 (d.map opT)) = dS d from HS.out.symm)
        have JN := hid JN
        clear hO2 hl hjl hje hcs q1 q2
        go_wp2_with fail
        refine (JN.out).mono ?_
        clear JN
        rintro e w8 ⟨rfl, E8⟩
        have HX := hid ((HE1.out.trans hE.out).trans E8)
        clear E8
        go_wp2
        go_ret2
        exact ⟨rT2 (rSt HR.out) (rIn HE.out.symm), HX.out⟩
  · have hS : dS d = ⟨#[]⟩ := by unfold dS; rw [if_neg he]
    rw [hS]
    have q : (deedE d != 0) = true := by simp [he]
    clear he
    go_enter Tryz.func93, Tryz.ntmps93
    go_wp2_with fail
    refine (DC.out).mono ?_
    rintro e w1 ⟨rfl, E1⟩
    go_wp2
    go_ret2
    exact ⟨rfl, E0.trans E1⟩
end Go.Proofs.YtddghaoejnbkaaaGreatDoor
