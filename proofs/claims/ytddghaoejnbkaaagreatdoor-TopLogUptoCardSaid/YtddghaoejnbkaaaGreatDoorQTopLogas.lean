/- Contracts and lemmas for the proof of TopLog; each theorem states its own conditions. -/
import Derived.Test.YtddghaoejnbkaaaGreatDoorQTopLogar
import Derived.Test.YtddghaoejnbkaaaGreatDoorQTopLogai
set_option linter.unusedVariables false
set_option linter.unusedSimpArgs false
/- Contracts and lemmas for the proofs of this seat; each theorem states its own conditions. -/
namespace Go.Proofs.YtddghaoejnbkaaaGreatDoor
open Go.RowKit
/-! text.readOp at any text; text.ReadDeed -/
theorem idx_list (s : ByteArray) {k : Nat} (hk : k < s.size) : s.data.toList[k]? = some (s[k]'hk) := Lib.data_getElem? s k hk
theorem treadop_any (s : ByteArray) (w : World) (L : LaidT w) (hs : s.size ≤ 4000000000) :
    Calls Tryz.prog 176 #[.string s] w fun e w' => ∃ (o : GOp) (ok : Bool), e = .returned (.tuple #[opV o, .bool ok]) ∧ (∀ p, rdOp s = some p → o = p ∧ ok = true) ∧ (rdOp s = none → ok = false) ∧ Ext w w' := by
  by_cases h : Lib.indexAny s.data.toList [61, 43, 60, 63] < 0
  · refine (treadop_neg s w hs h).mono ?_
    rintro e w' ⟨rfl, E⟩
    have hr : rdOp s = none := by unfold rdOp; rw [if_pos h]
    exact ⟨⟨0, ⟨#[]⟩, ⟨#[]⟩, 0⟩, false, rfl, (fun p hp => by rw [hr] at hp; cases hp), fun _ => rfl, E⟩
  · obtain ⟨k, c, h1, h2, h3⟩ := any_some h
    have hk : k < s.size := by
      rcases Nat.lt_or_ge k s.data.toList.length with q | q
      · rw [toL_len] at q; exact q
      · rw [List.getElem?_eq_none q] at h2; cases h2
    have hc : s[k]'hk = c := by rw [idx_list s hk] at h2; exact Option.some.inj h2
    have hg : s.data.toList.getD k 0 = c := by rw [List.getD_eq_getElem?_getD, h2]; rfl
    have hr : rdOp s = rdAt s k := by unfold rdOp; rw [if_neg h, h1, Int.toNat_natCast]
    rw [hr]
    unfold rdAt
    rw [hg]
    have fin : ∀ (kd : Int) (q : Option Int) (fr : ByteArray) (n : Int) (ok : Bool), (∀ v, q = some v → n = v ∧ ok = true) → (q = none → ok = false) →
        (∀ p, (q.map fun n => (⟨kd, s.extract 0 k, fr, n⟩ : GOp)) = some p → (⟨kd, s.extract 0 k, fr, n⟩ : GOp) = p ∧ ok = true) ∧ ((q.map fun n => (⟨kd, s.extract 0 k, fr, n⟩ : GOp)) = none → ok = false) := by
      intro kd q fr n ok a b
      cases q with
      | none => exact ⟨fun p hp => (by cases hp), fun _ => b rfl⟩
      | some v =>
        obtain ⟨rfl, rfl⟩ := a v rfl
        exact ⟨fun p hp => ⟨by simpa using hp, rfl⟩, fun hp => by cases hp⟩
    rcases h3 with rfl | rfl | rfl | rfl
    · rw [if_pos rfl]
      refine (treadop_1 s k w L hs hk h1 hc).mono ?_
      rintro e w' ⟨n, ok, rfl, a, b, E⟩
      obtain ⟨u, v⟩ := fin 1 _ ⟨#[]⟩ n ok a b
      exact ⟨⟨1, s.extract 0 k, ⟨#[]⟩, n⟩, ok, rfl, u, v, E⟩
    · rw [if_neg (by decide), if_pos rfl]
      refine (treadop_2 s k w L hs hk h1 hc).mono ?_
      rintro e w' ⟨n, ok, rfl, a, b, E⟩
      obtain ⟨u, v⟩ := fin 2 _ ⟨#[]⟩ n ok a b
      exact ⟨⟨2, s.extract 0 k, ⟨#[]⟩, n⟩, ok, rfl, u, v, E⟩
    · rw [if_neg (by decide), if_neg (by decide), if_neg (by decide)]
      cases hcut : (Lib.cut (s.extract (k + 1) s.size).data.toList [42]).2.2 with
      | true =>
        rw [if_pos rfl]
        refine (treadop_5 s k w L hs hk h1 hc hcut).mono ?_
        rintro e w' ⟨n, ok, rfl, a, b, E⟩
        obtain ⟨u, v⟩ := fin 5 _ (bA (Lib.cut (s.extract (k + 1) s.size).data.toList [42]).1) n ok a b
        exact ⟨⟨5, s.extract 0 k, _, n⟩, ok, rfl, u, v, E⟩
      | false =>
        rw [if_neg (by decide)]
        refine (treadop_3 s k w L hs hk h1 hc hcut).mono ?_
        rintro e w' ⟨rfl, E⟩
        exact ⟨⟨3, s.extract 0 k, s.extract (k + 1) s.size, 0⟩, true, rfl, (fun p hp => ⟨Option.some.inj hp, rfl⟩), (fun hp => by cases hp), E⟩
    · rw [if_neg (by decide), if_neg (by decide), if_pos rfl]
      refine (treadop_4 s k w L hs hk h1 hc).mono ?_
      rintro e w' ⟨n, ok, rfl, a, b, E⟩
      obtain ⟨u, v⟩ := fin 4 _ ⟨#[]⟩ n ok a b
      exact ⟨⟨4, s.extract 0 k, ⟨#[]⟩, n⟩, ok, rfl, u, v, E⟩
theorem cut_fst (x : List UInt8) (h : (Lib.cut x [42]).2.2 = true) : (Lib.cut x [42]).1.length ≤ x.length := by
  have hb := cut_back (x := x) (a := (Lib.cut x [42]).1) (b := (Lib.cut x [42]).2.1) (Prod.ext rfl (Prod.ext rfl h))
  have := congrArg List.length hb
  simp only [List.length_append, List.length_cons] at this
  omega
theorem rdOp_size {s : ByteArray} {o : GOp} (h : rdOp s = some o) : o.key.size ≤ s.size ∧ o.from_.size ≤ s.size := by
  unfold rdOp at h
  split at h
  · cases h
  · generalize (Lib.indexAny s.data.toList [61, 43, 60, 63]).toNat = k at h
    have h0 : (s.extract 0 k).size ≤ s.size := by simp; omega
    have h1 : (s.extract (k + 1) s.size).size ≤ s.size := by simp
    have hz : (⟨#[]⟩ : ByteArray).size ≤ s.size := Nat.zero_le _
    have fin : ∀ {q : Option Int} {kd : Int} {fr : ByteArray}, fr.size ≤ s.size → (q.map fun n => (⟨kd, s.extract 0 k, fr, n⟩ : GOp)) = some o → o.key.size ≤ s.size ∧ o.from_.size ≤ s.size := by
      intro q kd fr hf hq
      cases q with
      | none => cases hq
      | some v => simp at hq; subst hq; exact ⟨h0, hf⟩
    unfold rdAt at h
    split at h
    · exact fin hz h
    · split at h
      · exact fin hz h
      · split at h
        · exact fin hz h
        · split at h
          · rename_i hc
            refine fin ?_ h
            rw [bA_size]
            have := cut_fst _ hc
            rw [toL_len] at this
            omega
          · simp at h; subst h; exact ⟨h0, h1⟩
end Go.Proofs.YtddghaoejnbkaaaGreatDoor

/- Contracts and lemmas for the proofs of this seat; each theorem states its own conditions. -/
namespace Go.Proofs.YtddghaoejnbkaaaGreatDoor
open Go.RowKit
/-! text.ReadMap -/
theorem infoS1 : (Tryz.prog.info? 9).map (fun i => (i.zero, i.size, i.bytes)) = some (some (.string ⟨#[]⟩), 1, 16) := by kernel_rfl
theorem infoI1 : (Tryz.prog.info? 3).map (fun i => (i.zero, i.size, i.bytes)) = some (some (.int .i64 0), 1, 8) := by kernel_rfl
/-- a map that is read: its box, its rows -/
structure RdI (w1 wr : World) (b4 : Nat) (cv ov : Value) (C : List ByteArray) (O : List Int) : Prop where
  lt : b4 < w1.heap.size
  box : wr.heap[b4]? = some (.cells #[cv, ov] 34 (0, 0))
  cuts : wr.ownsRow w1.heap.size 9 1 cv C.length (cS C)
  own : wr.ownsRow w1.heap.size 3 1 ov O.length (cI O)
  gb : w1.grownBy wr (some b4)
theorem RdI.ext {w1 wr w' : World} {b4 : Nat} {cv ov : Value} {C : List ByteArray} {O : List Int} (h : RdI w1 wr b4 cv ov C O) (E : Ext wr w') : RdI w1 w' b4 cv ov C O :=
  ⟨h.lt, E.heap h.box, own_ext h.cuts E, own_ext h.own E, h.gb.trans (grownX E _)⟩
theorem own_diff {w : World} {B e sz n : Nat} {v : Value} {xs : List Value} (h : w.ownsRow B e sz v n xs) {b : Nat} {cs : Array Value} {t : TypeId} {fr : Nat × Nat} (hb : w.heap[b]? = some (.cells cs t fr)) (hne : e ≠ t) : v.ownBlock ≠ some b := own_ne h hb hne
theorem RdI.cut {w1 wr w9 : World} {b4 : Nat} {cv ov v' : Value} {C : List ByteArray} {O : List Int} (h : RdI w1 wr b4 cv ov C O) {c : ByteArray} (ho : w9.ownsRow w1.heap.size 9 1 v' (C.length + 1) (cS C ++ [.string c])) (hg : wr.grownBy w9 cv.ownBlock) :
    w9.heap[b4]? = some (.cells #[cv, ov] 34 (0, 0)) ∧ RdI w1 (w9.setCell ⟨b4, 0, none⟩ v') b4 v' ov (C ++ [c]) O := by
  have hbx : w9.heap[b4]? = some (.cells #[cv, ov] 34 (0, 0)) := grown_heap hg h.box (own_diff h.cuts h.box (by decide))
  refine ⟨hbx, h.lt, blk2_set0 hbx v', ?_, ?_, ?_⟩
  · have := own_set_far (p := ⟨b4, 0, none⟩) (u := v') ho h.lt
    simpa [cS] using this
  · exact own_set_far (grown_own hg h.own (own_own_ne h.own h.cuts (by decide))) h.lt
  · have g1 : w1.grownBy w9 (some b4) := ⟨hg.os.trans h.gb.os, hg.tape.trans h.gb.tape, hg.output.trans h.gb.output, Nat.le_trans h.gb.size hg.size, fun k hk hne => by
      rw [hg.block k (Nat.lt_of_lt_of_le hk h.gb.size) (fun e => by have := own_ge h.cuts k e.symm; omega), h.gb.block k hk hne]⟩
    exact g1.trans (grownS _ _ _)
theorem RdI.num {w1 wr w9 : World} {b4 : Nat} {cv ov v' : Value} {C : List ByteArray} {O : List Int} (h : RdI w1 wr b4 cv ov C O) {c : Int} (ho : w9.ownsRow w1.heap.size 3 1 v' (O.length + 1) (cI O ++ [.int .i64 c])) (hg : wr.grownBy w9 ov.ownBlock) :
    w9.heap[b4]? = some (.cells #[cv, ov] 34 (0, 0)) ∧ RdI w1 (w9.setCell ⟨b4, 1, none⟩ v') b4 cv v' C (O ++ [c]) := by
  have hbx : w9.heap[b4]? = some (.cells #[cv, ov] 34 (0, 0)) := grown_heap hg h.box (own_diff h.own h.box (by decide))
  refine ⟨hbx, h.lt, blk2_set1 hbx v', ?_, ?_, ?_⟩
  · exact own_set_far (grown_own hg h.cuts (own_own_ne h.cuts h.own (by decide))) h.lt
  · have := own_set_far (p := ⟨b4, 1, none⟩) (u := v') ho h.lt
    simpa [cI] using this
  · have g1 : w1.grownBy w9 (some b4) := ⟨hg.os.trans h.gb.os, hg.tape.trans h.gb.tape, hg.output.trans h.gb.output, Nat.le_trans h.gb.size hg.size, fun k hk hne => by
      rw [hg.block k (Nat.lt_of_lt_of_le hk h.gb.size) (fun e => by have := own_ge h.own k e.symm; omega), h.gb.block k hk hne]⟩
    exact g1.trans (grownS _ _ _)
theorem RdI.E {w w1 wr : World} {b4 : Nat} {cv ov : Value} {C : List ByteArray} {O : List Int} (h : RdI w1 wr b4 cv ov C O) (E : Ext w w1) (hb : w.heap.size ≤ b4) : Ext w wr :=
  E.grown h.gb (fun k hk => by injection hk with hk; omega)
theorem rdm_odd (w : ByteArray) (r : List ByteArray) : rdm true (w :: r) = (rdm false r).map fun p => (w :: p.1, p.2) := rfl
theorem rdm_even {w : ByteArray} {n : Int} (h : numL w.data.toList = some n) (r : List ByteArray) : rdm false (w :: r) = (rdm true r).map fun p => (p.1, n :: p.2) := by simp only [rdm, h]
theorem rdm_evenN {w : ByteArray} (h : numL w.data.toList = none) (r : List ByteArray) : rdm false (w :: r) = none := by simp only [rdm, h]
theorem rdm_stepC {P r : List ByteArray} {C : List ByteArray} {O : List Int} {k : Nat} {x : ByteArray} (h : rdm false P = (rdm (k % 2 == 1) (x :: r)).map fun p => (C ++ p.1, O ++ p.2)) (hk : k % 2 = 1) :
    rdm false P = (rdm ((k + 1) % 2 == 1) r).map fun p => ((C ++ [x]) ++ p.1, O ++ p.2) := by
  rw [h, show (k % 2 == 1) = true by simp [hk], show ((k + 1) % 2 == 1) = false by simp; omega, rdm_odd]
  cases rdm false r <;> simp
theorem rdm_stepN {P r : List ByteArray} {C : List ByteArray} {O : List Int} {k : Nat} {x : ByteArray} {n : Int} (h : rdm false P = (rdm (k % 2 == 1) (x :: r)).map fun p => (C ++ p.1, O ++ p.2)) (hk : ¬ k % 2 = 1) (hn : numL x.data.toList = some n) :
    rdm false P = (rdm ((k + 1) % 2 == 1) r).map fun p => (C ++ p.1, (O ++ [n]) ++ p.2) := by
  rw [h, show (k % 2 == 1) = false by simp; omega, show ((k + 1) % 2 == 1) = true by simp; omega, rdm_even hn]
  cases rdm true r <;> simp
theorem rdm_stepX {P r : List ByteArray} {C : List ByteArray} {O : List Int} {k : Nat} {x : ByteArray} (h : rdm false P = (rdm (k % 2 == 1) (x :: r)).map fun p => (C ++ p.1, O ++ p.2)) (hk : ¬ k % 2 = 1) (hn : numL x.data.toList = none) :
    rdm false P = none := by
  rw [h, show (k % 2 == 1) = false by simp; omega, rdm_evenN hn]; rfl
theorem nil_own (w : World) (B : Nat) : OwnMap w B (.agg #[.slice none 0 0, .slice none 0 0]) [] [] := ⟨_, _, rfl, World.ownsRow_nil _ _ _ _, World.ownsRow_nil _ _ _ _⟩
set_option maxRecDepth 10000 in
set_option maxHeartbeats 2000000 in
theorem treadmap_any (s : ByteArray) (w : World) (L : LaidT w) (hs : s.size ≤ 4000000000) :
    Calls Tryz.prog 58 #[.string s] w fun e w' => ∃ v', e = .returned (.tuple #[v', .int .i64 (mapRd s).1]) ∧ OwnMap w' w.heap.size v' (mapRd s).2.1 (mapRd s).2.2 ∧ Ext w w' := by
  have E0 := ((Ext.refl w).alloc (.cells #[.slice none 0 0, .slice none 0 0] 34)).alloc (.cells #[.slice none 0 0, .slice none 0 0] 34)
  have b2 := heap_1 w (.cells #[.slice none 0 0, .slice none 0 0] 34) (.cells #[.slice none 0 0, .slice none 0 0] 34)
  have b4 := heap_2 w (.cells #[.slice none 0 0, .slice none 0 0] 34) (.cells #[.slice none 0 0, .slice none 0 0] 34)
  have SP := hid (fun w' (q : Ext w w') => split_any s 58 w' (L.ext q) (by omega))
  have HL := hid L
  have hP : ∀ x ∈ pcs s 58, x.size ≤ s.size := fun x hx => (pcs_mem hx).1
  have hPl : (pcs s 58).length ≤ s.size + 1 := by
    rw [pcs_len]
    have := Lib.countB_le ⟨#[58]⟩ (Nat.le_refl 1) s.size s (Nat.le_refl _)
    omega
  have HRD := hid (show mapRd s = (match rdm false (pcs s 58) with | none => (9, [], []) | some (C, O) => if mapErr C O = 0 then (0, C, O) else (mapErr C O, [], [])) from rfl)
  generalize pcs s 58 = P at SP hP hPl HRD
  have HP := hid hP
  have hPl2 : P.length ≤ 5000000000 := by omega
  have SP1 := hid (SP.out _ E0)
  clear L SP hP
  go_enter Tryz.func58, Tryz.ntmps58
  go_wp2_with fail
  refine (SP1.out).mono ?_
  clear SP1
  rintro e w1 ⟨rfl, hsg, E1⟩
  simp only [World.size_alloc] at hsg ⊢
  have hz := E1.size'
  simp only [World.size_alloc] at hz
  have b2 := E1.heap b2
  have HI := hid (show RdI w1 w1 (w.heap.size + 1) (.slice none 0 0) (.slice none 0 0) [] [] from ⟨by omega, E1.heap b4, World.ownsRow_nil _ _ _ _, World.ownsRow_nil _ _ _ _, World.grownBy.refl _ _⟩)
  have HE1 := hid (E0.trans E1)
  have HSG := hid hsg
  have HB2 := hid b2
  clear E0 E1 b2 b4 hsg hz
  go_wp2_with fail
  go_loopw [13] (fun iv wr => ∃ (k : Nat) (C : List ByteArray) (O : List Int) (cv ov : Value), k ≤ P.length ∧ iv = .int .i64 k ∧ C.length + O.length = k ∧ Hid (rdm false P = (rdm (k % 2 == 1) (P.drop k)).map fun p => (C ++ p.1, O ++ p.2)) ∧ Hid (∀ c ∈ C, c.size ≤ s.size) ∧ Hid (RdI w1 wr (w.heap.size + 1) cv ov C O)) (fun iv _ => P.length - (intOf iv).toNat)
  case atStart => exact ⟨0, [], [], _, _, Nat.zero_le _, rfl, rfl, hid (by simp), hid (by simp), HI⟩
  case round =>
    obtain ⟨wo, rfl⟩ : ∃ wo : World, wo = wr := ⟨_, rfl⟩
    obtain ⟨k, C, O, cv, ov, hk, rfl, hCO, hR, hC, hI⟩ := hrel
    clear HI
    by_cases hkl : k < P.length
    · obtain ⟨bp, op, ep, _, p1, p2, hcp⟩ := seg_cells HSG.out (by omega)
      injection ep with ep; injection ep with e1 e2
      subst e1; subst e2
      have x0 := hcp k _ (cS_at0 P k hkl)
      have hgb := hI.out.gb
      have x1 : wo.cell? ⟨w.heap.size + 1 + 1, 0 + k, none⟩ = some (.string P[k]) := by
        rw [World.cell?_of_block (hgb.block (w.heap.size + 1 + 1) (World.block_lt_of_cell? _ _ x0) (fun e => by injection e with e; omega))]
        exact x0
      rw [Nat.zero_add] at x1
      have hdrop : P.drop k = P[k] :: P.drop (k + 1) := List.drop_eq_getElem_cons hkl
      have hR2 := hR.out
      rw [hdrop] at hR2
      have hPk := HP.out P[k] (List.getElem_mem hkl)
      generalize P[k] = wk at x1 hR2 hPk
      have hR := hid hR2
      obtain ⟨ac, kc, e1⟩ := own_form hI.out.cuts
      obtain ⟨ao, ko, e2⟩ := own_form hI.out.own
      subst e1; subst e2
      have d0 := blk2 hI.out.box
      have hEo := hid (hI.out.E HE1.out (by omega))
      have hwz := hgb.size
      clear x0 hcp hdrop hR2 hgb
      by_cases hodd : k % 2 = 1
      · have q : ((k : Int)).tmod 2 = 1 := by rw [Int.tmod_eq_emod_of_nonneg (by omega)]; omega
        have p1' : Seg (wo.alloc (.cells #[.string wk] 9)) (.slice (some ⟨wo.heap.size, 0, none⟩) 1 1) 1 1 [.string wk] := seg_one (heap_alloc_new wo _)
        have HIA := hid (hI.out.ext ((Ext.refl wo).alloc (.cells #[.string wk] 9)))
        have hcu := HIA.out.cuts
        have hsz : w1.heap.size ≤ (wo.alloc (.cells #[.string wk] 9)).heap.size := by simp; omega
        have HODD := hid hodd
        clear hodd
        go_wp2_with (first | (at_builtin; refine (wpList_app rfl _ _ 32 rfl w1.heap.size 9 (.string ⟨#[]⟩) 1 16 Tryz.underlying32 infoS1 rfl (by decide) (.slice ac C.length kc) C.length (cS C) rfl hcu _ 1 [.string wk] rfl p1' (fun u hu => by simp only [List.mem_singleton] at hu; subst hu; rfl) (by omega) (by unfold maxLen; omega) hsz ?_); intro v' w9 ho' hg; obtain ⟨hbx, HN⟩ := HIA.out.cut ho' hg; have d9 := blk2 hbx; obtain ⟨a9, k9, e9⟩ := own_form ho'; subst e9))
        go_roundw
        case rel => exact ⟨k + 1, C ++ [wk], O, _, _, by omega, by go_num, by simp; omega, hid (rdm_stepC hR.out HODD.out), hid (fun c hc => by rcases List.mem_append.1 hc with h | h; exact hC.out c h; simp at h; subst h; exact hPk), hid HN⟩
        case measure => simp [intOf] <;> omega
      · have q : ((k : Int)).tmod 2 = 0 := by rw [Int.tmod_eq_emod_of_nonneg (by omega)]; omega
        have HODD := hid hodd
        clear hodd
        have hb2o : wo.heap[w.heap.size]? = some (.cells #[.slice none 0 0, .slice none 0 0] 34 (0, 0)) := grown_heap hI.out.gb HB2.out (by intro e; injection e with e; omega)
        cases hnum : numL wk.data.toList with
        | none =>
          have NN := hid (num_no wk wo (HL.out.ext hEo.out) (by omega) hnum)
          have hX := rdm_stepX hR.out HODD.out hnum
          have hrd := HRD.out
          rw [hX] at hrd
          simp only at hrd
          have HRR := hid hrd
          clear hnum hX hrd
          go_wp2_with fail
          refine (NN.out).mono ?_
          clear NN
          rintro e w7 ⟨n7, rfl, E7⟩
          have hb7 := E7.heap hb2o
          have d2 := blk2 hb7
          have rB := blk2 (blk2_set2 (u := .slice none 0 0) (v := .slice none 0 0) hb7)
          have HE7 := hid (hEo.out.trans E7)
          clear E7 hb2o hb7 d0
          go_wp2
          exact bodyPost_ret (v := .tuple #[.agg #[.slice none 0 0, .slice none 0 0], .int .i64 9]) (by simp [results, Tryz.results58, go_sem, rB.1, rB.2.1]) rfl ⟨_, by rw [HRR.out], by rw [HRR.out]; exact nil_own _ _, (HE7.out.setCell (by simp) _).setCell (by simp) _⟩
        | some n =>
          have NN := hid (num_yes wk n wo (HL.out.ext hEo.out) (by omega) hnum)
          have HRN := hid (rdm_stepN hR.out HODD.out hnum)
          clear hnum hb2o d0
          go_wp2_with fail
          refine (NN.out).mono ?_
          clear NN
          rintro e w7 ⟨rfl, E7⟩
          have HI7 := hid (hI.out.ext E7)
          have d0 := blk2 HI7.out.box
          have p1' : Seg (w7.alloc (.cells #[.int .i64 n] 3)) (.slice (some ⟨w7.heap.size, 0, none⟩) 1 1) 1 1 [.int .i64 n] := seg_one (heap_alloc_new w7 _)
          have HIA := hid (HI7.out.ext ((Ext.refl w7).alloc (.cells #[.int .i64 n] 3)))
          have hcu := HIA.out.own
          have hsz : w1.heap.size ≤ (w7.alloc (.cells #[.int .i64 n] 3)).heap.size := by have := E7.size'; simp; omega
          clear E7
          go_wp2_with (first | (at_builtin; refine (wpList_app rfl _ _ 22 rfl w1.heap.size 3 (.int .i64 0) 1 8 Tryz.underlying22 infoI1 rfl (by decide) (.slice ao O.length ko) O.length (cI O) rfl hcu _ 1 [.int .i64 n] rfl p1' (fun u hu => by simp only [List.mem_singleton] at hu; subst hu; rfl) (by omega) (by unfold maxLen; omega) hsz ?_); intro v' w9 ho' hg; obtain ⟨hbx, HN⟩ := HIA.out.num ho' hg; have d9 := blk2 hbx; obtain ⟨a9, k9, e9⟩ := own_form ho'; subst e9))
          go_roundw
          case rel => exact ⟨k + 1, C, O ++ [n], _, _, by omega, by go_num, by simp; omega, HRN, hC, hid HN⟩
          case measure => simp [intOf] <;> omega
    · obtain rfl : k = P.length := by omega
      obtain ⟨ac, kc, e1⟩ := own_form hI.out.cuts
      obtain ⟨ao, ko, e2⟩ := own_form hI.out.own
      subst e1; subst e2
      have d0 := blk2 hI.out.box
      have hEo := hid (hI.out.E HE1.out (by omega))
      have hrd := HRD.out
      have hr := hR.out
      rw [List.drop_length] at hr
      have hr0 : rdm (P.length % 2 == 1) [] = some ([], []) := by cases (P.length % 2 == 1) <;> rfl
      rw [hr0] at hr
      simp only [Option.map_some, List.append_nil] at hr
      rw [hr] at hrd
      simp only at hrd
      have hb2o : wo.heap[w.heap.size]? = some (.cells #[.slice none 0 0, .slice none 0 0] 34 (0, 0)) := grown_heap hI.out.gb HB2.out (by intro e; injection e with e; omega)
      have MC := hid (mcheck_any (.agg #[.slice ac C.length kc, .slice ao O.length ko]) C O wo ⟨_, _, rfl, own_seg hI.out.cuts, own_seg hI.out.own⟩ (fun c hc => by have := hC.out c hc; omega))
      have HRD := hid hrd
      have HRW := hid (And.intro hI.out.cuts hI.out.own)
      have hlt := hI.out.lt
      have HLT := hid (show w.heap.size < w1.heap.size by omega)
      clear hlt
      clear hrd hr hr0 hR hI
      go_wp2_with fail
      refine (MC.out).mono ?_
      clear MC
      rintro e w7 ⟨rfl, E7⟩
      have hb7 := E7.heap hb2o
      have d2 := blk2 hb7
      have HE7 := hid (hEo.out.trans E7)
      have HD0 := hid (And.intro (E7.cell d0.1) (E7.cell d0.2.1))
      have HRW := hid (And.intro (own_ext HRW.out.1 E7) (own_ext HRW.out.2 E7))
      by_cases he : mapErr C O = 0
      · have hrd := HRD.out
        rw [if_pos he] at hrd
        have HRD := hid hrd
        have d4 := HD0.out.1
        have d5 := HD0.out.2
        have q : (mapErr C O != 0) = false := by simp [he]
        have rB := blk2 (blk2_set2 (u := .slice ac C.length kc) (v := .slice ao O.length ko) hb7)
        clear hrd he E7 hb2o hb7 d0
        go_wp2
        refine bodyPost_ret (v := .tuple #[.agg #[.slice ac C.length kc, .slice ao O.length ko], .int .i64 0]) (by simp [results, Tryz.results58, go_sem, rB.1, rB.2.1]) rfl ⟨_, by rw [HRD.out], ?_, (HE7.out.setCell (by simp) _).setCell (by simp) _⟩
        rw [HRD.out]
        have hlt := HLT.out
        exact ⟨_, _, rfl, own_base (own_set_far (own_set_far HRW.out.1 (by show w.heap.size < _; omega)) (by show w.heap.size < _; omega)) (by omega), own_base (own_set_far (own_set_far HRW.out.2 (by show w.heap.size < _; omega)) (by show w.heap.size < _; omega)) (by omega)⟩
      · have hrd := HRD.out
        rw [if_neg he] at hrd
        have HRD := hid hrd
        have q : (mapErr C O != 0) = true := by simp [he]
        have rB := blk2 (blk2_set2 (u := .slice none 0 0) (v := .slice none 0 0) hb7)
        clear hrd he E7 hb2o hb7 d0
        go_wp2
        exact bodyPost_ret (v := .tuple #[.agg #[.slice none 0 0, .slice none 0 0], .int .i64 (mapErr C O)]) (by simp [results, Tryz.results58, go_sem, rB.1, rB.2.1]) rfl ⟨_, by rw [HRD.out], by rw [HRD.out]; exact nil_own _ _, (HE7.out.setCell (by simp) _).setCell (by simp) _⟩
end Go.Proofs.YtddghaoejnbkaaaGreatDoor
