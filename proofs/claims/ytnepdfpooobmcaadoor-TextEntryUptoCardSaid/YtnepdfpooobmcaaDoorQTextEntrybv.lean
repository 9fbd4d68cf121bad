/- Contracts and lemmas for the proof of TextEntry; each theorem states its own conditions. -/
import Derived.Test.YtnepdfpooobmcaaDoorQTextEntrybu
import Derived.Test.YtnepdfpooobmcaaDoorQTextEntryam
import Derived.Test.YtnepdfpooobmcaaDoorQTextEntryae
import Derived.Laws.IdiomStrings
set_option linter.unusedVariables false
set_option linter.unusedSimpArgs false
/- Contracts and lemmas for the proofs of this seat; each theorem states its own conditions. -/
namespace Go.Proofs.YtnepdfpooobmcaaDoor
open Go.RowKit
/-! TextEntry -/
theorem entT_len {x : Ent} (h : entE x = 0) (hn : ∀ o ∈ x.ops, -9223372036854775808 ≤ o.n ∧ o.n ≤ 9223372036854775807) : (bodyT x).length ≤ 404 := by
  by_cases hi : x.im = true
  · rw [bodyT_map hi]
    rw [entE, if_pos hi] at h
    have := mapT_len (ok_of_mapErr h)
    simp [mapW]; omega
  · rw [bodyT_deed hi]
    rw [entE, if_neg hi] at h
    have := dT_len (deed_ok h) hn
    omega
theorem lineT_len (b : List UInt8) : b.length + 2 ≤ (lineT b).length ∧ (lineT b).length ≤ b.length + 23 := by
  have := itoa_len21 (n := (sbL b : Int)) (by omega) (by have := sbL_lt b; omega)
  simp [lineT]; omega
theorem sb_ab : (sbL (⟨#[97, 98]⟩ : ByteArray).data.toList : Int) = 293 := by decide +kernel
def BarPe (D : Ops) (v : Value) (w : World) : Prop := ∃ u, v = .agg #[u] ∧ Seg w u 4 D.length (cO D)
theorem barPe_now {w w' : World} {D : Ops} {v : Value} (h : Up w w' (BarPe D v)) : BarPe D v w' := by
  obtain ⟨w1, _, g, u, h1, h2⟩ := h
  exact ⟨u, h1, h2.ext g⟩
theorem barPe_elim {G : Prop} {w0 w' : World} {D : Ops} {v : Value} (h : Up w0 w' (BarPe D v)) (k : ∀ u, v = .agg #[u] → Hid (Seg w' u 4 D.length (cO D)) → G) : G := by
  obtain ⟨u, h1, h2⟩ := barPe_now h
  exact k u h1 (hid h2)
theorem toL_app (a b : ByteArray) : (a ++ b).data.toList = a.data.toList ++ b.data.toList := by simp [ByteArray.data_append]
theorem halfE_len (x : Ent) : (halfE x).ops.length ≤ x.ops.length := by unfold halfE; split <;> simp
theorem bareE_half (x : Ent) : (halfE x).ops.map bareO = (bareE x).ops ∧ (halfE x).cuts = (bareE x).cuts ∧ (halfE x).own = (bareE x).own ∧ (bareE x).im = x.im := by
  unfold halfE bareE
  split
  · rename_i h; exact ⟨rfl, rfl, rfl, h.symm⟩
  · rename_i h; exact ⟨rfl, rfl, rfl, by simpa using h⟩
theorem xor_u8 (t : UInt8) (c : Int) (hc : 0 ≤ c ∧ c < 256) : ∃ xc : UInt8, bits BinOp.xor IntKind.u8 (t.toNat : Int) c = (xc.toNat : Int) ∧ (c ≠ 0 → xc ≠ t) := by
  refine ⟨⟨(BitVec.ofInt 8 (t.toNat : Int)) ^^^ (BitVec.ofInt 8 c)⟩, ?_, ?_⟩
  · have h : ((BitVec.ofInt 8 (t.toNat : Int)) ^^^ (BitVec.ofInt 8 c)).toNat < 256 := BitVec.isLt _
    show IntKind.u8.wrap ((((BitVec.ofInt 8 (t.toNat : Int)) ^^^ (BitVec.ofInt 8 c)).toNat : Nat) : Int) = ((((BitVec.ofInt 8 (t.toNat : Int)) ^^^ (BitVec.ofInt 8 c)).toNat : Nat) : Int)
    generalize ((BitVec.ofInt 8 (t.toNat : Int)) ^^^ (BitVec.ofInt 8 c)).toNat = n at h ⊢
    rw [IntKind.wrap_u8]; omega
  · intro h0 e
    have e2 : (BitVec.ofInt 8 (t.toNat : Int)) ^^^ (BitVec.ofInt 8 c) = t.toBitVec := congrArg UInt8.toBitVec e
    have e3 : BitVec.ofInt 8 (t.toNat : Int) = t.toBitVec := by
      apply BitVec.eq_of_toNat_eq
      have := t.toNat_lt
      rw [BitVec.toNat_ofInt]
      show (((t.toNat : Int) % 256).toNat) = t.toNat
      omega
    rw [e3] at e2
    have e4 : BitVec.ofInt 8 c = 0 := by
      have := congrArg (fun z => t.toBitVec ^^^ z) e2
      simpa [← BitVec.xor_assoc] using this
    have e5 := congrArg BitVec.toNat e4
    rw [BitVec.toNat_ofInt] at e5
    simp at e5
    omega
theorem chg_list {T : ByteArray} {k : Nat} {xc : UInt8} (h : k < T.size) : (T.extract 0 k ++ ⟨#[xc]⟩ ++ T.extract (k + 1) T.size).data.toList = T.data.toList.set k xc := by
  rw [set_cut (by rw [toL_len]; exact h), toL_app, toL_app, ext_to, ext_from]
  simp
theorem conv_one (W : World) (b : Nat) (xc : UInt8) (hb : W.heap[b]? = some (.cells #[.int .u8 (xc.toNat : Int)] 5 (0, 0))) :
    (convert 53 9 (.slice (some ⟨b, 0, none⟩) 1 1)).run Tryd.prog W = .ok (.string ⟨#[xc]⟩) W :=
  run_convert_bytes_back W 53 9 5 ⟨b, 0, none⟩ 1 [xc] Tryd.underlying53 Tryd.underlying5 Tryd.underlying9 (fun j hj => by
    obtain rfl : j = 0 := by simp at hj; omega
    exact (blk1 hb).1)
set_option maxRecDepth 100000 in
set_option maxHeartbeats 4000000 in
theorem textentry_walk (e : EV) (x : Ent) (more : ByteArray) (i c : Int) (w : World) (L : LaidT w) (h : EntSeg w e x) (sz : EntSz x) (hn : ∀ o ∈ x.ops, -9223372036854775808 ≤ o.n ∧ o.n ≤ 9223372036854775807)
    (hl : x.ops.length ≤ 1000000000) (hm : more.size ≤ 2000000) (hi : -9223372036854775808 ≤ i ∧ i ≤ 9223372036854775807) (hc : 0 ≤ c ∧ c < 256) :
    Calls Tryd.prog 5 #[evV e, .string more, .int .i64 i, .int .u8 c] w fun r w' => r = .returned (.bool true) ∧ Ext w w' := by
  have HL := hid L
  have HX := hid h
  have HC := hid hc
  have S1 := hid (fun w' => tsum_any ⟨#[97, 98]⟩ w' (by decide))
  rw [sb_ab] at S1
  obtain ⟨v1, b, v2, v3⟩ := e
  obtain ⟨h1, hb, h2, h3⟩ := h
  dsimp only at h1 hb h2 h3
  obtain ⟨a1, k1, rfl⟩ := seg_form h1
  obtain ⟨a2, k2, rfl⟩ := seg_form h2
  obtain ⟨a3, k3, rfl⟩ := seg_form h3
  have TE := hid (fun w' (q : Ext w w') => tentry_any _ x w' (L.ext q) (HX.out.ext q) sz hn)
  have RE := hid (fun (s : ByteArray) (hs : s.size ≤ 4000000000) w' (q : Ext w w') => trdentry_any s w' (L.ext q) hs)
  have RB := hid (fun (s : ByteArray) (hs : s.size ≤ 4000000000) (er : Int) (h : lnRd s.data.toList = (er, entN, 0)) (he : er ≠ 0) w' (q : Ext w w') => trdentry_bad s w' (L.ext q) hs h he)
  have BE := hid (fun w' (q : Ext w w') => bareE_any _ x w' (HX.out.ext q))
  have HLN := hid hl
  have HN := hid hn
  have HB := hid hb
  obtain ⟨n1, hn1⟩ : ∃ n, x.ops.length = n := ⟨_, rfl⟩
  obtain ⟨n2, hn2⟩ : ∃ n, x.cuts.length = n := ⟨_, rfl⟩
  obtain ⟨n3, hn3⟩ : ∃ n, x.own.length = n := ⟨_, rfl⟩
  rw [hn1, hn2, hn3] at TE BE HX
  rw [hn1] at h1
  rw [hn2] at h2
  rw [hn3] at h3
  have B0 := hid (heap_alloc_new w (.cells #[.slice a1 n1 k1, .bool b, .slice a2 n2 k2, .slice a3 n3 k3] 46))
  have E0 := hid ((Ext.refl w).alloc (.cells #[.slice a1 n1 k1, .bool b, .slice a2 n2 k2, .slice a3 n3 k3] 46))
  have c0 := blk4 B0.out
  rw [hn1, hn2, hn3]
  show Calls _ _ #[.agg #[.slice a1 n1 k1, .bool b, .slice a2 n2 k2, .slice a3 n3 k3], _, _, _] _ _
  clear L h1 h2 h3 hb sz hn hn1 hn2 hn3 hl
  by_cases he : entE x = 0
  · have hS : entS x = bA (entT x) := if_pos he
    have hrt := lnRd_rt he more.data.toList
    have hlb := entT_len he HN.out
    have hln := lineT_len (bodyT x)
    have hTs : (entS x).size = (entT x).length := by rw [hS, bA_size]
    have hTs2 : 2 ≤ (entS x).size ∧ (entS x).size ≤ 427 := by rw [hTs]; show 2 ≤ (lineT (bodyT x)).length ∧ (lineT (bodyT x)).length ≤ 427; omega
    have hTd : (entS x).data.toList = entT x := by rw [hS, bA_toL]
    rw [← hTs, ← hTd, ← toL_app] at hrt
    have HTD := hid (show ∃ bd, BodP bd ∧ bd.length ≤ 404 ∧ (entS x).data.toList = lineT bd from ⟨bodyT x, bodP_ent he, hlb, hTd⟩)
    have hbe := bareE_half x
    obtain ⟨D, hD⟩ : ∃ D, (bareE x).ops = D := ⟨_, rfl⟩
    obtain ⟨C, hC⟩ : ∃ C, (bareE x).cuts = C := ⟨_, rfl⟩
    obtain ⟨O, hO⟩ : ∃ O, (bareE x).own = O := ⟨_, rfl⟩
    rw [hD, hC, hO] at hbe
    have TE1 := hid (TE.out _ E0.out)
    have HU := bareV_seg HX.out
    generalize bareV (.slice a1 n1 k1, b, .slice a2 n2 k2, .slice a3 n3 k3) = ub at BE HU
    obtain ⟨u1, ub, u2, u3⟩ := ub
    obtain ⟨g1, gb, g2, g3⟩ := HU
    dsimp only at g1 gb g2 g3
    rw [hbe.2.1] at g2
    rw [hbe.2.2.1] at g3
    obtain ⟨p1, l1, rfl⟩ := seg_form g1
    obtain ⟨p2, l2, rfl⟩ := seg_form g2
    obtain ⟨p3, l3, rfl⟩ := seg_form g3
    have BB := hid (fun w' (q : Ext w w') => show Calls Tryd.prog 15 #[.agg #[.slice p1 (halfE x).ops.length l1]] w' fun e w2 => ∃ v', e = .returned (.agg #[v']) ∧ Seg w2 v' 4 D.length (cO D) ∧ Ext w' w2 from (tbare_any _ (halfE x).ops w' (g1.ext q) (Nat.le_trans (halfE_len x) HLN.out)).mono fun e w2 ⟨v', h1, h2, h3⟩ => ⟨v', h1, by rw [← hbe.1, List.length_map]; exact own_seg h2, h3⟩)
    have HG := hid (And.intro g2 g3)
    generalize (halfE x).ops.length = m1 at BB BE
    rw [he] at TE1
    generalize hTS : entS x = T at *
    have RE1 := hid (fun w' (q : Ext w w') => RE.out (T ++ more) (by rw [ByteArray.size_append]; omega) w' q)
    rw [hrt] at RE1
    have hsum : (T ++ more).size = T.size + more.size := ByteArray.size_append
    have z1 : ¬ 9223372036854775807 < T.size + more.size := by omega
    have HBE := hid (And.intro hbe (And.intro hD (And.intro hC hO)))
    clear TE RE he hS hrt hlb hln hTs hTd hbe hD hC hO g1 gb g2 g3 hsum
    go_enter Tryd.func5, Tryd.ntmps5
    go_wp2_with fail
    refine (S1.out _).mono ?_
    clear S1
    rintro r w1 ⟨rfl, rfl⟩
    go_wp2_with fail
    refine (TE1.out).mono ?_
    clear TE1
    rintro r w1 ⟨rfl, E1⟩
    have c1 := blk4 (E1.heap B0.out)
    have HE1 := hid (E0.out.trans E1)
    have RE2 := hid (RE1.out w1 HE1.out)
    have B1 := hid (E1.heap B0.out)
    clear RE1 E1 c0 B0 E0
    go_wp2_with fail
    refine (RE2.out).mono ?_
    clear RE2
    rintro r w2 ⟨⟨y1, yb, y2, y3⟩, hr, hst, -, E2⟩
    have hr : r = .returned (.tuple #[.agg #[y1, .bool yb, y2, y3], .int .i64 (T.size : Int), .int .i64 0]) := hr
    subst hr
    obtain ⟨o1, o2, o3, o4⟩ := hst
    dsimp only at o1 o2 o3 o4
    rw [HBE.out.2.1] at o1
    rw [HBE.out.2.2.1] at o3
    rw [HBE.out.2.2.2] at o4
    rw [HBE.out.1.2.2.2, ← HB.out] at o2
    have o2' := o2.symm
    clear o2
    subst o2'
    obtain ⟨q1, r1, rfl⟩ := own_form o1
    obtain ⟨q2, r2, rfl⟩ := own_form o3
    obtain ⟨q3, r3, rfl⟩ := own_form o4
    have B2 := hid (((Ext.refl w2).alloc (.cells #[.slice q1 D.length r1, .bool b, .slice q2 C.length r2, .slice q3 O.length r3] 46)).heap (E2.heap B1.out))
    have BY := hid (heap_alloc_new w2 (.cells #[.slice q1 D.length r1, .bool b, .slice q2 C.length r2, .slice q3 O.length r3] 46))
    have HE2 := hid (HE1.out.trans (E2.trans ((Ext.refl w2).alloc (.cells #[.slice q1 D.length r1, .bool b, .slice q2 C.length r2, .slice q3 O.length r3] 46))))
    have HY := hid (And.intro (own_seg o1) (And.intro (own_seg o3) (own_seg o4)))
    obtain ⟨wA, hwA⟩ : ∃ wA : World, w2.alloc (.cells #[.slice q1 D.length r1, .bool b, .slice q2 C.length r2, .slice q3 O.length r3] 46) = wA := ⟨_, rfl⟩
    have EA := hid (show Ext w2 wA from hwA ▸ (Ext.refl w2).alloc _)
    have BE1 : Hid (∀ w', Ext wA w' → Calls Tryd.prog 20 #[.agg #[.slice a1 n1 k1, .bool b, .slice a2 n2 k2, .slice a3 n3 k3]] w' fun e w3 => e = .returned (.agg #[.slice p1 m1 l1, .bool ub, .slice p2 C.length l2, .slice p3 O.length l3]) ∧ Ext w' w3) := hid (fun w' (q : Ext wA w') => BE.out w' (HE2.out.trans (hwA ▸ q)))
    have BB1 := hid (fun w' (q : Ext wA w') => BB.out w' (HE2.out.trans (hwA ▸ q)))
    have SM := hid (fun w' (q : Ext wA w') => sameMap_any (.agg #[.slice q2 C.length r2, .slice q3 O.length r3]) (.agg #[.slice p2 C.length l2, .slice p3 O.length l3]) C C O O w' ⟨_, _, rfl, HY.out.2.1.ext (EA.out.trans q), HY.out.2.2.ext (EA.out.trans q)⟩ ⟨_, _, rfl, HG.out.1.ext (HE2.out.trans (hwA ▸ q)), HG.out.2.ext (HE2.out.trans (hwA ▸ q))⟩)
    rw [show sameB C C O O = true by simp [sameB]] at SM
    have SD := hid (fun w' u5 (q : Ext wA w') (hu : Seg w' u5 4 D.length (cO D)) => sameDeedT_any (.slice q1 D.length r1) u5 D D w' (HY.out.1.ext (EA.out.trans q)) hu)
    rw [decide_eq_true rfl] at SD
    have f1 := blk4 B2.out
    have f2 := blk4 BY.out
    rw [hwA] at f1 f2 B2 BY HE2
    have HWA := hid hwA
    have HW2 := hid (HE1.out.trans E2).size'
    clear o1 o3 o4 E2 BE BB HG HY HBE c1 B1 HE1 hwA
    go_wp2_with fail
    rw [HWA.out]
    have qb : (b != b) = false := by simp
    have hfm := fun W => fld_map (.slice p1 m1 l1) (.bool ub) (.slice p2 C.length l2) (.slice p3 O.length l3) W
    have hfd := fun W => fld_deed (.slice p1 m1 l1) (.bool ub) (.slice p2 C.length l2) (.slice p3 O.length l3) W
    have qs : ((T.size : Int) != (T.size : Int)) = false := by simp
    refine wp_region_ph [.k (.int .i64 0), .k (.bool false), .k (.bool false), .k (.int .i64 (T.size : Int)), .k (.string T), .k (.int .i64 (T.size : Int)), .k (.bool false), .k (.bool false), .k (.bool false), .k (.pointer (some ⟨w2.heap.size, 1, none⟩)), .k (.bool b), .k (.pointer (some ⟨w.heap.size, 1, none⟩)), .k (.bool b), .k (.bool false), .k (.bool false), .k (.bool false), .k (.pointer (some ⟨w2.heap.size, 2, none⟩)), .k (.agg #[.slice q2 C.length r2, .slice q3 O.length r3]), .k (.agg #[.slice a1 n1 k1, .bool b, .slice a2 n2 k2, .slice a3 n3 k3]), .k (.agg #[.slice p1 m1 l1, .bool ub, .slice p2 C.length l2, .slice p3 O.length l3]), .k (.agg #[.slice p2 C.length l2, .slice p3 O.length l3]), .k (.bool true), .k (.bool false), .k (.bool false), .k (.bool false), .k (.pointer (some ⟨w2.heap.size, 0, none⟩)), .k (.agg #[.slice q1 D.length r1]), .k (.agg #[.slice a1 n1 k1, .bool b, .slice a2 n2 k2, .slice a3 n3 k3]), .k (.agg #[.slice p1 m1 l1, .bool ub, .slice p2 C.length l2, .slice p3 O.length l3]), .k (.agg #[.slice p1 m1 l1]), .p (BarPe D), .k (.bool true), .k (.bool false), .k (.bool false)] [] (by kernel_rfl) (by kernel_rfl) (by kernel_rfl) rfl rfl ?hs ?hC ?he
    case hC =>
      intro i hi
      simp at hi
    case hs =>
      refine ⟨?_, ?_, ?_, ?_, ?_, ?_, ?_, ?_, ?_, ?_, ?_, ?_, ?_, ?_, ?_, ?_, ?_, ?_, ?_, ?_, ?_, ?_, ?_, ?_, ?_, ?_, ?_, ?_, ?_, ?_, ?_, ?_, ?_, ?_, trivial⟩
      all_goals (
        intro x w' hE hd
        try simp [PhDeps, at_k, at_p, at_t, at_any, Region.binds] at hd
        try ((with_reducible refine Exists.elim hd ?_); clear hd; intro y hd; obtain ⟨hd, hG⟩ := hd)
        have h0 := hE.cell f1.1
        have h1 := hE.cell f1.2.1
        have h2 := hE.cell f1.2.2.1
        have h3 := hE.cell f1.2.2.2
        have j0 := hE.cell f2.1
        have j1 := hE.cell f2.2.1
        have j2 := hE.cell f2.2.2.1
        have j3 := hE.cell f2.2.2.2
        try ((with_reducible refine barPe_elim (w0 := wA) (D := D) hd.2.1 ?_); intro u5 hx5 hm5; simp only [hx5])
        first | simp only [frL, List.length_cons, List.length_nil, List.take_succ_cons, List.take_zero, Nat.reduceAdd, Nat.zero_add, List.setIfInBounds_toArray, List.set_cons_zero, List.set_cons_succ, hd] | simp only [frL, List.length_cons, List.length_nil, List.take_succ_cons, List.take_zero, Nat.reduceAdd, Nat.zero_add, List.setIfInBounds_toArray, List.set_cons_zero, List.set_cons_succ]
        go_wp2_with (first | (go_at_call 20; with_reducible refine (BE1.out _ hE).mono ?_; rintro e wa ⟨rfl, hea⟩) | (go_at_call 11; with_reducible refine (SM.out _ hE).mono ?_; rintro e wa ⟨rfl, hea⟩) | (go_at_call 15; with_reducible refine (BB1.out _ hE).mono ?_; rintro e wa ⟨v9, rfl, hm9, hea⟩) | (go_at_call 14; refine (SD.out w' _ hE hm5.out).mono ?_; rintro e wa ⟨rfl, hea⟩))
        all_goals first
          | ((with_reducible refine phK ?_ ?_); (focus rfl); (repeat (first | (with_reducible assumption) | (with_reducible exact Ext.refl _) | (with_reducible refine Ext.drew ?_) | (with_reducible refine Ext.drewN ?_ _) | (with_reducible refine Ext.alloc ?_ _) | (with_reducible refine Ext.trans ?_ (by with_reducible assumption)))))
          | (exact phN (show BarPe _ _ _ from ⟨_, rfl, hm9⟩) hE hea)
          | ((with_reducible refine phT rfl hG ?_); (repeat (first | (with_reducible assumption) | (with_reducible exact Ext.refl _) | (with_reducible refine Ext.drew ?_) | (with_reducible refine Ext.drewN ?_ _) | (with_reducible refine Ext.alloc ?_ _) | (with_reducible refine Ext.trans ?_ (by with_reducible assumption)))))
          | ((with_reducible refine phU hG ?_); (repeat (first | (with_reducible assumption) | (with_reducible exact Ext.refl _) | (with_reducible refine Ext.drew ?_) | (with_reducible refine Ext.drewN ?_ _) | (with_reducible refine Ext.alloc ?_ _) | (with_reducible refine Ext.trans ?_ (by with_reducible assumption)))))
          | (with_reducible exact phBox hE)
          | (with_reducible exact phRow hE))
    case he =>
      intro x wq Eq hd
      simp [PhEnd, at_k, at_p, at_t, at_any] at hd
      simp only [frL, List.length_cons, List.length_nil, List.take_succ_cons, List.take_zero, Nat.reduceAdd, Nat.zero_add, List.setIfInBounds_toArray, List.set_cons_zero, List.set_cons_succ, hd, List.length_cons, List.length_nil, List.drop_succ_cons, List.drop_zero]
      clear hd
      have HEq := hid (HE2.out.trans Eq)
      have BYq := hid (Eq.heap BY.out)
      have hTs3 := hTs2
      have HTs := hid hTs2
      clear Eq BE1 BB1 SM SD f1 f2 BY HE2 B2 EA HWA hTs2
      by_cases hc0 : c = 0
      · subst hc0
        go_wp2
        go_ret
        exact ⟨rfl, HEq.out⟩
      · have qc : (c == 0) = false := by simp [hc0]
        have HC0 := hid hc0
        have WI := hid (fun w' => within_any i ((T.size : Int) - 1) w' (by omega) (by omega))
        obtain ⟨k, hk, hk2⟩ : ∃ k : Nat, wi i ((T.size : Int) - 1) = k ∧ k + 1 < T.size := ⟨(wi i ((T.size : Int) - 1)).toNat, by have := wi_lo (k := i) (n := (T.size : Int) - 1) (by omega); omega, by have := wi_hi (k := i) (n := (T.size : Int) - 1) (by omega); have := wi_lo (k := i) (n := (T.size : Int) - 1) (by omega); omega⟩
        rw [hk] at WI
        clear hk hc0
        go_wp2_with fail
        refine (WI.out _).mono ?_
        clear WI
        rintro r w5 ⟨rfl, rfl⟩
        have hkT : k < T.size := by omega
        obtain ⟨tk, htk⟩ : ∃ t, T[k]'hkT = t := ⟨_, rfl⟩
        have HTK := hid htk
        obtain ⟨xc, hx1, hx2⟩ := xor_u8 tk c HC.out
        have HX2 := hid hx2
        have hcv := fun (W : World) (b : Nat) (hb : W.heap[b]? = some (.cells #[.int .u8 (xc.toNat : Int)] 5 (0, 0))) => conv_one W b xc hb
        have HXB : Hid (bits BinOp.xor IntKind.u8 (tk.toNat : Int) c = (xc.toNat : Int)) := hid hx1
        have hS := chg_list (T := T) (k := k) (xc := xc) hkT
        have hSz : (T.extract 0 k ++ ⟨#[xc]⟩ ++ T.extract (k + 1) T.size).size = T.size := by rw [← toL_len, hS, List.length_set, toL_len]
        have hbad : (lnRd (T.extract 0 k ++ ⟨#[xc]⟩ ++ T.extract (k + 1) T.size).data.toList).1 ≠ 0 := by
          obtain ⟨bd, d1, d2, d3⟩ := HTD.out
          rw [hS, d3]
          refine lnRd_bad d1 (by omega) (i := k) ?_ ?_
          · rw [← d3, toL_len]; exact hk2
          · rw [← d3, List.getD_eq_getElem?_getD, idx_list T hkT, htk]
            exact hx2 HC0.out
        obtain ⟨er, her⟩ : ∃ er, (lnRd (T.extract 0 k ++ ⟨#[xc]⟩ ++ T.extract (k + 1) T.size).data.toList).1 = er := ⟨_, rfl⟩
        rw [her] at hbad
        have hle := lnRd_err (l := (T.extract 0 k ++ ⟨#[xc]⟩ ++ T.extract (k + 1) T.size).data.toList) (by rw [her]; exact hbad)
        rw [her] at hle
        have RBS : Hid (∀ w', Ext w w' → Calls Tryd.prog 19 #[.string (T.extract 0 k ++ ⟨#[xc]⟩ ++ T.extract (k + 1) T.size)] w' fun e w3 => e = .returned (.tuple #[.agg #[.slice none 0 0, .bool false, .slice none 0 0, .slice none 0 0], .int .i64 0, .int .i64 er]) ∧ Ext w' w3) := hid (fun w' q => RB.out _ (by rw [hSz]; omega) er hle hbad w' q)
        have qe : (er != 0) = true := by simp [hbad]
        have sz1 : (T.extract 0 k).size = k := by simp; omega
        have sz2 : (T.extract (k + 1) T.size).size = T.size - (k + 1) := by simp
        have z2 : ¬ 9223372036854775807 < (T.extract 0 k).size + 1 := by omega
        have z3 : ¬ 9223372036854775807 < (T.extract 0 k).size + 1 + (T.extract (k + 1) T.size).size := by omega
        have HCV := hid hcv
        have hxb := HXB.out
        have HHB := hid hbad
        clear hcv hx2 hc hS hbad her hle hx1 RB sz1 sz2 hSz
        go_wp2_with fail
        refine wp_region_ph [.k (.string T), .k (.int .i64 k), .k (.string (T.extract 0 k)), .k (.string T), .k (.int .i64 k), .k (.int .u8 (tk.toNat : Int)), .k (.int .u8 c), .k (.int .u8 (xc.toNat : Int)), .p (RowAt wq #[.int .u8 (xc.toNat : Int)] 5 1), .k (.string ⟨#[xc]⟩), .k (.string (T.extract 0 k ++ ⟨#[xc]⟩)), .k (.string T), .k (.int .i64 k), .k (.int .i64 ((k : Int) + 1)), .k (.string (T.extract (k + 1) T.size)), .k (.string (T.extract 0 k ++ ⟨#[xc]⟩ ++ T.extract (k + 1) T.size)), .k (.tuple #[.agg #[.slice none 0 0, .bool false, .slice none 0 0, .slice none 0 0], .int .i64 0, .int .i64 er]), .k (.tuple #[.agg #[.slice none 0 0, .bool false, .slice none 0 0, .slice none 0 0], .int .i64 0, .int .i64 er]), .k (.agg #[.slice none 0 0, .bool false, .slice none 0 0, .slice none 0 0]), .k (.int .i64 0), .k (.int .i64 er)] [19, 20] (by kernel_rfl) (by kernel_rfl) (by kernel_rfl) rfl rfl ?hs ?hC ?he
        case hC =>
          intro i hi
          simp only [List.mem_cons, List.not_mem_nil, or_false] at hi
          rcases hi with rfl | rfl
          all_goals (
            intro o u ho hu
            simp [RS.k, RS.p, RS.t, RS.any] at ho hu
            subst ho; subst hu
            refine ⟨rfl, fun x w2 hd w3 => ?_⟩
            simp [PhDeps, at_k, at_p, at_t, at_any, Region.binds] at hd
            try ((with_reducible refine Exists.elim hd ?_); clear hd; intro y hd; obtain ⟨hd, hG⟩ := hd)
            simp [frL, hd, List.take_succ_cons, execOp, Act.eval, Frame.eval, Instr.extract])
        case hs =>
          refine ⟨?_, ?_, ?_, ?_, ?_, ?_, ?_, ?_, ?_, ?_, ?_, ?_, ?_, ?_, ?_, ?_, ?_, ?_, ?_, ?_, ?_, trivial⟩
          all_goals (
            intro x w' hE hd
            try simp [PhDeps, at_k, at_p, at_t, at_any, Region.binds] at hd
            try ((with_reducible refine Exists.elim hd ?_); clear hd; intro y hd; obtain ⟨hd, hG⟩ := hd)
            try (obtain ⟨u1, g1, g2, bR, hx, hlt, hbk⟩ := hd; replace hbk := g2.heap hbk; have hcv1 := HCV.out w' bR hbk; clear g1 g2; simp only [hx])
            first | simp only [frL, List.length_cons, List.length_nil, List.take_succ_cons, List.take_zero, Nat.reduceAdd, Nat.zero_add, List.setIfInBounds_toArray, List.set_cons_zero, List.set_cons_succ, hd] | simp only [frL, List.length_cons, List.length_nil, List.take_succ_cons, List.take_zero, Nat.reduceAdd, Nat.zero_add, List.setIfInBounds_toArray, List.set_cons_zero, List.set_cons_succ]
            go_wp2_with (first | (go_at_call 19; with_reducible refine (RBS.out _ (HEq.out.trans hE)).mono ?_; rintro e wa ⟨rfl, hea⟩))
            all_goals first
              | ((with_reducible refine phK ?_ ?_); (focus rfl); (repeat (first | (with_reducible assumption) | (with_reducible exact Ext.refl _) | (with_reducible refine Ext.drew ?_) | (with_reducible refine Ext.drewN ?_ _) | (with_reducible refine Ext.alloc ?_ _) | (with_reducible refine Ext.trans ?_ (by with_reducible assumption)))))
              | ((with_reducible refine phT rfl hG ?_); (repeat (first | (with_reducible assumption) | (with_reducible exact Ext.refl _) | (with_reducible refine Ext.drew ?_) | (with_reducible refine Ext.drewN ?_ _) | (with_reducible refine Ext.alloc ?_ _) | (with_reducible refine Ext.trans ?_ (by with_reducible assumption)))))
              | ((with_reducible refine phU hG ?_); (repeat (first | (with_reducible assumption) | (with_reducible exact Ext.refl _) | (with_reducible refine Ext.drew ?_) | (with_reducible refine Ext.drewN ?_ _) | (with_reducible refine Ext.alloc ?_ _) | (with_reducible refine Ext.trans ?_ (by with_reducible assumption)))))
              | (with_reducible exact phBox hE)
              | (with_reducible exact phRow hE))
        case he =>
          intro x12 w7 E7 hd
          simp [PhEnd, at_k, at_p, at_t, at_any] at hd
          simp only [frL, List.length_cons, List.length_nil, List.take_succ_cons, List.take_zero, Nat.reduceAdd, Nat.zero_add, List.setIfInBounds_toArray, List.set_cons_zero, List.set_cons_succ, hd, List.length_cons, List.length_nil, List.drop_succ_cons, List.drop_zero]
          clear hd
          have BY7 := hid (E7.heap BYq.out)
          have c7 := blk4 BY7.out
          obtain ⟨t1, t2, t3, t4⟩ := frz4 BY7.out
          have HE7 := hid (HEq.out.trans E7)
          have SE : Hid (∀ w', Calls Tryd.prog 22 #[.agg #[.slice none 0 0, .bool false, .slice none 0 0, .slice none 0 0], .agg #[.slice none 0 0, .bool false, .slice none 0 0, .slice none 0 0]] w' fun e w3 => e = .returned (.bool true) ∧ Ext w' w3) := hid (fun w' => by
            have q := sameEntry_any eZ eZ entN entN w' (eZ_st 0 w').seg (eZ_st 0 w').seg
            rw [show sameEB entN entN = true by first | rfl | simp [sameEB, entN] | decide] at q
            exact q)
          have HES := hid (ext_s4 HE7.out (p := w2.heap.size) (by have := HW2.out; omega) (.slice none 0 0) (.bool false) (.slice none 0 0) (.slice none 0 0))
          have b8 := blk4_sA BY7.out (.slice none 0 0) (.bool false) (.slice none 0 0) (.slice none 0 0)
          have c8 := blk4 b8
          clear BY7 E7
          go_wp2_with fail
          refine (SE.out _).mono ?_
          rintro r w9 ⟨rfl, E9⟩
          go_wp2
          go_ret
          exact ⟨rfl, HES.out.trans E9⟩
  · have hS := entS_no he
    have q : (entE x != 0) = true := by simp [he]
    have TE1 := hid (TE.out _ E0.out)
    rw [hS] at TE1
    generalize entE x = ee at *
    clear TE he hS
    go_enter Tryd.func5, Tryd.ntmps5
    go_wp2_with fail
    refine (S1.out _).mono ?_
    rintro r w1 ⟨rfl, rfl⟩
    go_wp2_with fail
    refine (TE1.out).mono ?_
    rintro r w1 ⟨rfl, E1⟩
    go_wp2
    go_ret
    exact ⟨by first | rfl | simp, E0.out.trans E1⟩
end Go.Proofs.YtnepdfpooobmcaaDoor
