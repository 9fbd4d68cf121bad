/- Contracts and lemmas for the proof of PlanPlays; each theorem states its own conditions. -/
import Derived.Test.YtghemmmkbpfdhaaGreatDoorQPlanPlaysby
import Derived.Test.YtghemmmkbpfdhaaGreatDoorQPlanPlaysbk
import Derived.Test.YtghemmmkbpfdhaaGreatDoorQPlanPlaysbm
import Derived.Test.YtghemmmkbpfdhaaGreatDoorQPlanPlaysat
import Derived.Deep.Strs
import Derived.Deep.Matrix
import Derived.Lib.SmallJoins
import Derived.Test.YtghemmmkbpfdhaaGreatDoorQPlanPlaysbw
import Derived.Test.YtghemmmkbpfdhaaGreatDoorQPlanPlaysbx
import Derived.Test.YtghemmmkbpfdhaaGreatDoorQPlanPlaysbp
import Derived.Test.YtghemmmkbpfdhaaGreatDoorQPlanPlaysbt
set_option linter.unusedVariables false
set_option linter.unusedSimpArgs false
/- Contracts and lemmas for the proofs of this seat; each theorem states its own conditions. -/
namespace Go.Proofs.YtghemmmkbpfdhaaGreatDoor
open Go.RowKit Go.Deep Go.WideShapes Go.ChangeShapes
/-! what a row tells of deeds -/
set_option maxRecDepth 10000 in
theorem segDs_of_trod {H : Type} {enc : TypeId × Value → H} {W : World} {base : Nat} {held : Bool} {fuel : Nat} {a : Option Addr} {len cap : Nat} {x : DataW H × List MemPlace}
    (h : DataW.trod enc Tryz.prog W base (fun _ => true) held fuel 23 [.slice a len cap] = some x) :
    ∃ D : List Ops, SegDs W (.slice a len cap) D ∧ (∀ d ∈ D, opsW d) ∧ 2 * D.length + 1 ≤ Rows.uptoBulk x.1 := by
  have kd : Tryz.prog.cellsOf 33 = 1 := by kernel_rfl
  rcases open_slice1 Tryz.underlying23 kd h with ⟨hcs, rfl⟩ | ⟨ad, len', cap', m, n, V, Dd, Pl, hcs, _, hl, hm, hmm, rfl, hx⟩
  · injection hcs with hcs _
    injection hcs with e1 e2 e3
    subst e1; subst e2; subst e3
    exact ⟨[], SegDs.nil _ _ _ (by simp [maxLen]), by simp, by simp [Rows.uptoBulk]⟩
  · injection hcs with hcs _
    injection hcs with e1 e2 e3
    subst e1; subst e2; subst e3
    simp only [if_true] at hmm
    obtain ⟨f, hf⟩ := pick_fun (α := Ops) (n := len) (p := fun i d => (∃ au cu, W.cell? (ad.add i) = some (.slice au d.length cu) ∧ Seg W (.slice au d.length cu) 4 d.length (cO d)) ∧ opsW d ∧ 2 ≤ Rows.uptoBulk (Dd i)) (fun i hi => by
      obtain ⟨h1, h2⟩ := hx i (by omega)
      obtain ⟨a', l', c', d, he, h3, h4, h5⟩ := deed_of_trod h2
      injection he with he _
      obtain ⟨x2, c2, e2⟩ := seg_form h3
      injection e2 with g1 g2 g3
      subst g2
      exact ⟨d, ⟨a', c', by rw [h1, he], h3⟩, h4, by simp only at h5; omega⟩)
    refine ⟨(List.range len).map f, ?_, ?_, ?_⟩
    · by_cases h0 : len = 0
      · subst h0
        simpa using SegDs.nil W (some ad) cap hm
      · obtain ⟨⟨au, cu, hc0, _⟩, _⟩ := hf 0 (by omega)
        have hs := cell_spot hc0
        obtain ⟨b, off, sp⟩ := ad
        have : sp = none := by simpa [Addr.add] using hs
        subst this
        have := SegDs.mk' (w := W) (b := b) (off := off) (c := cap) (D := (List.range len).map f) (by simpa using hl) hm (fun j d hd => by
          have hj := (List.getElem?_eq_some_iff.1 hd).1
          simp at hj
          have e : d = f j := by
            rw [List.getElem?_map, List.getElem?_range hj] at hd
            simpa using hd.symm
          subst e
          obtain ⟨⟨au, cu, g1, g2⟩, _⟩ := hf j hj
          rw [addr_add] at g1
          exact ⟨au, cu, g1, g2⟩)
        simpa using this
    · intro d hd
      simp at hd
      obtain ⟨i, hi, rfl⟩ := hd
      exact (hf i hi).2.1
    · have hb := bulk_map (c := 2) (f := Dd) (l := List.range len) (fun i hi => (hf i (List.mem_range.1 hi)).2.2)
      simp only [List.length_range] at hb
      simp only [List.length_map, List.length_range, Rows.uptoBulk]
      omega
end Go.Proofs.YtghemmmkbpfdhaaGreatDoor

/- Contracts and lemmas for the proofs of this seat; each theorem states its own conditions. -/
namespace Go.Proofs.YtghemmmkbpfdhaaGreatDoor
open Go.RowKit Go.Deep Go.WideShapes Go.ChangeShapes
/-! what a row tells of numbers, of rows of numbers, of names and of a map -/
def StrW (l : List ByteArray) : Prop := ∀ s ∈ l, s.size ≤ maxLen
def IntW (l : List Int) : Prop := ∀ z ∈ l, -9223372036854775808 ≤ z ∧ z ≤ 9223372036854775807
theorem segI_of_trod {H : Type} {enc : TypeId × Value → H} {W : World} {base : Nat} {held : Bool} {fuel : Nat} {v : Value} {x : DataW H × List MemPlace}
    (h : DataW.trod enc Tryz.prog W base (fun _ => true) held fuel 24 [v] = some x) :
    ∃ a len cap, ∃ l : List Int, v = .slice a len cap ∧ Seg W (.slice a len cap) 1 l.length (cI l) ∧ IntW l ∧ l.length + 1 ≤ Rows.uptoBulk x.1 := by
  rcases open_ints Tryz.underlying24 Tryz.underlying3 (by kernel_rfl) h with ⟨hcs, rfl⟩ | ⟨ad, len, cap, zs, hcs, _, hl, hm, hz, rfl, hcell, hwz⟩
  · injection hcs with hcs _
    exact ⟨none, 0, 0, [], hcs, Seg.nil _ _, by simp [IntW], by simp [Rows.uptoBulk]⟩
  · injection hcs with hcs _
    simp only [if_true] at hz
    obtain ⟨s1, s2, s3⟩ := seg_of_row (w := W) (a := some ad) (len := len) (cap := cap) (zs := zs) (.inr ⟨ad, rfl, hl, hm, hz, hcell, hwz⟩)
    refine ⟨some ad, len, cap, zs.take len, hcs, s1, s2, ?_⟩
    have hb := bulk_map (c := 1) (H := H) (f := fun n : Int => DataW.lit (.int .i64 n)) (l := zs.take len) (fun i _ => bulk_one _)
    simp only [Rows.uptoBulk, lits]
    omega
theorem segI_of_trod' {H : Type} {enc : TypeId × Value → H} {W : World} {base : Nat} {held : Bool} {fuel : Nat} {a : Option Addr} {len cap : Nat} {x : DataW H × List MemPlace}
    (h : DataW.trod enc Tryz.prog W base (fun _ => true) held fuel 24 [.slice a len cap] = some x) :
    ∃ l : List Int, Seg W (.slice a len cap) 1 l.length (cI l) ∧ IntW l ∧ l.length + 1 ≤ Rows.uptoBulk x.1 := by
  obtain ⟨a', len', cap', l, e, h1, h2, h3⟩ := segI_of_trod h
  exact ⟨l, by rw [e]; exact h1, h2, h3⟩
theorem segS_of_trod {H : Type} {enc : TypeId × Value → H} {W : World} {base : Nat} {held : Bool} {fuel : Nat} {v : Value} {x : DataW H × List MemPlace}
    (h : DataW.trod enc Tryz.prog W base (fun _ => true) held fuel 48 [v] = some x) :
    ∃ a len cap, ∃ l : List ByteArray, v = .slice a len cap ∧ Seg W (.slice a len cap) 1 l.length (cS l) ∧ StrW l ∧ l.length + 1 ≤ Rows.uptoBulk x.1 := by
  rcases open_strs Tryz.underlying48 Tryz.underlying9 (by kernel_rfl) h with ⟨hcs, rfl⟩ | ⟨ad, len, cap, m, Sx, hcs, _, hl, hm, hmm, rfl, hx⟩
  · injection hcs with hcs _
    exact ⟨none, 0, 0, [], hcs, Seg.nil _ _, by simp [StrW], by simp [Rows.uptoBulk]⟩
  · injection hcs with hcs _
    simp only [if_true] at hmm
    refine ⟨some ad, len, cap, (List.range len).map Sx, hcs, ⟨by simp [cS], some ad, cap, by simp, by simpa using hl, hm, fun hn => ?_⟩, ?_, ?_⟩
    · simp at hn
      have hs := cell_spot (hx 0 (by omega)).1
      obtain ⟨b, off, sp⟩ := ad
      have : sp = none := by simpa [Addr.add] using hs
      subst this
      refine ⟨b, off, rfl, fun j u hu => ?_⟩
      rw [← addr_add]
      obtain ⟨hj, e⟩ := List.getElem?_eq_some_iff.1 hu
      simp [cS] at hj e
      subst e
      exact (hx j (by omega)).1
    · intro s hs
      simp at hs
      obtain ⟨i, hi, rfl⟩ := hs
      exact (hx i (by omega)).2
    · have hb := bulk_map (c := 1) (H := H) (f := fun i => DataW.lit (.string (Sx i).data.toList)) (l := List.range len) (fun i _ => bulk_one _)
      simp only [List.length_range] at hb
      simp only [List.length_map, List.length_range, Rows.uptoBulk]
      omega
set_option maxRecDepth 10000 in
theorem map_of_trod {H : Type} {enc : TypeId × Value → H} {W : World} {base : Nat} {held : Bool} {fuel : Nat} {cs : List Value} {x : DataW H × List MemPlace}
    (h : DataW.trod enc Tryz.prog W base (fun _ => true) held fuel 50 cs = some x) :
    ∃ v1 v2, ∃ C : List ByteArray, ∃ O : List Int, cs = [v1, v2] ∧ IsMap W (.agg #[v1, v2]) C O ∧ StrW C ∧ IntW O ∧ C.length + O.length + 3 ≤ Rows.uptoBulk x.1 := by
  have kd : Tryz.prog.cellsOf 50 = 2 := by kernel_rfl
  have k1 : Tryz.prog.cellsOf 48 = 1 := by kernel_rfl
  have k2 : Tryz.prog.cellsOf 24 = 1 := by kernel_rfl
  obtain ⟨y0, y1, n, rfl, hl, h0, h1⟩ := trod_struct2 Tryz.underlying50 h
  rw [kd] at hl
  match cs, hl with
  | [c1, c2], _ =>
    simp [k1, k2] at h0 h1
    obtain ⟨a, len, cap, C, e1, q1, q2, q3⟩ := segS_of_trod h0
    obtain ⟨a', len', cap', O, e2, r1, r2, r3⟩ := segI_of_trod h1
    refine ⟨c1, c2, C, O, rfl, ⟨c1, c2, rfl, by rw [e1]; exact q1, by rw [e2]; exact r1⟩, q2, r2, ?_⟩
    simp only [Rows.uptoBulk, Rows.uptoBulkAll]
    omega
set_option maxRecDepth 10000 in
theorem segLL_of_trod {H : Type} {enc : TypeId × Value → H} {W : World} {base : Nat} {held : Bool} {fuel : Nat} {a : Option Addr} {len cap : Nat} {x : DataW H × List MemPlace}
    (h : DataW.trod enc Tryz.prog W base (fun _ => true) held fuel 51 [.slice a len cap] = some x) :
    ∃ ls : List (List Int), SegLL W (.slice a len cap) ls ∧ (∀ l ∈ ls, IntW l) ∧ ls.length + 1 ≤ Rows.uptoBulk x.1 := by
  rcases open_int_rows Tryz.underlying51 Tryz.underlying24 Tryz.underlying3 (by kernel_rfl) (by kernel_rfl) h with ⟨hcs, rfl⟩ | ⟨ad, len', cap', A, L, C, Z, hcs, _, hl, hm, rfl, hx⟩
  · injection hcs with hcs _
    injection hcs with e1 e2 e3
    subst e1; subst e2; subst e3
    exact ⟨[], segll_nil _, by simp, by simp [Rows.uptoBulk]⟩
  · injection hcs with hcs _
    injection hcs with e1 e2 e3
    subst e1; subst e2; subst e3
    obtain ⟨ls, g1, g2, g3⟩ := segll_of_rows hl hm hx
    refine ⟨ls, g1, g3, ?_⟩
    have hb := bulk_map (c := 1) (H := H) (f := fun r => intRow .i64 (A r) (L r) (Z r)) (l := List.range len) (fun i _ => bulk_one _)
    simp only [List.length_range] at hb
    simp only [Rows.uptoBulk]
    omega
end Go.Proofs.YtghemmmkbpfdhaaGreatDoor

/- Contracts and lemmas for the proofs of this seat; each theorem states its own conditions. -/
namespace Go.Proofs.YtghemmmkbpfdhaaGreatDoor
open Go.RowKit Go.Maps
/-! PlanPlays: whatever is handed in -/
theorem equal_Nl (v u : Value) (L : List Nat) (w : World) (h : Seg w v 1 L.length (cN L)) (h' : Seg w u 1 L.length (cN L)) :
    Calls Tryz.prog 7 #[v, u] w fun e w' => e = .returned (.bool true) ∧ Ext w w' := by
  rw [cN_cI] at h h'
  have q := equal_Int v u (L.map fun (n : Nat) => (n : Int)) (L.map fun (n : Nat) => (n : Int)) w (by rw [List.length_map]; exact h) (by rw [List.length_map]; exact h')
  rw [decide_eq_true rfl] at q
  refine q.mono ?_
  rintro e w' ⟨rfl, d, rfl⟩
  exact ⟨rfl, (Ext.refl w).drewN d⟩
theorem equal_Bl (v u : Value) (L : List Bool) (w : World) (h : Seg w v 1 L.length (cB L)) (h' : Seg w u 1 L.length (cB L)) :
    Calls Tryz.prog 6 #[v, u] w fun e w' => e = .returned (.bool true) ∧ Ext w w' := by
  have q := equal_Bool v u L L w h h'
  rw [decide_eq_true rfl] at q
  refine q.mono ?_
  rintro e w' ⟨rfl, d, rfl⟩
  exact ⟨rfl, (Ext.refl w).drewN d⟩
theorem equal_Pl (v u : Value) (L : Prs) (w : World) (h : Seg w v 2 L.length (cP L)) (h' : Seg w u 2 L.length (cP L)) :
    Calls Tryz.prog 12 #[v, u] w fun e w' => e = .returned (.bool true) ∧ Ext w w' := by
  have q := equal_Pair v u L L w h h'
  rw [decide_eq_true rfl] at q
  refine q.mono ?_
  rintro e w' ⟨rfl, d, rfl⟩
  exact ⟨rfl, (Ext.refl w).drewN d⟩
def opP : GOp := ⟨1, ⟨#[97]⟩, ⟨#[]⟩, 5⟩
theorem play_lit : playE [] [[opP]] = 0 ∧ (playN [[opP]] [] [] 1).2.2.1 = [(⟨#[97]⟩, 5)] ∧ (playN [[opP]] [] [] 1).2.2.2 = [true] ∧ (playN [[opP]] [] [] 1).1 = [0] := by decide +kernel
/-- the small game -/
theorem play_one (w : World) (vd : Value) (h : SegDs w vd [[opP]]) :
    Calls Tryz.prog 5 #[.slice none 0 0, vd, .slice none 0 0] w fun e w' => ∃ a c b1 c1 b2 c2, e = .returned (.tuple #[.slice a 1 c, .slice b1 1 c1, .slice b2 1 c2, .int .i64 0]) ∧ Seg w' (.slice b1 1 c1) 1 1 [.bool true] ∧ Seg w' (.slice b2 1 c2) 1 1 [.int .i64 0] ∧ Ext w w' := by
  refine (play_all (.slice none 0 0) vd (.slice none 0 0) [] [[opP]] [] w (Seg.nil _ _) (by simp) (by simp) h (by
    intro d hd o ho
    simp at hd; subst hd; simp at ho; subst ho; exact ⟨by decide, by decide⟩) (Seg.nil _ _)).mono ?_
  rintro e w' ⟨v', vb, vo, L, Bs, Os, rfl, o1, o2, o3, h0, _, E⟩
  obtain ⟨r1, r2, r3, _, _⟩ := h0 play_lit.1
  rw [show ([[opP]] : List Ops).length = 1 from rfl] at r1 r2 r3
  rw [play_lit.2.1] at r1
  rw [play_lit.2.2.1] at r2
  rw [play_lit.2.2.2] at r3
  subst r1; subst r2; subst r3
  obtain ⟨a, c, rfl⟩ := own_form o1
  obtain ⟨b1, c1, rfl⟩ := own_form o2
  obtain ⟨b2, c2, rfl⟩ := own_form o3
  exact ⟨a, c, b1, c1, b2, c2, by rw [play_lit.1]; rfl, own_seg o2, own_seg o3, E⟩
set_option maxRecDepth 100000 in
set_option maxHeartbeats 16000000 in
theorem pplays_walk (v vd vp : Value) (l : Prs) (D : List Ops) (P : List Int) (w : World) (hv : Seg w v 2 l.length (cP l)) (hw : PrsW l) (hD : SegDs w vd D) (oD : ∀ d ∈ D, opsSm d) (hP : Seg w vp 1 P.length (cI P)) (hlen : l.length ≤ 400000) :
    Calls Tryz.prog 3 #[v, vd, vp] w fun e w' => e = .returned (.bool true) ∧ Ext w w' := by
  have sk : ∀ p ∈ l, p.1.size ≤ 9223372036854775807 := fun p hp => by have := (hw p hp).1; unfold maxLen at this; omega
  obtain ⟨ax, cx, rfl⟩ := seg_form hv
  obtain ⟨xd, cd, rfl, _⟩ := hD.form
  obtain ⟨xp, cp, rfl⟩ := seg_form hP
  have PL := hid (play_all _ _ _ l D P w hv sk (by omega) hD oD hP)
  have HV := hid hv
  have HDD := hid hD
  have HP := hid hP
  have HOD := hid oD
  have HPE := hid (show playE l D = if storeErr l ≠ 0 then storeErr l else deedsE D from rfl)
  clear hv hD hP oD
  go_enter Tryz.func3, Tryz.ntmps3
  go_wp2_with fail
  refine (PL.out).mono ?_
  clear PL
  rintro e w1 ⟨v1, v2, v3, L, Bs, Os, rfl, o1, o2, o3, h0, hn, E1⟩
  obtain ⟨f1, g1, rfl⟩ := own_form o1
  obtain ⟨f2, g2, rfl⟩ := own_form o2
  obtain ⟨f3, g3, rfl⟩ := own_form o3
  have H0 := hid h0
  have HN := hid hn
  generalize playE l D = pe at HPE H0 HN ⊢
  have EA := ((Ext.refl w1).alloc (.cells #[.int .i64 1, .string ⟨#[97]⟩, .string ⟨#[]⟩, .int .i64 5] 30)).alloc (.cells #[.slice (some ⟨w1.heap.size, 0, none⟩) 1 1] 33)
  have sgD : SegDs ((w1.alloc (.cells #[.int .i64 1, .string ⟨#[97]⟩, .string ⟨#[]⟩, .int .i64 5] 30)).alloc (.cells #[.slice (some ⟨w1.heap.size, 0, none⟩) 1 1] 33)) (.slice (some ⟨w1.heap.size + 1, 0, none⟩) 1 1) [[opP]] := by
    refine ⟨[.slice (some ⟨w1.heap.size, 0, none⟩) 1 1], rfl, seg_one (heap_2 w1 _ _), fun i u d a b => ?_⟩
    match i, a, b with
    | 0, a, b =>
      simp at a b
      subst a; subst b
      exact seg_blk (xs := cO [opP]) (heap_1 w1 _ _) rfl (Nat.le_refl _) (by simp [maxLen])
  have PO := hid (play_one _ _ sgD)
  have S1 := hid (own_seg o1)
  have S2 := hid (own_seg o2)
  have S3 := hid (own_seg o3)
  have E1h := hid E1
  have EAh := hid EA
  clear h0 hn o1 o2 o3 sgD EA E1
  go_wp2_with fail
  refine (PO.out).mono ?_
  clear PO
  rintro e w2 ⟨a, c, b1, c1, b2, c2, rfl, sb, si, E2⟩
  have E12 := hid (EAh.out.trans E2)
  have EP := (Ext.refl w2).alloc (.cells #[.bool true] 4)
  have EQ := hid (equal_Bl _ (.slice (some ⟨w2.heap.size, 0, none⟩) 1 1) [true] (w2.alloc (.cells #[.bool true] 4)) (sb.ext EP) (seg_one (heap_alloc_new w2 _)))
  have SI := hid (si.ext EP)
  have EPh := hid EP
  clear sb si E2 EAh EP
  go_wp2_with fail
  refine (EQ.out).mono ?_
  clear EQ
  rintro e w3 ⟨rfl, E3⟩
  have EP := (Ext.refl w3).alloc (.cells #[.int .i64 0] 3)
  have EQ := hid (equal_Nl _ (.slice (some ⟨w3.heap.size, 0, none⟩) 1 1) [0] (w3.alloc (.cells #[.int .i64 0] 3)) (SI.out.ext (E3.trans EP)) (seg_one (heap_alloc_new w3 _)))
  have E13 := hid (E12.out.trans (EPh.out.trans (E3.trans EP)))
  clear SI EPh E12 E3 EP
  go_wp2_with fail
  refine (EQ.out).mono ?_
  clear EQ
  rintro e w4 ⟨rfl, E4⟩
  have E14 := hid (E13.out.trans E4)
  have RS := hid (rstore_any _ l w4 (HV.out.ext (E1h.out.trans E14.out)) sk)
  clear E13 E4
  go_wp2_with fail
  refine (RS.out).mono ?_
  clear RS
  rintro e w5 ⟨rfl, E5⟩
  have E15 := hid (E14.out.trans E5)
  clear E14 E5
  by_cases hs : storeErr l = 0
  · have hpe : pe = deedsE D := by rw [HPE.out, if_neg (by simp [hs])]
    rw [hs]
    have SO_K := store_ok hs
    have RD := hid (rdeeds_any _ D w5 (HDD.out.ext (E1h.out.trans E15.out)) HOD.out)
    have HOKS := hid SO_K
    have HPE2 := hid hpe
    clear HPE hs hpe SO_K
    go_wp2_with fail
    refine (RD.out).mono ?_
    clear RD
    rintro e w6 ⟨rfl, E6⟩
    have E16 := hid (E15.out.trans E6)
    clear E15 E6
    by_cases hd : deedsE D = 0
    · obtain ⟨h60, hok⟩ := deeds_ok' hd
      have hpe : pe = 0 := by rw [HPE2.out, hd]
      rw [hd]
      subst hpe
      obtain ⟨r1, r2, r3, r4, r5⟩ := H0.out rfl
      have HR := hid (And.intro r1 (And.intro r2 r3))
      have HOK := hid hok
      have hBl := hid r4
      have hOl := hid r5
      clear HPE2 HN H0 hd hok r1 r2 r3 r4 r5
      have RO := hid (rof_any _ l w6 (HV.out.ext (E1h.out.trans E16.out)) hw (by omega))
      go_wp2_with fail
      refine (RO.out).mono ?_
      clear RO
      rintro e w7 ⟨bm, Dm, rfl, hbm, hm, hF, E7⟩
      clear hbm
      have E17 := hid (E16.out.trans E7)
      have RP := hid (rplay_any bm l.length Dm (ofF l l.length) _ _ l D P w7 hm hF (of_FV HOKS.out) HOKS.out (of_atF HOKS.out) (HDD.out.ext (E1h.out.trans E17.out)) HOK.out h60 (HP.out.ext (E1h.out.trans E17.out)) (by omega))
      clear hm hF E16 E7
      go_wp2_with fail
      refine (RP.out).mono ?_
      clear RP
      rintro e w8 ⟨b', n', D', f', vb, vo, rfl, hm, hF, hat, hnl, ob, oo, E8⟩
      have E18 := hid (E17.out.trans E8)
      obtain ⟨ab, kb, rfl⟩ := own_form ob
      obtain ⟨ao, ko, rfl⟩ := own_form oo
      have SB := hid (own_seg ob)
      have SO := hid (own_seg oo)
      have RL := hid (rlist_any b' n' D' f' w8 hm hF (by omega))
      have HAT := hid hat
      have HXO := hid (playN_ok HOK.out HOKS.out P D.length (Nat.le_refl _))
      clear hm hF hat ob oo E17 E8
      go_wp2_with fail
      refine (RL.out).mono ?_
      clear RL
      rintro e w9 ⟨v9, ll, rfl, q1, q2, q3, _, o9, E9⟩
      obtain ⟨a9, k9, rfl⟩ := own_form o9
      have hll : L = ll := by
        rw [HR.out.1]
        refine prs_ext HXO.out.srt q1 HXO.out.nz q2 (fun x => ?_)
        rw [q3, ← HAT.out]; rfl
      have HLL := hid hll
      have EQ := hid (by
        have q := equal_Pl (.slice f1 L.length g1) (.slice a9 ll.length k9) L w9 (S1.out.ext (E18.out.trans E9)) (by rw [hll]; exact own_seg o9)
        exact q)
      have E19 := hid (E18.out.trans E9)
      have SB9 := hid (SB.out.ext E9)
      have SO9 := hid (SO.out.ext E9)
      clear q1 q2 q3 o9 hll E18 E9 SB SO S1
      go_wp2_with fail
      refine (EQ.out).mono ?_
      clear EQ
      rintro e wa ⟨rfl, Ea⟩
      have EQ := hid (by
        have q := equal_Bl (.slice f2 Bs.length g2) (.slice ab D.length kb) Bs wa (S2.out.ext (E19.out.trans Ea)) (by
          have q := SB9.out.ext Ea
          rw [← HR.out.2.1] at q
          rw [hBl.out]; exact q)
        exact q)
      have E1a := hid (E19.out.trans Ea)
      have SOa := hid (SO9.out.ext Ea)
      clear E19 Ea SB9 SO9 S2
      go_wp2_with fail
      refine (EQ.out).mono ?_
      clear EQ
      rintro e wb ⟨rfl, Eb⟩
      have EQ := hid (by
        have q := equal_Nl (.slice f3 Os.length g3) (.slice ao D.length ko) Os wb (S3.out.ext (E1a.out.trans Eb)) (by
          have q := SOa.out.ext Eb
          rw [← HR.out.2.2] at q
          rw [hOl.out]; exact q)
        exact q)
      have E1b := hid (E1a.out.trans Eb)
      clear E1a Eb SOa S3
      go_wp2_with fail
      refine (EQ.out).mono ?_
      clear EQ
      rintro e wc ⟨rfl, Ec⟩
      go_wp2
      go_ret
      exact ⟨rfl, E1h.out.trans (E1b.out.trans Ec)⟩
    · have hpe := HPE2.out
      subst hpe
      obtain ⟨r1, r2, r3⟩ := HN.out hd
      subst r1; subst r2; subst r3
      have q : (deedsE D != 0) = true := by simp [hd]
      clear HN H0 hd S1 S2 S3 HPE2
      generalize deedsE D = er at q ⊢
      go_wp2
      go_ret
      exact ⟨rfl, E1h.out.trans E16.out⟩
  · have hpe : pe = storeErr l := by rw [HPE.out, if_pos hs]
    subst hpe
    obtain ⟨r1, r2, r3⟩ := HN.out hs
    subst r1; subst r2; subst r3
    have q : (storeErr l != 0) = true := by simp [hs]
    have q2 : (storeErr l == 0) = false := by simp [hs]
    clear HPE HN H0 hs S1 S2 S3
    generalize storeErr l = er at q q2 ⊢
    go_wp2
    go_ret
    exact ⟨rfl, E1h.out.trans E15.out⟩
end Go.Proofs.YtghemmmkbpfdhaaGreatDoor
