/- Contracts and lemmas for the proof of CopiesSame; each theorem states its own conditions. -/
import Derived.Test.YtimchedebcoohaaGreatQCopiesSamebu
import Derived.Test.YtimchedebcoohaaGreatQCopiesSamear
import Derived.Test.YtimchedebcoohaaGreatQCopiesSamebo
import Derived.Test.YtimchedebcoohaaGreatQCopiesSamebj
import Derived.Test.YtimchedebcoohaaGreatQCopiesSamebk
import Derived.Test.YtimchedebcoohaaGreatQCopiesSamebl
import Derived.Test.YtimchedebcoohaaGreatQCopiesSamebt
set_option linter.unusedVariables false
set_option linter.unusedSimpArgs false
/- Contracts and lemmas for the proofs of this seat; each theorem states its own conditions. -/
namespace Go.Proofs.YtimchedebcoohaaGreat
open Go.RowKit Go.Maps Go.Sort
/-! the document's Names -/
def GathS (R : List ByteArray) (left : Lit → Bool) (l : List ByteArray) : Prop :=
  l.Nodup ∧ (∀ k ∈ l, okS k) ∧ ∀ k, okS k → (k ∈ l ↔ k ∈ R ∧ left (kS k) = false)
theorem setF_some {R : List ByteArray} {k : ByteArray} : setF R k = some true ↔ k ∈ R := by
  unfold setF
  by_cases h : memB R k = true
  · simp [h, memB_iff.1 h]
  · have : ¬ k ∈ R := fun h' => h (memB_iff.2 h')
    simp [h, this]
theorem setF_val {R : List ByteArray} {k : ByteArray} {c : Bool} (h : setF R k = some c) : c = true ∧ k ∈ R := by
  unfold setF at h
  split at h
  · rename_i h'; injection h with h; exact ⟨h.symm, memB_iff.1 h'⟩
  · cases h
theorem gathS_start {D : DU} {R : List ByteArray} (hF : MapF kS okS dB D (setF R)) : GathS R (has D) [] := by
  refine ⟨List.nodup_nil, by simp, fun k hk => ?_⟩
  rw [hF.has hk]
  unfold setF
  by_cases h : memB R k = true
  · simp [h]
  · have : ¬ k ∈ R := fun h' => h (memB_iff.2 h')
    simp [h, this]
theorem gathS_keep {R : List ByteArray} {left : Lit → Bool} {l : List ByteArray} (h : GathS R left l) {x : ByteArray} (hx : okS x) (hl : left (kS x) = true) (hf : x ∈ R) : GathS R (fun z => left z && !z.sameKey (kS x)) (l ++ [x]) := by
  obtain ⟨h1, h2, h3⟩ := h
  have hn : x ∉ l := fun hd => by have := ((h3 x hx).1 hd).2; rw [hl] at this; cases this
  refine ⟨?_, fun p hp => ?_, fun k hk => ?_⟩
  · rw [List.nodup_append]
    refine ⟨h1, by simp, fun a ha b hb => ?_⟩
    simp at hb; subst hb
    rintro rfl
    exact hn ha
  · rcases List.mem_append.1 hp with hp | hp
    · exact h2 p hp
    · simp at hp; subst hp; exact hx
  · by_cases e : k = x
    · subst e
      simp [sameKey_self, hf]
    · simp only [List.mem_append, h3 k hk, sameKey_kS e]
      simp [e]
theorem sort_sortU {l R : List ByteArray} (hn : l.Nodup) (hm : ∀ k, k ∈ l ↔ k ∈ R) : ((l.map fun k => k.data.toList).mergeSort fun x y => decide (x ≤ y)).map ofL = sortU R := by
  have hp := List.mergeSort_perm (l.map fun k => k.data.toList) (fun x y => decide (x ≤ y))
  have hle := sort_le (l.map fun k => k.data.toList)
  have hnd : ((l.map fun k => k.data.toList).mergeSort fun x y => decide (x ≤ y)).Nodup := by
    rw [hp.nodup_iff]
    unfold List.Nodup
    rw [List.pairwise_map]
    refine hn.imp fun {a b} h e => h ?_
    rw [← ofL_data a, ← ofL_data b, e]
  have hmem : ∀ x, x ∈ ((l.map fun k => k.data.toList).mergeSort fun x y => decide (x ≤ y)) ↔ x ∈ l.map fun k => k.data.toList := fun x => hp.mem_iff
  generalize ((l.map fun k => k.data.toList).mergeSort fun x y => decide (x ≤ y)) = M at hp hle hnd hmem
  refine srt_uniq ?_ (sortU_srt R) fun k => ?_
  · rw [List.pairwise_map]
    have := hle.and hnd
    refine this.imp fun {a b} h => ?_
    have hlt : a < b := by
      rcases lt_tri a b with q | q | q
      · exact q
      · exact absurd q h.2
      · exact absurd q (le_not.1 h.1)
    have := (bl_lt a b).2 hlt
    simpa [blt, ofL, toList_data] using this
  · rw [sortU_mem, ← hm, List.mem_map]
    constructor
    · rintro ⟨a, ha, rfl⟩
      obtain ⟨j, hj, rfl⟩ := List.mem_map.1 ((hmem a).1 ha)
      rw [ofL_data]; exact hj
    · intro hk
      exact ⟨k.data.toList, (hmem _).2 (List.mem_map.2 ⟨k, hk, rfl⟩), ofL_data k⟩
section
variable {P : Program} (w : World) {ops : Array Oper} {rest : List Oper} {o : Oper} {a : Act} {Q : Exit → Act → World → Prop}
/-- the step of a loop over a set of texts -/
theorem wpList_next_set (hg : o.guard = none) (it : Operand) (hop : o.op = Op.next it false) (k e : TypeId) (K : Keyed P k) (hk : P.underlying k = some .string) (he : P.underlying e = some .bool)
    (b r n : Nat) (D : DU) (R : List ByteArray) (hF : MapF kS okS dB D (setF R)) (left : Lit → Bool) (cnt : Nat) (hit : a.eval it = .pointer (some ⟨r, 0, none⟩)) (h : w.ranges P k (plainElem P e) b r n D left cnt)
    (hDone : (∀ kl, left kl = false) → wpList P ops Q rest (a.put o.dst (.tuple #[.bool false])) w)
    (hMore : ∀ (x : ByteArray) (w' : World) (cnt' : Nat), okS x → left (kS x) = true → x ∈ R → w'.ranges P k (plainElem P e) b r n D (fun z => left z && !z.sameKey (kS x)) cnt' → cnt' < cnt →
      w.grownBy w' (some r) → w'.heap.size = w.heap.size → (Instr.entry (.pointer (some ⟨r, 0, none⟩))).run P w' = .ok (.tuple #[.string x, .bool true]) w' → wpList P ops Q rest (a.put o.dst (.tuple #[.bool true, .string x, .bool true])) w') :
    wpList P ops Q (o :: rest) a w :=
  wpList_next_sb w hg it hop k e K hk he b r n D (setF R) hF left cnt hit h hDone fun x c w' cnt' h1 h2 h3 => by
    obtain ⟨rfl, h4⟩ := setF_val h3
    exact hMore x w' cnt' h1 h2 h4
end
def NRel (w : World) (b n : Nat) (D : DU) (R : List ByteArray) (v : Value) (wr : World) : Prop :=
  ∃ (left : Lit → Bool) (cnt : Nat) (l : List ByteArray), wr.ranges Tryz.prog 9 (plainElem Tryz.prog 4) b w.heap.size n D left cnt ∧ GathS R left l ∧ l.length + cnt ≤ n ∧
    wr.ownsRow (w.heap.size + 1) 9 1 v l.length (cS l) ∧ Ext w wr
theorem kv1S (x : ByteArray) : ∀ u ∈ [Value.string x], u.oneCell' = true := one_str x
end Go.Proofs.YtimchedebcoohaaGreat

/- Contracts and lemmas for the proofs of this seat; each theorem states its own conditions. -/
namespace Go.Proofs.YtimchedebcoohaaGreat
open Go.RowKit Go.Maps
/-! the document's Clash -/
theorem plainElem_bool_inv2 {P : Program} {e : TypeId} (he : P.underlying e = some .bool) {v : Value} {z : DU × List MemPlace} (h : plainElem P e v = some z) : ∃ a, v = .bool a ∧ z = (dB a, []) := plainElem_bool_inv he h
theorem wrs_okS {d : Ops} (h : DeedOk d) : (∀ k ∈ rds d, okS k) ∧ ∀ k ∈ wrs d, okS k := by
  refine ⟨fun k hk => ?_, fun k hk => ?_⟩
  · unfold rds at hk
    obtain ⟨o, ho, hk⟩ := List.mem_flatMap.1 hk
    have oo := h.ops o ho
    rcases kinds oo with e | e | e | e | e
    all_goals simp [rdO, e] at hk
    · subst hk; exact ksz oo.key
    · subst hk; exact ksz (oo.from_ (.inl e)).1
    · subst hk; exact ksz oo.key
    · rcases hk with rfl | rfl
      · exact ksz oo.key
      · exact ksz (oo.from_ (.inr e)).1
  · unfold wrs at hk
    obtain ⟨o, ho, hk⟩ := List.mem_flatMap.1 hk
    have oo := h.ops o ho
    rcases kinds oo with e | e | e | e | e
    all_goals simp [wrO, e] at hk
    · subst hk; exact ksz oo.key
    · subst hk; exact ksz oo.key
    · subst hk; exact ksz oo.key
    · rcases hk with rfl | rfl
      · exact ksz oo.key
      · exact ksz (oo.from_ (.inr e)).1
/-- a loop over a set of texts: what stands behind it, and what has been seen -/
def CRel (w : World) (b r n : Nat) (D : DU) (P : ByteArray → Prop) (wr : World) : Prop :=
  ∃ (left : Lit → Bool) (cnt : Nat), wr.ranges Tryz.prog 9 (plainElem Tryz.prog 4) b r n D left cnt ∧ (∀ k, okS k → left (kS k) = false → P k) ∧ Ext w wr
theorem CRel.step {left : Lit → Bool} {P : ByteArray → Prop} {x : ByteArray} (hP : ∀ k, okS k → left (kS k) = false → P k) (hx : P x) : ∀ k, okS k → (left (kS k) && !(kS k).sameKey (kS x)) = false → P k := by
  intro k hk h
  by_cases e : k = x
  · subst e; exact hx
  · rw [sameKey_kS e] at h
    exact hP k hk (by simpa using h)
theorem clash_t1 {a b : Ops} {k : ByteArray} (h : k ∈ wrs a) (m : memB (rds b) k = true) : clashB a b = true := by
  have : meets (wrs a) (rds b) = true := meets_iff.2 ⟨k, h, memB_iff.1 m⟩
  simp [clashB, this]
theorem clash_t2 {a b : Ops} {k : ByteArray} (h : k ∈ wrs a) (m : memB (wrs b) k = true) : clashB a b = true := by
  have : meets (wrs a) (wrs b) = true := meets_iff.2 ⟨k, h, memB_iff.1 m⟩
  simp [clashB, this]
theorem clash_t3 {a b : Ops} {k : ByteArray} (h : k ∈ rds a) (m : memB (wrs b) k = true) : clashB a b = true := by
  have : meets (rds a) (wrs b) = true := meets_iff.2 ⟨k, h, memB_iff.1 m⟩
  simp [clashB, this]
theorem clash_f {a b : Ops} (h1 : ∀ k ∈ wrs a, memB (rds b) k = false ∧ memB (wrs b) k = false) (h2 : ∀ k ∈ rds a, memB (wrs b) k = false) : clashB a b = false := by
  have q1 : meets (wrs a) (wrs b) = false := by
    rw [Bool.eq_false_iff]; intro h
    obtain ⟨k, hk, hb⟩ := meets_iff.1 h
    exact memB_not.1 (h1 k hk).2 hb
  have q2 : meets (wrs a) (rds b) = false := by
    rw [Bool.eq_false_iff]; intro h
    obtain ⟨k, hk, hb⟩ := meets_iff.1 h
    exact memB_not.1 (h1 k hk).1 hb
  have q3 : meets (rds a) (wrs b) = false := by
    rw [Bool.eq_false_iff]; intro h
    obtain ⟨k, hk, hb⟩ := meets_iff.1 h
    exact memB_not.1 (h2 k hk) hb
  simp [clashB, q1, q2, q3]
end Go.Proofs.YtimchedebcoohaaGreat

/- Contracts and lemmas for the proofs of this seat; each theorem states its own conditions. -/
namespace Go.Proofs.YtimchedebcoohaaGreat
open Go.RowKit Go.Maps
/-! deed.Keys, deed.Clash at whatever is handed in -/
set_option maxRecDepth 10000 in
theorem keys_bad (vd : Value) (d : Ops) (w : World) (hvd : Seg w vd 4 d.length (cO d)) (hd : opsSm d) (hne : deedE d ≠ 0) :
    Calls Tryz.prog 24 #[.agg #[vd]] w fun e w' => e = .returned (.tuple #[.slice none 0 0, .slice none 0 0, .int .i64 (deedE d)]) ∧ Ext w w' := by
  obtain ⟨x, c, rfl⟩ := seg_form hvd
  have E0 := (Ext.refl w).alloc (.cells #[.slice x d.length c] 29)
  have b0 := heap_alloc_new w (.cells #[.slice x d.length c] 29)
  have c0 := cell_of_one b0
  have C := hid (dcheck_any (.slice x d.length c) d (w.alloc (.cells #[.slice x d.length c] 29)) (hvd.ext E0) hd)
  have q : (deedE d != 0) = true := by simp [hne]
  clear hne hvd
  go_enter Tryz.func24, Tryz.ntmps24
  go_wp2_with fail
  refine (C.out).mono ?_
  rintro e w1 ⟨rfl, E1⟩
  go_wp2
  go_ret3
  exact ⟨rfl, E0.trans E1⟩
theorem keys_all (vd : Value) (d : Ops) (w : World) (hvd : Seg w vd 4 d.length (cO d)) (hd : opsSm d) :
    Calls Tryz.prog 24 #[.agg #[vd]] w fun e w' => ∃ v1 v2 R U, e = .returned (.tuple #[v1, v2, .int .i64 (deedE d)]) ∧ w'.ownsRow w.heap.size 9 1 v1 R.length (cS R) ∧ w'.ownsRow w.heap.size 9 1 v2 U.length (cS U) ∧
      (deedE d = 0 → R = sortU (rds d) ∧ U = sortU (wrs d)) ∧ (deedE d ≠ 0 → R = [] ∧ U = []) ∧ Ext w w' := by
  by_cases h : deedE d = 0
  · refine (keys_ok vd d w hvd (deed_ok h) (fun o ho => (hd o ho).2)).mono ?_
    rintro e w' ⟨v1, v2, rfl, h1, h2, E⟩
    exact ⟨v1, v2, _, _, by rw [h], h1, h2, fun _ => ⟨rfl, rfl⟩, fun q => absurd h q, E⟩
  · refine (keys_bad vd d w hvd hd h).mono ?_
    rintro e w' ⟨rfl, E⟩
    exact ⟨_, _, [], [], rfl, World.ownsRow_nil _ _ _ _, World.ownsRow_nil _ _ _ _, fun q => absurd q h, fun _ => ⟨rfl, rfl⟩, E⟩
def twoE (a b : Ops) : Int := if deedE a = 0 then deedE b else deedE a
def clashE (a b : Ops) : Bool := if twoE a b = 0 then clashB a b else false
set_option maxRecDepth 10000 in
theorem clash_bad (va vb : Value) (a b : Ops) (w : World) (ha : Seg w va 4 a.length (cO a)) (hb : Seg w vb 4 b.length (cO b)) (oa : opsSm a) (ob : opsSm b) (hne : twoE a b ≠ 0) :
    Calls Tryz.prog 80 #[.agg #[va], .agg #[vb]] w fun e w' => e = .returned (.tuple #[.bool false, .int .i64 (twoE a b)]) ∧ Ext w w' := by
  obtain ⟨x1, c1, rfl⟩ := seg_form ha
  obtain ⟨x2, c2, rfl⟩ := seg_form hb
  have b1 := heap_1 w (.cells #[.slice x1 a.length c1] 29) (.cells #[.slice x2 b.length c2] 29)
  have b2 := heap_2 w (.cells #[.slice x1 a.length c1] 29) (.cells #[.slice x2 b.length c2] 29)
  have E := ((Ext.refl w).alloc (.cells #[.slice x1 a.length c1] 29)).alloc (.cells #[.slice x2 b.length c2] 29)
  have y1 := cell_of_one b1
  have y2 := cell_of_one b2
  have K1 := hid (keys_all (.slice x1 a.length c1) a _ (ha.ext E) oa)
  have hb := hb.ext E
  clear b1 b2 ha
  by_cases h : deedE a = 0
  · have ht := hid (show twoE a b = deedE b by unfold twoE; rw [if_pos h])
    have hn : deedE b ≠ 0 := by rw [← ht.out]; exact hne
    have q1 : (deedE a != 0) = false := by simp [h]
    have q2 : (deedE b != 0) = true := by simp [hn]
    clear h hne hn
    go_enter Tryz.func80, Tryz.ntmps80
    go_wp2_with fail
    refine (K1.out).mono ?_
    clear K1
    rintro e w1 ⟨r, u, R, U, rfl, _, _, _, _, E1⟩
    have z2 := E1.cell y2
    replace hb := hb.ext E1
    replace E := E.trans E1
    have K2 := hid (keys_all (.slice x2 b.length c2) b _ hb ob)
    clear y1 y2 E1 hb
    go_wp2_with fail
    refine (K2.out).mono ?_
    clear K2
    rintro e w2 ⟨s, t, R2, U2, rfl, _, _, _, _, E1⟩
    go_wp2
    go_ret2
    exact ⟨rT2 rfl (vI ht.out.symm), E.trans E1⟩
  · have ht := hid (show twoE a b = deedE a by unfold twoE; rw [if_neg h])
    have q1 : (deedE a != 0) = true := by simp [h]
    clear h hne
    go_enter Tryz.func80, Tryz.ntmps80
    go_wp2_with fail
    refine (K1.out).mono ?_
    clear K1
    rintro e w1 ⟨r, u, R, U, rfl, _, _, _, _, E1⟩
    go_wp2
    go_ret2
    exact ⟨rT2 rfl (vI ht.out.symm), E.trans E1⟩
theorem clash_all (va vb : Value) (a b : Ops) (w : World) (ha : Seg w va 4 a.length (cO a)) (hb : Seg w vb 4 b.length (cO b)) (oa : opsSm a) (ob : opsSm b) :
    Calls Tryz.prog 80 #[.agg #[va], .agg #[vb]] w fun e w' => e = .returned (.tuple #[.bool (clashE a b), .int .i64 (twoE a b)]) ∧ Ext w w' := by
  unfold clashE
  by_cases h : twoE a b = 0
  · rw [if_pos h, h]
    have ha0 : deedE a = 0 := by
      unfold twoE at h
      by_cases q : deedE a = 0
      · exact q
      · rw [if_neg q] at h; exact absurd h q
    have hb0 : deedE b = 0 := by unfold twoE at h; rw [if_pos ha0] at h; exact h
    exact clash_ok va vb a b w ha hb (deed_ok ha0) (deed_ok hb0) (fun o ho => (oa o ho).2) (fun o ho => (ob o ho).2)
  · rw [if_neg h]
    exact clash_bad va vb a b w ha hb oa ob h
end Go.Proofs.YtimchedebcoohaaGreat

/- Contracts and lemmas for the proofs of this seat; each theorem states its own conditions. -/
namespace Go.Proofs.YtimchedebcoohaaGreat
open Go.RowKit
/-! parts at whatever is handed in -/
def newE (C : List ByteArray) (O : List Int) (S : Prs) : Int := if mapErr C O ≠ 0 then mapErr C O else storeErr S
set_option maxRecDepth 100000 in
set_option maxHeartbeats 1000000 in
theorem pnew_bad (vm vl : Value) (C : List ByteArray) (O : List Int) (S : Prs) (w : World) (hm : IsMap w vm C O) (hk : ∀ k ∈ C, k.size ≤ 9223372036854775807) (hv : Seg w vl 2 S.length (cP S)) (sk : ∀ p ∈ S, p.1.size ≤ 9223372036854775807) (he : newE C O S ≠ 0) :
    Calls Tryz.prog 84 #[vm, vl] w fun e w' => e = .returned (.tuple #[.pointer none, .int .i64 (newE C O S)]) ∧ Ext w w' := by
  obtain ⟨a1, k1, a2, k2, rfl, m1, m2⟩ := hm.unpack
  have b1 := heap_alloc_new w (.cells #[.slice a1 C.length k1, .slice a2 O.length k2] 26)
  have E0 := (Ext.refl w).alloc (.cells #[.slice a1 C.length k1, .slice a2 O.length k2] 26)
  obtain ⟨w0, hw0⟩ : ∃ w0, w.alloc (.cells #[.slice a1 C.length k1, .slice a2 O.length k2] 26) = w0 := ⟨_, rfl⟩
  rw [hw0] at b1 E0
  have x1 := blk2 b1
  have MC := hid (mcheck_any _ C O w0 (hm.ext E0) hk)
  have SC := hid (fun w' (q : Ext w0 w') => scheck_any vl S w' (hv.ext (E0.trans q)) sk)
  obtain ⟨al, cl, rfl⟩ := seg_form hv
  clear m1 m2 hm hv b1
  by_cases g1 : mapErr C O = 0
  · have e1 : newE C O S = storeErr S := by unfold newE; rw [if_neg (by simp [g1])]
    rw [e1] at he ⊢
    rw [g1] at MC
    have q : (storeErr S != 0) = true := by simp [he]
    clear e1 he g1
    generalize storeErr S = er at SC q ⊢
    go_enter Tryz.func84, Tryz.ntmps84
    go_wp2_with fail
    refine (MC.out).mono ?_
    clear MC
    rintro e w1 ⟨rfl, E1⟩
    have SC1 := hid (SC.out w1 E1)
    clear SC hw0
    go_wp2_with fail
    refine (SC1.out).mono ?_
    clear SC1
    rintro e w2 ⟨rfl, E2⟩
    go_wp2
    go_ret2
    exact ⟨rfl, E0.trans (E1.trans E2)⟩
  · have e1 : newE C O S = mapErr C O := by unfold newE; rw [if_pos g1]
    rw [e1]
    have q : (mapErr C O != 0) = true := by simp [g1]
    clear e1 he g1 SC
    generalize mapErr C O = er at MC q ⊢
    go_enter Tryz.func84, Tryz.ntmps84
    go_wp2_with fail
    refine (MC.out).mono ?_
    clear MC
    rintro e w1 ⟨rfl, E1⟩
    clear hw0
    go_wp2
    go_ret2
    exact ⟨rfl, E0.trans E1⟩
set_option maxRecDepth 100000 in
theorem ppart_bad (w : World) (bt : Nat) (i : Int) (hi : i < 0 ∨ 4 ≤ i) :
    Calls Tryz.prog 94 #[.pointer (some ⟨bt, 0, none⟩), .int .i64 i] w fun e w' => e = .returned (.tuple #[.slice none 0 0, .int .i64 1]) ∧ Ext w w' := by
  by_cases h : i < 0
  · clear hi
    go_enter Tryz.func94, Tryz.ntmps94
    go_wp2
    go_ret2
    exact ⟨rfl, Ext.refl _⟩
  · have h4 : i ≥ 4 := by omega
    clear hi
    go_enter Tryz.func94, Tryz.ntmps94
    go_wp2
    go_ret2
    exact ⟨rfl, Ext.refl _⟩
set_option maxRecDepth 100000 in
set_option maxHeartbeats 1000000 in
theorem pdo_bad (w : World) (bt : Nat) (vd : Value) (d : Ops) (hvd : Seg w vd 4 d.length (cO d)) (hd : opsSm d) (he : deedE d ≠ 0) :
    Calls Tryz.prog 92 #[.pointer (some ⟨bt, 0, none⟩), .agg #[vd]] w fun e w' => e = .returned (.tuple #[.bool false, .int .i64 (deedE d)]) ∧ Ext w w' := by
  obtain ⟨ad, cd, rfl⟩ := seg_form hvd
  have b0 := heap_alloc_new w (.cells #[.slice ad d.length cd] 29)
  have E0 := (Ext.refl w).alloc (.cells #[.slice ad d.length cd] 29)
  obtain ⟨w0, hw0⟩ : ∃ w0, w.alloc (.cells #[.slice ad d.length cd] 29) = w0 := ⟨_, rfl⟩
  rw [hw0] at b0 E0
  have z0 := cell_of_one b0
  have KA := hid (keys_all _ d w0 (hvd.ext E0) hd)
  have q : (deedE d != 0) = true := by simp [he]
  clear he b0 hvd
  generalize deedE d = er at KA q ⊢
  go_enter Tryz.func92, Tryz.ntmps92
  go_wp2_with fail
  refine (KA.out).mono ?_
  clear KA
  rintro e w1 ⟨v1, v2, R, U, rfl, o1, o2, h1, h2, E1⟩
  obtain ⟨a1, k1, rfl⟩ := own_form o1
  obtain ⟨a2, k2, rfl⟩ := own_form o2
  have EE := hid (E0.trans E1)
  clear h1 h2 o1 o2 hw0 E1 E0
  go_wp2
  go_ret2
  exact ⟨rfl, EE.out⟩
set_option maxRecDepth 100000 in
set_option maxHeartbeats 1000000 in
theorem pturn_bad (w : World) (bt : Nat) (vm : Value) (C : List ByteArray) (O : List Int) (hm : IsMap w vm C O) (hk : ∀ k ∈ C, k.size ≤ 9223372036854775807) (he : mapErr C O ≠ 0) :
    Calls Tryz.prog 91 #[.pointer (some ⟨bt, 0, none⟩), vm] w fun e w' => e = .returned (.tuple #[.int .i64 0, .int .i64 (mapErr C O)]) ∧ Ext w w' := by
  obtain ⟨a1, k1, a2, k2, rfl, m1, m2⟩ := hm.unpack
  have b1 := heap_alloc_new w (.cells #[.slice a1 C.length k1, .slice a2 O.length k2] 26)
  have E0 := (Ext.refl w).alloc (.cells #[.slice a1 C.length k1, .slice a2 O.length k2] 26)
  obtain ⟨w0, hw0⟩ : ∃ w0, w.alloc (.cells #[.slice a1 C.length k1, .slice a2 O.length k2] 26) = w0 := ⟨_, rfl⟩
  rw [hw0] at b1 E0
  have x1 := blk2 b1
  have MC := hid (mcheck_any _ C O w0 (hm.ext E0) hk)
  have q : (mapErr C O != 0) = true := by simp [he]
  clear m1 m2 hm b1 he
  generalize mapErr C O = er at MC q ⊢
  go_enter Tryz.func91, Tryz.ntmps91
  go_wp2_with fail
  refine (MC.out).mono ?_
  clear MC
  rintro e w1 ⟨rfl, E1⟩
  clear hw0
  go_wp2
  go_ret2
  exact ⟨rfl, E0.trans E1⟩
set_option maxRecDepth 100000 in
set_option maxHeartbeats 1000000 in
theorem pmap_ok {w : World} {bt : Nat} {C : List ByteArray} {O : List Int} {P : Nat → Prs} {vc vo : Value} {pv : Nat → Value} (h : PartsSt w bt C O P vc vo pv) (hm : MapOk C O) :
    Calls Tryz.prog 95 #[.pointer (some ⟨bt, 0, none⟩)] w fun e w' => ∃ v', e = .returned v' ∧ OwnMap w' w.heap.size v' C O ∧ Ext w w' := by
  have E0 := (Ext.refl w).alloc (.cells #[.slice none 0 0, .slice none 0 0] 26)
  have hb := heap_alloc_new w (.cells #[.slice none 0 0, .slice none 0 0] 26)
  obtain ⟨w0, hw0⟩ : ∃ w0, w.alloc (.cells #[.slice none 0 0, .slice none 0 0] 26) = w0 := ⟨_, rfl⟩
  obtain ⟨rb, hrb⟩ : ∃ rb, w.heap.size = rb := ⟨_, rfl⟩
  have hs0 : w0.heap.size = rb + 1 := by rw [← hw0, ← hrb]; simp
  rw [hw0] at E0 hb
  rw [hrb] at hb
  replace h := h.ext E0
  have x := h.cell0
  obtain ⟨a1, k1, e1⟩ := own_form h.cuts
  obtain ⟨a2, k2, e2⟩ := own_form h.owners
  have hI := h.is
  rw [e1, e2] at hI x
  have few := hm.few
  have len := hm.len
  have CP := hid (copied_any _ C O w0 hI (by omega) (by omega))
  have HS0 := hid hs0
  have HB := hid hb
  have hrl : w.heap.size ≤ rb := by omega
  clear h hI e1 e2 len few hs0 hb
  go_enter Tryz.func95, Tryz.ntmps95
  go_wp2_with fail
  refine (CP.out).mono ?_
  clear CP hw0 hrb
  rintro e w1 ⟨v', rfl, hmy, E1⟩
  have hbR := E1.heap HB.out
  obtain ⟨c', o', rfl, q1, q2⟩ := hmy
  obtain ⟨a3, k3, rfl⟩ := own_form q1
  obtain ⟨a4, k4, rfl⟩ := own_form q2
  have hb2 := blk2 hbR
  have rB := blk2 (blk2_set2 (u := .slice a3 C.length k3) (v := .slice a4 O.length k4) hbR)
  have EE := hid (((E0.trans E1).setCell (p := ⟨rb, 0, none⟩) hrl (.slice a3 C.length k3)).setCell (p := ⟨rb, 1, none⟩) hrl (.slice a4 O.length k4))
  have HM := hid (show OwnMap ((w1.setCell ⟨rb, 0, none⟩ (.slice a3 C.length k3)).setCell ⟨rb, 1, none⟩ (.slice a4 O.length k4)) w.heap.size (.agg #[.slice a3 C.length k3, .slice a4 O.length k4]) C O from
    ⟨_, _, rfl, own_base (own_set2 q1 (by show rb < _; rw [HS0.out]; omega) (by show rb < _; rw [HS0.out]; omega)) E0.size', own_base (own_set2 q2 (by show rb < _; rw [HS0.out]; omega) (by show rb < _; rw [HS0.out]; omega)) E0.size'⟩)
  clear q1 q2 E1 hbR
  go_wp2
  exact bodyPost_ret (v := .agg #[.slice a3 C.length k3, .slice a4 O.length k4]) (by simp [results, Tryz.results95, go_sem, rB.1, rB.2.1]) rfl ⟨_, rfl, HM.out, EE.out⟩
end Go.Proofs.YtimchedebcoohaaGreat
