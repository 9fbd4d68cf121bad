/- Contracts and lemmas for the proof of PartsPlay; each theorem states its own conditions. -/
import Derived.Test.YtimchedebcoohaaGreatDoorQPartsPlaybq
import Derived.Test.YtimchedebcoohaaGreatDoorQPartsPlayao
import Derived.Test.YtimchedebcoohaaGreatDoorQPartsPlaybk
import Derived.Test.YtimchedebcoohaaGreatDoorQPartsPlayaf
import Derived.Test.YtimchedebcoohaaGreatDoorQPartsPlaybh
set_option linter.unusedVariables false
set_option linter.unusedSimpArgs false
/- Contracts and lemmas for the proofs of this seat; each theorem states its own conditions. -/
namespace Go.Proofs.YtimchedebcoohaaGreatDoor
open Go.RowKit Go.Maps Go.Sort
/-! the document's Names -/
def GathS (R : List ByteArray) (left : Lit → Bool) (l : List ByteArray) : Prop :=
  l.Nodup ∧ (∀ k ∈ l, okS k) ∧ ∀ k, okS k → (k ∈ l ↔ k ∈ R ∧ left (kS k) = false)
theorem setF_some {R : List ByteArray} {k : ByteArray} : setF R k = some true ↔ k ∈ R := by
  unfold setF
  by_cases h : memB R k = true
  · simp [h, memB_iff.1 h]
  · have : ¬ k ∈ R := fun h' => h (memB_iff.2 h')
    simp [h, this]
theorem setF_val {R : List ByteArray} {k : ByteArray} {c : Bool} (h : setF R k = some c) : c = true ∧ k ∈ R := by
  unfold setF at h
  split at h
  · rename_i h'; injection h with h; exact ⟨h.symm, memB_iff.1 h'⟩
  · cases h
theorem gathS_start {D : DU} {R : List ByteArray} (hF : MapF kS okS dB D (setF R)) : GathS R (has D) [] := by
  refine ⟨List.nodup_nil, by simp, fun k hk => ?_⟩
  rw [hF.has hk]
  unfold setF
  by_cases h : memB R k = true
  · simp [h]
  · have : ¬ k ∈ R := fun h' => h (memB_iff.2 h')
    simp [h, this]
theorem gathS_keep {R : List ByteArray} {left : Lit → Bool} {l : List ByteArray} (h : GathS R left l) {x : ByteArray} (hx : okS x) (hl : left (kS x) = true) (hf : x ∈ R) : GathS R (fun z => left z && !z.sameKey (kS x)) (l ++ [x]) := by
  obtain ⟨h1, h2, h3⟩ := h
  have hn : x ∉ l := fun hd => by have := ((h3 x hx).1 hd).2; rw [hl] at this; cases this
  refine ⟨?_, fun p hp => ?_, fun k hk => ?_⟩
  · rw [List.nodup_append]
    refine ⟨h1, by simp, fun a ha b hb => ?_⟩
    simp at hb; subst hb
    rintro rfl
    exact hn ha
  · rcases List.mem_append.1 hp with hp | hp
    · exact h2 p hp
    · simp at hp; subst hp; exact hx
  · by_cases e : k = x
    · subst e
      simp [sameKey_self, hf]
    · simp only [List.mem_append, h3 k hk, sameKey_kS e]
      simp [e]
theorem sort_sortU {l R : List ByteArray} (hn : l.Nodup) (hm : ∀ k, k ∈ l ↔ k ∈ R) : ((l.map fun k => k.data.toList).mergeSort fun x y => decide (x ≤ y)).map ofL = sortU R := by
  have hp := List.mergeSort_perm (l.map fun k => k.data.toList) (fun x y => decide (x ≤ y))
  have hle := sort_le (l.map fun k => k.data.toList)
  have hnd : ((l.map fun k => k.data.toList).mergeSort fun x y => decide (x ≤ y)).Nodup := by
    rw [hp.nodup_iff]
    unfold List.Nodup
    rw [List.pairwise_map]
    refine hn.imp fun {a b} h e => h ?_
    rw [← ofL_data a, ← ofL_data b, e]
  have hmem : ∀ x, x ∈ ((l.map fun k => k.data.toList).mergeSort fun x y => decide (x ≤ y)) ↔ x ∈ l.map fun k => k.data.toList := fun x => hp.mem_iff
  generalize ((l.map fun k => k.data.toList).mergeSort fun x y => decide (x ≤ y)) = M at hp hle hnd hmem
  refine srt_uniq ?_ (sortU_srt R) fun k => ?_
  · rw [List.pairwise_map]
    have := hle.and hnd
    refine this.imp fun {a b} h => ?_
    have hlt : a < b := by
      rcases lt_tri a b with q | q | q
      · exact q
      · exact absurd q h.2
      · exact absurd q (le_not.1 h.1)
    have := (bl_lt a b).2 hlt
    simpa [blt, ofL, toList_data] using this
  · rw [sortU_mem, ← hm, List.mem_map]
    constructor
    · rintro ⟨a, ha, rfl⟩
      obtain ⟨j, hj, rfl⟩ := List.mem_map.1 ((hmem a).1 ha)
      rw [ofL_data]; exact hj
    · intro hk
      exact ⟨k.data.toList, (hmem _).2 (List.mem_map.2 ⟨k, hk, rfl⟩), ofL_data k⟩
section
variable {P : Program} (w : World) {ops : Array Oper} {rest : List Oper} {o : Oper} {a : Act} {Q : Exit → Act → World → Prop}
/-- the step of a loop over a set of texts -/
theorem wpList_next_set (hg : o.guard = none) (it : Operand) (hop : o.op = Op.next it false) (k e : TypeId) (K : Keyed P k) (hk : P.underlying k = some .string) (he : P.underlying e = some .bool)
    (b r n : Nat) (D : DU) (R : List ByteArray) (hF : MapF kS okS dB D (setF R)) (left : Lit → Bool) (cnt : Nat) (hit : a.eval it = .pointer (some ⟨r, 0, none⟩)) (h : w.ranges P k (plainElem P e) b r n D left cnt)
    (hDone : (∀ kl, left kl = false) → wpList P ops Q rest (a.put o.dst (.tuple #[.bool false])) w)
    (hMore : ∀ (x : ByteArray) (w' : World) (cnt' : Nat), okS x → left (kS x) = true → x ∈ R → w'.ranges P k (plainElem P e) b r n D (fun z => left z && !z.sameKey (kS x)) cnt' → cnt' < cnt →
      w.grownBy w' (some r) → w'.heap.size = w.heap.size → (Instr.entry (.pointer (some ⟨r, 0, none⟩))).run P w' = .ok (.tuple #[.string x, .bool true]) w' → wpList P ops Q rest (a.put o.dst (.tuple #[.bool true, .string x, .bool true])) w') :
    wpList P ops Q (o :: rest) a w :=
  wpList_next_sb w hg it hop k e K hk he b r n D (setF R) hF left cnt hit h hDone fun x c w' cnt' h1 h2 h3 => by
    obtain ⟨rfl, h4⟩ := setF_val h3
    exact hMore x w' cnt' h1 h2 h4
end
def NRel (w : World) (b n : Nat) (D : DU) (R : List ByteArray) (v : Value) (wr : World) : Prop :=
  ∃ (left : Lit → Bool) (cnt : Nat) (l : List ByteArray), wr.ranges Tryz.prog 9 (plainElem Tryz.prog 4) b w.heap.size n D left cnt ∧ GathS R left l ∧ l.length + cnt ≤ n ∧
    wr.ownsRow (w.heap.size + 1) 9 1 v l.length (cS l) ∧ Ext w wr
theorem sstrings_any (B : Nat) (v : Value) (L : List ByteArray) (w : World) (ho : w.ownsRow B 9 1 v L.length (cS L)) (hn : L.length ≤ 1000000) :
    Calls Tryz.prog 49 #[v] w fun e w' => e = .returned (.tuple #[]) ∧ w'.ownsRow B 9 1 v (srtB L).length ((srtB L).map encStr) ∧ w.grownBy w' v.ownBlock := by
  have S0 := hid (sort_own B v L w ho hn)
  clear ho
  go_enter Tryz.func49, Tryz.ntmps49
  go_wp2_with fail
  refine (S0.out).mono ?_
  rintro e w1 ⟨rfl, h1, h2⟩
  go_wp2
  exact ⟨rfl, .tuple #[], by simp [results, Tryz.results49, go_sem], rfl, h1, h2⟩
theorem kv1S (x : ByteArray) : ∀ u ∈ [Value.string x], u.oneCell' = true := one_str x
set_option maxRecDepth 10000 in
set_option maxHeartbeats 2000000 in
theorem names_any (b : Nat) (D : DU) (R : List ByteArray) (w : World) (hown : w.ownsMap Tryz.prog 9 (plainElem Tryz.prog 4) b R.length D) (hF : MapF kS okS dB D (setF R)) (hR : ∀ k ∈ R, okS k) (hn : R.length ≤ 1000000) :
    Calls Tryz.prog 21 #[.map (some b)] w fun e w' => ∃ v', e = .returned v' ∧ w'.ownsRow w.heap.size 9 1 v' (sortU R).length (cS (sortU R)) ∧ Ext w w' := by
  have hsz := own_size hown
  have hbl := hown.lt
  go_enter Tryz.func21, Tryz.ntmps21
  go_wp2_with (first
    | (at_range; refine wpList_range_own _ rfl _ 59 rfl 9 4 lawS Tryz.underlying59 _ b R.length _ rfl hown ?_; intro w0 hrg0 hg0 hs0)
    | go_in)
  go_frame
  have E1 := ext_of_grown hg0
  go_loopw [3, 4] (fun v _ wr => NRel w b R.length D R v wr) (fun _ _ wr => wr.rangeLeft b w.heap.size)
  case atStart =>
    exact ⟨_, _, [], by simpa using hrg0, gathS_start hF, by simpa using hsz, World.ownsRow_nil _ _ _ _, E1⟩
  case round =>
    obtain ⟨wo, rfl⟩ : ∃ wo : World, wo = wr := ⟨_, rfl⟩
    obtain ⟨left, cnt, l, hrg, hG, hlc, ho, E⟩ := hrel
    obtain ⟨ao, co, rfl⟩ := own_form ho
    go_wp2_with (first
      | (at_next; refine wpList_next_set _ rfl _ rfl 9 4 lawS Tryz.underlying9 Tryz.underlying4 b w.heap.size R.length D R hF _ _ rfl hrg ?_ ?_)
      | go_in)
    · intro hl0
      have hm : ∀ k, k ∈ l ↔ k ∈ R := fun k => ⟨fun h => ((hG.2.2 k (hG.2.1 k h)).1 h).1, fun h => (hG.2.2 k (hR k h)).2 ⟨h, hl0 _⟩⟩
      have hSU := hid (sort_sortU hG.1 hm)
      have S1 := hid (sstrings_any (w.heap.size + 1) _ l wo ho (by omega))
      have hge := own_ge ho
      clear hm hG
      go_wp2_with fail
      refine (S1.out).mono ?_
      rintro e w2 ⟨rfl, ho2, hg2⟩
      have E2 : Ext w w2 := E.grown hg2 (fun k hk => by have := hge k hk; omega)
      go_wp2
      go_ret
      refine ⟨_, rfl, ?_, E2⟩
      have h1 : sortU R = (srtB l).map ofL := hSU.out.symm
      have h2 : (sortU R).length = (srtB l).length := by rw [h1]; simp
      have h3 : l.length = (srtB l).length := (srtB_len l).symm
      rw [h2, h1, cS_of, h3]
      rw [h3] at ho2
      exact own_base ho2 (by omega)
    · intro x w1 cnt1 hwx hlx hxR hrg1 hlt hg1 hs1 hen
      have hge := own_ge ho
      have E1' : Ext w w1 := E.grown hg1 (fun k hk => by injection hk with hk; omega)
      have hne : (Value.slice ao l.length co).ownBlock ≠ some w.heap.size := fun e => by have := hge _ e; omega
      have hne3 : (Value.slice ao l.length co).ownBlock ≠ some b := fun e => by have := hge _ e; omega
      have ho1 := grown_own hg1 ho (.inr hne)
      have hG' := gathS_keep hG hwx hlx hxR
      have HG := hid hG'
      clear hG hG'
      have bn := heap_alloc_new w1 (.cells #[.string x] 9)
      have hsv : Seg (w1.alloc (.cells #[.string x] 9)) (.slice (some ⟨w1.heap.size, 0, none⟩) 1 1) 1 1 [.string x] :=
        seg_blk (xs := [.string x]) bn rfl (Nat.le_refl _) (by simp [maxLen])
      have hrg1a := hrg1.alloc (.cells #[.string x] 9)
      have E1a := E1'.alloc (.cells #[.string x] 9)
      have hB : w.heap.size + 1 ≤ (w1.alloc (.cells #[.string x] 9)).heap.size := by have := hrg1.lt; simp; omega
      clear bn hs1
      go_wp2_with (first | (at_builtin; refine (wpList_app rfl _ _ 22 rfl (w.heap.size + 1) 9 (.string ⟨#[]⟩) 1 16 Tryz.underlying22 infoStr rfl (by decide) _ l.length (cS l) rfl (ho1.alloc _) (.slice (some ⟨w1.heap.size, 0, none⟩) 1 1) 1 [.string x] rfl hsv (one_str _) (by omega) (by unfold maxLen; omega) hB ?_); intro v' w4 ho' hg; obtain ⟨a4, c4', rfl⟩ := own_form ho'))
      go_roundw
      case rel =>
        have hrg4 := hrg1a.kept hg (fun e => hne3 e.symm) (fun e => hne e.symm)
        have E4 : Ext w w4 := E1a.grown hg (fun k hk => by have := hge k hk; omega)
        refine ⟨_, cnt1, l ++ [x], hrg4, HG.out, by simp; omega, ?_, E4⟩
        rw [List.length_append, cS_app]
        exact ho'
      case measure =>
        have hrg4 := hrg1a.kept hg (fun e => hne3 e.symm) (fun e => hne e.symm)
        rw [hrg4.left_eq, hrg.left_eq]; exact hlt
end Go.Proofs.YtimchedebcoohaaGreatDoor

/- Contracts and lemmas for the proofs of this seat; each theorem states its own conditions. -/
namespace Go.Proofs.YtimchedebcoohaaGreatDoor
open Go.RowKit Go.Maps
/-! the document's Clash -/
theorem plainElem_bool_inv2 {P : Program} {e : TypeId} (he : P.underlying e = some .bool) {v : Value} {z : DU × List MemPlace} (h : plainElem P e v = some z) : ∃ a, v = .bool a ∧ z = (dB a, []) := plainElem_bool_inv he h
/-- is a text in a set of one's own? -/
theorem look_set {w : World} {b n : Nat} {D : DU} {R : List ByteArray} (hown : w.ownsMap Tryz.prog 9 (plainElem Tryz.prog 4) b n D) (hF : MapF kS okS dB D (setF R)) {x : ByteArray} (hx : okS x) :
    (Instr.lookup 59 (.map (some b)) (.string x) false).run Tryz.prog w = .ok (.bool (memB R x)) w := by
  have hzero := Tryz.zeroValue4
  have hz : (zeroValue 4).run Tryz.prog w = .ok (.bool false) w := hzero w
  obtain ⟨v, ps, hrun, hv⟩ := hown.lookup lawS Tryz.underlying59 hz (plainElem_bool Tryz.underlying4 false) (WideMaps.keyOf_string_mk Tryz.underlying9 (P := Tryz.prog) (k := 9) (s := x) hx)
  obtain ⟨c, rfl, hc⟩ := plainElem_bool_inv Tryz.underlying4 hv
  have hc1 : D.atKey (kS x) (dB false) = dB c := congrArg Prod.fst hc
  have := hF.look dB_inj hx hc1
  rw [hrun, this]
  unfold setF
  cases memB R x <;> rfl
theorem TRel.look1 {w0 w : World} {b c : Nat} {R W : List ByteArray} (h : TRel w0 b c R W w) {x : ByteArray} (hx : okS x) : (Instr.lookup 59 (.map (some b)) (.string x) false).run Tryz.prog w = .ok (.bool (memB R x)) w := by
  obtain ⟨D, F, h1, h2, h3, h4, h5⟩ := h
  exact look_set h1 h2 hx
theorem TRel.look2 {w0 w : World} {b c : Nat} {R W : List ByteArray} (h : TRel w0 b c R W w) {x : ByteArray} (hx : okS x) : (Instr.lookup 59 (.map (some c)) (.string x) false).run Tryz.prog w = .ok (.bool (memB W x)) w := by
  obtain ⟨D, F, h1, h2, h3, h4, h5⟩ := h
  exact look_set h3 h4 hx
theorem wrs_okS {d : Ops} (h : DeedOk d) : (∀ k ∈ rds d, okS k) ∧ ∀ k ∈ wrs d, okS k := by
  refine ⟨fun k hk => ?_, fun k hk => ?_⟩
  · unfold rds at hk
    obtain ⟨o, ho, hk⟩ := List.mem_flatMap.1 hk
    have oo := h.ops o ho
    rcases kinds oo with e | e | e | e | e
    all_goals simp [rdO, e] at hk
    · subst hk; exact ksz oo.key
    · subst hk; exact ksz (oo.from_ (.inl e)).1
    · subst hk; exact ksz oo.key
    · rcases hk with rfl | rfl
      · exact ksz oo.key
      · exact ksz (oo.from_ (.inr e)).1
  · unfold wrs at hk
    obtain ⟨o, ho, hk⟩ := List.mem_flatMap.1 hk
    have oo := h.ops o ho
    rcases kinds oo with e | e | e | e | e
    all_goals simp [wrO, e] at hk
    · subst hk; exact ksz oo.key
    · subst hk; exact ksz oo.key
    · subst hk; exact ksz oo.key
    · rcases hk with rfl | rfl
      · exact ksz oo.key
      · exact ksz (oo.from_ (.inr e)).1
/-- a loop over a set of texts: what stands behind it, and what has been seen -/
def CRel (w : World) (b r n : Nat) (D : DU) (P : ByteArray → Prop) (wr : World) : Prop :=
  ∃ (left : Lit → Bool) (cnt : Nat), wr.ranges Tryz.prog 9 (plainElem Tryz.prog 4) b r n D left cnt ∧ (∀ k, okS k → left (kS k) = false → P k) ∧ Ext w wr
theorem CRel.step {left : Lit → Bool} {P : ByteArray → Prop} {x : ByteArray} (hP : ∀ k, okS k → left (kS k) = false → P k) (hx : P x) : ∀ k, okS k → (left (kS k) && !(kS k).sameKey (kS x)) = false → P k := by
  intro k hk h
  by_cases e : k = x
  · subst e; exact hx
  · rw [sameKey_kS e] at h
    exact hP k hk (by simpa using h)
theorem clash_t1 {a b : Ops} {k : ByteArray} (h : k ∈ wrs a) (m : memB (rds b) k = true) : clashB a b = true := by
  have : meets (wrs a) (rds b) = true := meets_iff.2 ⟨k, h, memB_iff.1 m⟩
  simp [clashB, this]
theorem clash_t2 {a b : Ops} {k : ByteArray} (h : k ∈ wrs a) (m : memB (wrs b) k = true) : clashB a b = true := by
  have : meets (wrs a) (wrs b) = true := meets_iff.2 ⟨k, h, memB_iff.1 m⟩
  simp [clashB, this]
theorem clash_t3 {a b : Ops} {k : ByteArray} (h : k ∈ rds a) (m : memB (wrs b) k = true) : clashB a b = true := by
  have : meets (rds a) (wrs b) = true := meets_iff.2 ⟨k, h, memB_iff.1 m⟩
  simp [clashB, this]
theorem clash_f {a b : Ops} (h1 : ∀ k ∈ wrs a, memB (rds b) k = false ∧ memB (wrs b) k = false) (h2 : ∀ k ∈ rds a, memB (wrs b) k = false) : clashB a b = false := by
  have q1 : meets (wrs a) (wrs b) = false := by
    rw [Bool.eq_false_iff]; intro h
    obtain ⟨k, hk, hb⟩ := meets_iff.1 h
    exact memB_not.1 (h1 k hk).2 hb
  have q2 : meets (wrs a) (rds b) = false := by
    rw [Bool.eq_false_iff]; intro h
    obtain ⟨k, hk, hb⟩ := meets_iff.1 h
    exact memB_not.1 (h1 k hk).1 hb
  have q3 : meets (rds a) (wrs b) = false := by
    rw [Bool.eq_false_iff]; intro h
    obtain ⟨k, hk, hb⟩ := meets_iff.1 h
    exact memB_not.1 (h2 k hk) hb
  simp [clashB, q1, q2, q3]
end Go.Proofs.YtimchedebcoohaaGreatDoor

/- Contracts and lemmas for the proofs of this seat; each theorem states its own conditions. -/
namespace Go.Proofs.YtimchedebcoohaaGreatDoor
open Go.RowKit Go.Maps
/-! deed.Keys, deed.Clash at whatever is handed in -/
set_option maxRecDepth 10000 in
theorem keys_bad (vd : Value) (d : Ops) (w : World) (hvd : Seg w vd 4 d.length (cO d)) (hd : opsSm d) (hne : deedE d ≠ 0) :
    Calls Tryz.prog 38 #[.agg #[vd]] w fun e w' => e = .returned (.tuple #[.slice none 0 0, .slice none 0 0, .int .i64 (deedE d)]) ∧ Ext w w' := by
  obtain ⟨x, c, rfl⟩ := seg_form hvd
  have E0 := (Ext.refl w).alloc (.cells #[.slice x d.length c] 43)
  have b0 := heap_alloc_new w (.cells #[.slice x d.length c] 43)
  have c0 := cell_of_one b0
  have C := hid (dcheck_any (.slice x d.length c) d (w.alloc (.cells #[.slice x d.length c] 43)) (hvd.ext E0) hd)
  have q : (deedE d != 0) = true := by simp [hne]
  clear hne hvd
  go_enter Tryz.func38, Tryz.ntmps38
  go_wp2_with fail
  refine (C.out).mono ?_
  rintro e w1 ⟨rfl, E1⟩
  go_wp2
  go_ret3
  exact ⟨rfl, E0.trans E1⟩
theorem keys_all (vd : Value) (d : Ops) (w : World) (hvd : Seg w vd 4 d.length (cO d)) (hd : opsSm d) :
    Calls Tryz.prog 38 #[.agg #[vd]] w fun e w' => ∃ v1 v2 R U, e = .returned (.tuple #[v1, v2, .int .i64 (deedE d)]) ∧ w'.ownsRow w.heap.size 9 1 v1 R.length (cS R) ∧ w'.ownsRow w.heap.size 9 1 v2 U.length (cS U) ∧
      (deedE d = 0 → R = sortU (rds d) ∧ U = sortU (wrs d)) ∧ (deedE d ≠ 0 → R = [] ∧ U = []) ∧ Ext w w' := by
  by_cases h : deedE d = 0
  · refine (keys_ok vd d w hvd (deed_ok h) (fun o ho => (hd o ho).2)).mono ?_
    rintro e w' ⟨v1, v2, rfl, h1, h2, E⟩
    exact ⟨v1, v2, _, _, by rw [h], h1, h2, fun _ => ⟨rfl, rfl⟩, fun q => absurd h q, E⟩
  · refine (keys_bad vd d w hvd hd h).mono ?_
    rintro e w' ⟨rfl, E⟩
    exact ⟨_, _, [], [], rfl, World.ownsRow_nil _ _ _ _, World.ownsRow_nil _ _ _ _, fun q => absurd q h, fun _ => ⟨rfl, rfl⟩, E⟩
def twoE (a b : Ops) : Int := if deedE a = 0 then deedE b else deedE a
def clashE (a b : Ops) : Bool := if twoE a b = 0 then clashB a b else false
end Go.Proofs.YtimchedebcoohaaGreatDoor
