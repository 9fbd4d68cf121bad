/- Contracts and lemmas for the proof of PartsPlay; each theorem states its own conditions. -/
import Derived.Test.YtimchedebcoohaaGreatDoorQPartsPlaybs
import Derived.Test.YtimchedebcoohaaGreatDoorQPartsPlayao
import Derived.Test.YtimchedebcoohaaGreatDoorQPartsPlaybq
set_option linter.unusedVariables false
set_option linter.unusedSimpArgs false
/- Contracts and lemmas for the proofs of this seat; each theorem states its own conditions. -/
namespace Go.Proofs.YtimchedebcoohaaGreatDoor
open Go.RowKit Go.Maps
/-! the document's Run -/
/-- values that may be -/
def FV (f : ByteArray → Option Int) : Prop := ∀ x c, f x = some c → valB c = true
theorem FV.at {f : ByteArray → Option Int} (h : FV f) (x : ByteArray) : -1000000000 ≤ atF f x ∧ atF f x ≤ 1000000000 := by
  unfold atF
  cases hf : f x with
  | none => simp
  | some c => exact valB_iff.1 (h x c hf)
theorem FV.put {f : ByteArray → Option Int} (h : FV f) (k : ByteArray) {c : Int} (hc : valB c = true) : FV (fun x => if x = k then some c else f x) := by
  intro x z hz
  dsimp only at hz
  split at hz
  · injection hz with hz; subst hz; exact hc
  · exact h x z hz
theorem atF_put (f : ByteArray → Option Int) (k : ByteArray) (c : Int) : atF (fun x => if x = k then some c else f x) = setV (atF f) k c := by
  funext x
  unfold setV
  show ((if x = k then some c else f x).getD 0) = if k = x then c else atF f x
  by_cases e : x = k
  · rw [if_pos e, if_pos e.symm]; rfl
  · rw [if_neg e, if_neg (fun q => e q.symm)]; rfl
theorem atF_same (f : ByteArray → Option Int) (k : ByteArray) (c : Int) : atF (fun x => if x = k then some c else f x) k = c := by
  rw [atF_put]; simp [setV]
theorem runV_app (v : Vls) (a b : Ops) : runV v (a ++ b) = (runV v a).bind fun u => runV u b := by
  induction a generalizing v with
  | nil => rfl
  | cons o a ih =>
    simp only [List.cons_append, runV]
    split
    · exact ih _
    · rfl
theorem runV_step {v u : Vls} {d : Ops} {k : Nat} (hk : k < d.length) (h : runV v (d.take k) = some u) : runV v (d.take (k + 1)) = if (doV u d[k]).2 then some (doV u d[k]).1 else none := by
  rw [List.take_succ_eq_append_getElem hk, runV_app, h]
  simp only [Option.bind_some, runV]
theorem runV_off {v : Vls} {d : Ops} {k : Nat} (h : runV v (d.take k) = none) : runV v d = none := by
  have := runV_app v (d.take k) (d.drop k)
  rw [List.take_append_drop, h] at this
  exact this
theorem runV_bad {v u : Vls} {d : Ops} {k : Nat} (hk : k < d.length) (h : runV v (d.take k) = some u) (hb : (doV u d[k]).2 = false) : stepV v d = v ∧ okV v d = false := by
  have h1 := runV_step hk h
  rw [hb] at h1
  have h2 := runV_off h1
  unfold stepV okV
  rw [h2]; exact ⟨rfl, rfl⟩
/-- what m[x] answers -/
theorem look_int {w : World} {b n : Nat} {D : DU} {f : ByteArray → Option Int} (hown : w.ownsMap Tryz.prog 9 (plainElem Tryz.prog 3) b n D) (hF : MapF kS okS dI D f) {x : ByteArray} (hx : okS x) :
    (Instr.lookup 38 (.map (some b)) (.string x) false).run Tryz.prog w = .ok (.int .i64 (atF f x)) w := by
  have hzero := Tryz.zeroValue3
  obtain ⟨c, hrun, hat, _⟩ := hown.lookup_int lawS Tryz.underlying38 Tryz.underlying3 (hzero w) (WideMaps.keyOf_string_mk Tryz.underlying9 (P := Tryz.prog) (k := 9) (s := x) hx)
  have := hF.look dI_inj hx hat
  rw [hrun, this]; rfl
/-- the copy so far -/
def CpRel (w0 : World) (b bo r n : Nat) (D : DU) (f : ByteArray → Option Int) (wr : World) : Prop :=
  ∃ (left : Lit → Bool) (cnt m : Nat) (Do : DU) (g : ByteArray → Option Int), wr.ranges Tryz.prog 9 (plainElem Tryz.prog 3) b r n D left cnt ∧ wr.ownsMap Tryz.prog 9 (plainElem Tryz.prog 3) bo m Do ∧ MapF kS okS dI Do g ∧
    (∀ x, okS x → (left (kS x) = true → g x = none) ∧ (left (kS x) = false → g x = f x)) ∧ m + cnt ≤ n ∧ Ext w0 wr
theorem cp_step {f g : ByteArray → Option Int} {left : Lit → Bool} {x : ByteArray} {c : Int} (h : ∀ x, okS x → (left (kS x) = true → g x = none) ∧ (left (kS x) = false → g x = f x)) (hf : f x = some c) :
    ∀ y, okS y → ((left (kS y) && !(kS y).sameKey (kS x)) = true → (if y = x then some c else g y) = none) ∧ ((left (kS y) && !(kS y).sameKey (kS x)) = false → (if y = x then some c else g y) = f y) := by
  intro y hy
  by_cases e : y = x
  · subst e
    rw [sameKey_self]
    simp [hf]
  · rw [sameKey_kS e, if_neg e]
    simpa using h y hy
/-- what a run has made so far -/
def RnRel (w0 : World) (bo n : Nat) (v : Vls) (d : Ops) (k : Nat) (wr : World) : Prop :=
  ∃ (m : Nat) (Do : DU) (g : ByteArray → Option Int), wr.ownsMap Tryz.prog 9 (plainElem Tryz.prog 3) bo m Do ∧ MapF kS okS dI Do g ∧ FV g ∧ runV v (d.take k) = some (atF g) ∧ m ≤ n + 2 * k ∧ Ext w0 wr
set_option maxRecDepth 10000 in
set_option maxHeartbeats 4000000 in
theorem rrun_any (b n : Nat) (D : DU) (f : ByteArray → Option Int) (vd : Value) (d : Ops) (w : World) (hown : w.ownsMap Tryz.prog 9 (plainElem Tryz.prog 3) b n D) (hF : MapF kS okS dI D f) (hfv : FV f)
    (hvd : Seg w vd 4 d.length (cO d)) (hd : DeedOk d) (hn : n ≤ 100000000) :
    Calls Tryz.prog 14 #[.map (some b), .agg #[vd]] w fun e w' => ∃ b' n' D' f', e = .returned (.tuple #[.map (some b'), .bool (okV (atF f) d)]) ∧ w'.ownsMap Tryz.prog 9 (plainElem Tryz.prog 3) b' n' D' ∧ MapF kS okS dI D' f' ∧ atF f' = stepV (atF f) d ∧ FV f' ∧ n' ≤ n + 2 * d.length ∧ Ext w w' := by
  obtain ⟨a, cp, rfl⟩ := seg_form hvd
  have hbl := hown.lt
  have hsz := own_size hown
  have b0 := heap_alloc_new w (.cells #[.slice a d.length cp] 43)
  have E0 := (Ext.refl w).alloc (.cells #[.slice a d.length cp] 43)
  obtain ⟨w0, hw0⟩ : ∃ w0, w.alloc (.cells #[.slice a d.length cp] 43) = w0 := ⟨_, rfl⟩
  have hs0 : w0.heap.size = w.heap.size + 1 := by rw [← hw0]; simp
  rw [hw0] at b0 E0
  have y0 := cell_of_one b0
  have HV := hid (hvd.ext E0)
  have hown0 := ownsMap_ext hown E0
  have hmm := @run_makeMap Tryz.prog
  have bm := World.ownsMap_made w0 Tryz.prog 9 (plainElem (H := Unit) Tryz.prog 3)
  have Em := (Ext.refl w0).alloc (.map #[] 0)
  have hown1 := ownsMap_ext hown0 Em
  have HS0 := hid hs0
  have HOWN := hid hown
  clear hvd hs0 b0 hown hown0
  go_enter Tryz.func14, Tryz.ntmps14
  go_wp2_with (first
    | (at_range; refine wpList_range_own _ rfl _ 38 rfl 9 3 lawS Tryz.underlying38 _ b n _ rfl hown1 ?_; intro w3 hrg0 hg0 hs3; simp only [World.size_alloc] at hrg0 ⊢)
    | go_in)
  go_frame
  have E3 := ext_of_grown hg0
  have bm3 := ownsMap_ext bm E3
  have E30 := Em.trans E3
  clear E3 Em bm hg0 hs3 hown1 hmm
  go_loopw [7, 8] (fun _ _ wr => CpRel w0 b w0.heap.size (w0.heap.size + 1) n D f wr) (fun _ _ wr => wr.rangeLeft b (w0.heap.size + 1))
  case atStart =>
    refine ⟨_, _, 0, _, fun _ => none, by simpa using hrg0, bm3, MapF.empty, fun x hx => ⟨fun _ => rfl, fun h => ?_⟩, by simpa using hsz, E30⟩
    rw [hF.has hx] at h
    cases hf : f x with
    | none => rfl
    | some c => rw [hf] at h; cases h
  case round =>
    clear hrg0 bm3 E30
    obtain ⟨wo, rfl⟩ : ∃ wo : World, wo = wr := ⟨_, rfl⟩
    obtain ⟨left, cnt, m, Do, g, hrg, hog, hG, hlr, hmc, Er⟩ := hrel
    have yo := Er.cell y0
    go_wp2_with (first
      | (at_next; refine wpList_next_si _ rfl _ rfl 9 3 lawS Tryz.underlying9 Tryz.underlying3 b (w0.heap.size + 1) n D f hF _ _ rfl hrg ?_ ?_)
      | go_in)
    · intro hl0
      have hgf : g = f := by
        funext x
        by_cases hx : okS x
        · exact (hlr x hx).2 (hl0 _)
        · cases h1 : g x with
          | some c => exact absurd (hG.2.1 x c h1) hx
          | none =>
            cases h2 : f x with
            | none => rfl
            | some c => exact absurd (hF.2.1 x c h2) hx
      subst hgf
      have R0 : RnRel w0 w0.heap.size n (atF g) d 0 wo := ⟨m, Do, g, hog, hG, hfv, by simp [runV], by omega, Er⟩
      clear hlr hl0 hrg hog
      go_wp2
      clear yo
      go_loopw [10, 25, 31, 38, 47, 56, 66] (fun _ iv _ _ _ _ _ wr => ∃ k : Nat, k ≤ d.length ∧ iv = .int .i64 k ∧ RnRel w0 w0.heap.size n (atF g) d k wr) (fun _ iv _ _ _ _ _ _ => d.length - (intOf iv).toNat)
      case atStart => exact ⟨0, Nat.zero_le _, rfl, R0⟩
      case round =>
        clear R0 Er
        obtain ⟨wu, rfl⟩ : ∃ wu : World, wu = wr := ⟨_, rfl⟩
        obtain ⟨k, hk, rfl, m2, Do2, h, hown2, hH, hhv, hrun, hm2, Es⟩ := hrel
        by_cases hlt : k < d.length
        ·
            obtain ⟨b1, off, rfl, _, m1', m2', hc⟩ := seg_cells HV.out (by omega)
            unfold maxLen at m2'
            obtain ⟨q0, q1, q2, q3⟩ := seg_op hc hlt
            have c0 := Es.cell q0
            have c1 := Es.cell q1
            have c2 := Es.cell q2
            have c3 := Es.cell q3
            have oo := hd.ops d[k] (List.getElem_mem hlt)
            have HST := hid (runV_step hlt hrun)
            have HBD := hid (runV_bad hlt hrun)
            have hd8 := hd.hi
            clear hc q0 q1 q2 q3 hrun
            generalize d[k] = o at c0 c1 c2 c3 oo HST HBD
            obtain ⟨kd, key, fr, z⟩ := o
            dsimp only at c0 c1 c2 c3
            have kk : keyB key = true := oo.key
            have kfr := oo.from_
            have kv := oo.val
            have kp := oo.pos
            have hkd := kinds oo
            dsimp only at kfr kv kp hkd
            have hb1 := hhv.at key
            have hb2 := hhv.at fr
            have hbo := hown2.lt
            have EA := (Ext.refl wu).alloc (.cells #[.int .i64 kd, .string key, .string fr, .int .i64 z] 90)
            have xb := heap_alloc_new wu (.cells #[.int .i64 kd, .string key, .string fr, .int .i64 z] 90)
            have z0 := blk4 xb
            have hownA := ownsMap_ext hown2 EA
            have LK := look_int hownA hH (ksz kk)
            have hkey := WideMaps.keyOf_string_mk Tryz.underlying9 (P := Tryz.prog) (k := 9) (s := key) (ksz kk)
            replace EA := Es.trans EA
            clear hown2 Es oo
            rcases hkd with rfl | rfl | rfl | rfl | rfl
            · have kv1 := kv (by omega)
              clear kv kp kfr
              have hwf : (Lit.int .i64 (z)).wf = true := WalkArith.wf_i64 (by omega)
              have hvb : valB (z) = true := valB_iff.2 (by omega)
              have RS := hid (show runV (atF g) (d.take (k + 1)) = some (atF (fun x => if x = key then some (z) else h x)) by rw [HST.out, atF_put]; simp [doV, hvb])
              go_wp2_with (first | (at_mapUpdate; refine wpList_mapUpdate_own _ rfl _ _ _ 38 rfl 9 3 lawS Tryz.underlying38 _ w0.heap.size m2 _ rfl hownA (by unfold maxLen; omega) _ _ (kS key) rfl rfl hkey (dI (z)) [] (plainElem_int Tryz.underlying3 hwf) ?_; intro w5 hown3 hg3; replace xb := grown_heap hg3 xb (by intro q; injection q with q; omega); have z1 := blk4 xb; have L3 := look_int hown3 (hH.put kS_inj kS_is (ksz kk) (z)) (ksz kk); rw [atF_same] at L3; simp only [Act.put]) | (go_at_call 37; refine (rvalue_any _ _).mono ?_; rw [hvb]; rintro e w9 ⟨rfl, rfl⟩))
              refine ⟨⟨k + 1, by omega, by go_num, m2 + 1, _, _, hown3, (hH.put kS_inj kS_is (ksz kk) (z)), (hhv.put key hvb), RS.out, by omega, (EA.grown hg3 (fun j hj => by injection hj with hj; omega))⟩, ?_⟩
              simp [intOf] <;> omega
            · have kv1 := kv (by omega)
              clear kv kp kfr
              have hwf : (Lit.int .i64 (atF h key + z)).wf = true := WalkArith.wf_i64 (by omega)
              cases hvb : valB (atF h key + z) with
              | true =>
                have RS := hid (show runV (atF g) (d.take (k + 1)) = some (atF (fun x => if x = key then some (atF h key + z) else h x)) by rw [HST.out, atF_put]; simp [doV, hvb])
                go_wp2_with (first | (at_mapUpdate; refine wpList_mapUpdate_own _ rfl _ _ _ 38 rfl 9 3 lawS Tryz.underlying38 _ w0.heap.size m2 _ rfl hownA (by unfold maxLen; omega) _ _ (kS key) rfl rfl hkey (dI (atF h key + z)) [] (plainElem_int Tryz.underlying3 hwf) ?_; intro w5 hown3 hg3; replace xb := grown_heap hg3 xb (by intro q; injection q with q; omega); have z1 := blk4 xb; have L3 := look_int hown3 (hH.put kS_inj kS_is (ksz kk) (atF h key + z)) (ksz kk); rw [atF_same] at L3; simp only [Act.put]) | (go_at_call 37; refine (rvalue_any _ _).mono ?_; rw [hvb]; rintro e w9 ⟨rfl, rfl⟩))
                refine ⟨⟨k + 1, by omega, by go_num, m2 + 1, _, _, hown3, (hH.put kS_inj kS_is (ksz kk) (atF h key + z)), (hhv.put key hvb), RS.out, by omega, (EA.grown hg3 (fun j hj => by injection hj with hj; omega))⟩, ?_⟩
                simp [intOf] <;> omega
              | false =>
                have BF := hid (HBD.out (by simp [doV, hvb]))
                go_wp2_with (first | (at_mapUpdate; refine wpList_mapUpdate_own _ rfl _ _ _ 38 rfl 9 3 lawS Tryz.underlying38 _ w0.heap.size m2 _ rfl hownA (by unfold maxLen; omega) _ _ (kS key) rfl rfl hkey (dI (atF h key + z)) [] (plainElem_int Tryz.underlying3 hwf) ?_; intro w5 hown3 hg3; replace xb := grown_heap hg3 xb (by intro q; injection q with q; omega); have z1 := blk4 xb; have L3 := look_int hown3 (hH.put kS_inj kS_is (ksz kk) (atF h key + z)) (ksz kk); rw [atF_same] at L3; simp only [Act.put]) | (go_at_call 37; refine (rvalue_any _ _).mono ?_; rw [hvb]; rintro e w9 ⟨rfl, rfl⟩))
                go_ret2
                refine ⟨b, n, D, g, ?_, ownsMap_ext HOWN.out (E0.trans (EA.grown hg3 (fun j hj => by injection hj with hj; omega))), hF, BF.out.1.symm, hfv, by omega, E0.trans (EA.grown hg3 (fun j hj => by injection hj with hj; omega))⟩
                rw [BF.out.2]; rfl
            · have kf := kfr (by omega)
              have LF := look_int hownA hH (ksz kf.1)
              clear kv kp kfr kf
              have hwf : (Lit.int .i64 (atF h fr)).wf = true := WalkArith.wf_i64 (by omega)
              have hvb : valB (atF h fr) = true := valB_iff.2 (by omega)
              have RS := hid (show runV (atF g) (d.take (k + 1)) = some (atF (fun x => if x = key then some (atF h fr) else h x)) by rw [HST.out, atF_put]; simp [doV, hvb])
              go_wp2_with (first | (at_mapUpdate; refine wpList_mapUpdate_own _ rfl _ _ _ 38 rfl 9 3 lawS Tryz.underlying38 _ w0.heap.size m2 _ rfl hownA (by unfold maxLen; omega) _ _ (kS key) rfl rfl hkey (dI (atF h fr)) [] (plainElem_int Tryz.underlying3 hwf) ?_; intro w5 hown3 hg3; replace xb := grown_heap hg3 xb (by intro q; injection q with q; omega); have z1 := blk4 xb; have L3 := look_int hown3 (hH.put kS_inj kS_is (ksz kk) (atF h fr)) (ksz kk); rw [atF_same] at L3; simp only [Act.put]) | (go_at_call 37; refine (rvalue_any _ _).mono ?_; rw [hvb]; rintro e w9 ⟨rfl, rfl⟩))
              refine ⟨⟨k + 1, by omega, by go_num, m2 + 1, _, _, hown3, (hH.put kS_inj kS_is (ksz kk) (atF h fr)), (hhv.put key hvb), RS.out, by omega, (EA.grown hg3 (fun j hj => by injection hj with hj; omega))⟩, ?_⟩
              simp [intOf] <;> omega
            · clear kv kp kfr
              have hvb : valB (atF h key) = true := valB_iff.2 hb1
              by_cases hlt4 : atF h key < z
              · have BF := hid (HBD.out (by simp [doV]; omega))
                go_wp2
                go_ret2
                refine ⟨b, ?_, n, D, ownsMap_ext HOWN.out (E0.trans EA), g, hF, BF.out.1.symm, hfv, by omega, E0.trans EA⟩
                rw [BF.out.2]; rfl
              · have RS := hid (show runV (atF g) (d.take (k + 1)) = some (atF h) by rw [HST.out]; simp [doV]; omega)
                go_wp2_with fail
                refine (rvalue_any _ _).mono ?_
                rw [hvb]
                rintro e w9 ⟨rfl, rfl⟩
                go_wp2
                go_roundw
                case rel => exact ⟨k + 1, by omega, by go_num, m2, _, _, hownA, hH, hhv, RS.out, by omega, EA⟩
                case measure => simp [intOf] <;> omega
            · have kf := kfr (by omega)
              have kv1 := kv (by omega)
              have kp1 := kp (by omega)
              have LF := look_int hownA hH (ksz kf.1)
              have hkf := WideMaps.keyOf_string_mk Tryz.underlying9 (P := Tryz.prog) (k := 9) (s := fr) (ksz kf.1)
              by_cases hlt5 : atF h fr < z
              · have BF := hid (HBD.out (by simp [doV, hlt5]))
                clear kv kp kfr kf
                go_wp2
                go_ret2
                refine ⟨b, ?_, n, D, ownsMap_ext HOWN.out (E0.trans EA), g, hF, BF.out.1.symm, hfv, by omega, E0.trans EA⟩
                rw [BF.out.2]; rfl
              · have hwf : (Lit.int .i64 (atF h fr - z)).wf = true := WalkArith.wf_i64 (by omega)
                have hwf2 : (Lit.int .i64 (atF h key + z)).wf = true := WalkArith.wf_i64 (by omega)
                have hvf : valB (atF h fr - z) = true := valB_iff.2 (by omega)
                have H1 := hid (hH.put kS_inj kS_is (ksz kf.1) (atF h fr - z))
                have A1 := hid (show atF (fun x => if x = fr then some (atF h fr - z) else h x) key = atF h key by rw [atF_put]; unfold setV; rw [if_neg kf.2])
                clear kv kp kfr
                cases hvb : valB (atF h key + z) with
                | true =>
                  have RS := hid (show runV (atF g) (d.take (k + 1)) = some (atF (fun x => if x = key then some (atF h key + z) else (fun x => if x = fr then some (atF h fr - z) else h x) x)) by rw [HST.out, atF_put, atF_put]; simp [doV, hvb, hlt5])
                  go_wp2_with (first | (at_mapUpdate; refine wpList_mapUpdate_own _ rfl _ _ _ 38 rfl 9 3 lawS Tryz.underlying38 _ w0.heap.size m2 _ rfl hownA (by unfold maxLen; omega) _ _ (kS fr) rfl rfl hkf (dI (atF h fr - z)) [] (plainElem_int Tryz.underlying3 hwf) ?_; intro w5 hown3 hg3; replace xb := grown_heap hg3 xb (by intro q; injection q with q; omega); have z1 := blk4 xb; have L3 := look_int hown3 H1.out (ksz kk); rw [A1.out] at L3; simp only [Act.put]) | (at_mapUpdate; refine wpList_mapUpdate_own _ rfl _ _ _ 38 rfl 9 3 lawS Tryz.underlying38 _ w0.heap.size (m2 + 1) _ rfl hown3 (by unfold maxLen; omega) _ _ (kS key) rfl rfl hkey (dI (atF h key + z)) [] (plainElem_int Tryz.underlying3 hwf2) ?_; intro w6 hown4 hg4; replace xb := grown_heap hg4 xb (by intro q; injection q with q; omega); have z2 := blk4 xb; have L4 := look_int hown4 (H1.out.put kS_inj kS_is (ksz kk) (atF h key + z)) (ksz kk); rw [atF_same] at L4; simp only [Act.put]) | (go_at_call 37; refine (rvalue_any _ _).mono ?_; rw [hvb]; rintro e w9 ⟨rfl, rfl⟩))
                  refine ⟨⟨k + 1, by omega, by go_num, m2 + 2, _, _, hown4, (H1.out.put kS_inj kS_is (ksz kk) (atF h key + z)), ((hhv.put fr hvf).put key hvb), RS.out, by omega, ((EA.grown hg3 (fun j hj => by injection hj with hj; omega)).grown hg4 (fun j hj => by injection hj with hj; omega))⟩, ?_⟩
                  simp [intOf] <;> omega
                | false =>
                  have BF := hid (HBD.out (by simp [doV, hvb, hlt5]))
                  go_wp2_with (first | (at_mapUpdate; refine wpList_mapUpdate_own _ rfl _ _ _ 38 rfl 9 3 lawS Tryz.underlying38 _ w0.heap.size m2 _ rfl hownA (by unfold maxLen; omega) _ _ (kS fr) rfl rfl hkf (dI (atF h fr - z)) [] (plainElem_int Tryz.underlying3 hwf) ?_; intro w5 hown3 hg3; replace xb := grown_heap hg3 xb (by intro q; injection q with q; omega); have z1 := blk4 xb; have L3 := look_int hown3 H1.out (ksz kk); rw [A1.out] at L3; simp only [Act.put]) | (at_mapUpdate; refine wpList_mapUpdate_own _ rfl _ _ _ 38 rfl 9 3 lawS Tryz.underlying38 _ w0.heap.size (m2 + 1) _ rfl hown3 (by unfold maxLen; omega) _ _ (kS key) rfl rfl hkey (dI (atF h key + z)) [] (plainElem_int Tryz.underlying3 hwf2) ?_; intro w6 hown4 hg4; replace xb := grown_heap hg4 xb (by intro q; injection q with q; omega); have z2 := blk4 xb; have L4 := look_int hown4 (H1.out.put kS_inj kS_is (ksz kk) (atF h key + z)) (ksz kk); rw [atF_same] at L4; simp only [Act.put]) | (go_at_call 37; refine (rvalue_any _ _).mono ?_; rw [hvb]; rintro e w9 ⟨rfl, rfl⟩))
                  go_ret2
                  refine ⟨b, n, D, g, ?_, ownsMap_ext HOWN.out (E0.trans ((EA.grown hg3 (fun j hj => by injection hj with hj; omega)).grown hg4 (fun j hj => by injection hj with hj; omega))), hF, BF.out.1.symm, hfv, by omega, E0.trans ((EA.grown hg3 (fun j hj => by injection hj with hj; omega)).grown hg4 (fun j hj => by injection hj with hj; omega))⟩
                  rw [BF.out.2]; rfl
        · obtain rfl : k = d.length := by omega
          rw [List.take_length] at hrun
          have hres := hid (show stepV (atF g) d = atF h ∧ okV (atF g) d = true by unfold stepV okV; rw [hrun]; exact ⟨rfl, rfl⟩)
          clear hrun
          go_wp2
          go_ret2
          refine ⟨w0.heap.size, m2, Do2, h, ?_, hown2, hH, hres.out.1.symm, hhv, hm2, E0.trans Es⟩
          rw [hres.out.2]; rfl
    · intro x c w1 cnt1 hwx hwc hlx hfx hrg1 hlt hg1 hs1 hen
      have hst := hid (cp_step hlr hfx)
      have hog1 := hog.kept hg1 (by intro q; injection q with q; omega)
      have Er1 := Er.grown hg1 (fun k hk => by injection hk with hk; omega)
      have hkey := WideMaps.keyOf_string_mk Tryz.underlying9 (P := Tryz.prog) (k := 9) (s := x) hwx
      have hml : m < 100000001 := by omega
      clear hlr hog
      go_wp2_with (first
        | (at_mapUpdate; refine wpList_mapUpdate_own _ rfl _ _ _ 38 rfl 9 3 lawS Tryz.underlying38 _ w0.heap.size m Do rfl hog1 (by unfold maxLen; omega) _ _ (kS x) rfl rfl hkey (dI c) [] (plainElem_int Tryz.underlying3 hwc) ?_; intro w4 hog2 hg2))
      simp only [Act.put]
      go_roundw
      case rel =>
        have hs0 := HS0.out
        exact ⟨_, cnt1, m + 1, _, _, hrg1.kept hg2 (by intro q; injection q with q; omega) (by intro q; injection q with q; omega), hog2, hG.put kS_inj kS_is hwx c, hst.out, by omega, Er1.grown hg2 (fun k hk => by injection hk with hk; omega)⟩
      case measure =>
        have hs0 := HS0.out
        have hrg4 := hrg1.kept hg2 (by intro q; injection q with q; omega) (by intro q; injection q with q; omega)
        rw [hrg4.left_eq, hrg.left_eq]; exact hlt
end Go.Proofs.YtimchedebcoohaaGreatDoor
