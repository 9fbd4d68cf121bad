/- Contracts and lemmas for the proof of PartsPlay; each theorem states its own conditions. -/
import Derived.Test.YtimchedebcoohaaGreatDoorQPartsPlaybt
import Derived.Test.YtimchedebcoohaaGreatDoorQPartsPlayaz
import Derived.Test.YtimchedebcoohaaGreatDoorQPartsPlaybo
import Derived.Test.YtimchedebcoohaaGreatDoorQPartsPlayad
set_option linter.unusedVariables false
set_option linter.unusedSimpArgs false
/- Contracts and lemmas for the proofs of this seat; each theorem states its own conditions. -/
namespace Go.Proofs.YtimchedebcoohaaGreatDoor
open Go.RowKit Go.Maps
/-! the document's Whose, Owned -/
set_option maxRecDepth 100000 in
set_option maxHeartbeats 2000000 in
theorem rwhose_any (v : Value) (C : List ByteArray) (O : List Int) (key : ByteArray) (w : World) (hv : IsMap w v C O) (hs : srt C) (hl : O.length = C.length + 1) (h12 : C.length ≤ 12) :
    Calls Tryz.prog 17 #[v, .string key] w fun e w' => e = .returned (.int .i64 (whose C O key)) ∧ Ext w w' := by
  obtain ⟨a1, k1, a2, k2, rfl, m1, m2⟩ := hv.unpack
  have b0 := heap_alloc_new w (.cells #[.slice a1 C.length k1, .slice a2 O.length k2] 25)
  have E0 := (Ext.refl w).alloc (.cells #[.slice a1 C.length k1, .slice a2 O.length k2] 25)
  have xb := blk2 b0
  obtain ⟨bO, oO, rfl, _, _, _, hcO⟩ := seg_cells m2 (by omega)
  have y0 := E0.cell (hcO 0 _ (cI_at0 O 0 (by omega)))
  rw [Nat.add_zero] at y0
  have HO := hid hcO
  have HC := hid m1
  have HP := hid (plc_cut hs key)
  have HW := hid (show whose C O key = O.getD (plc C key) 0 from rfl)
  have HG0 := hid (show O[0]'(by omega) = O.getD (min 0 (plc C key)) 0 by simp [show 0 < O.length by omega])
  have HL := hid hl
  have hl1 : 0 < O.length := by omega
  obtain ⟨w0, hw0⟩ : ∃ w0, w.alloc (.cells #[.slice a1 C.length k1, .slice (some ⟨bO, oO, none⟩) O.length k2] 25) = w0 := ⟨_, rfl⟩
  rw [hw0] at b0 E0 xb y0
  generalize O[0]'(by omega) = z0 at y0 HG0
  clear m1 m2 hv hcO hl b0
  go_enter Tryz.func17, Tryz.ntmps17
  go_wp2_with fail
  clear hw0
  go_loopw [5, 6, 7, 15] (fun nv _ _ iv wr => ∃ j : Nat, j ≤ C.length ∧ iv = .int .i64 j ∧ nv = .int .i64 (O.getD (min j (plc C key)) 0) ∧ Ext w0 wr) (fun _ _ _ iv _ => C.length - (intOf iv).toNat)
  case atStart => exact ⟨0, Nat.zero_le _, rfl, by rw [HG0.out], Ext.refl _⟩
  case round =>
    obtain ⟨wo, rfl⟩ : ∃ wo : World, wo = wr := ⟨_, rfl⟩
    obtain ⟨j, hj, rfl, rfl, E⟩ := hrel
    by_cases hlt : j < C.length
    · obtain ⟨b, off, rfl, _, g1, g2, hc⟩ := seg_cells HC.out (by omega)
      unfold maxLen at g2
      have c0 := E.cell (E0.cell (hc j _ (cS_at0 C j hlt)))
      have hjO : j + 1 < O.length := by have := HL.out; omega
      have c1 := E.cell (E0.cell (HO.out (j + 1) _ (cI_at0 O (j + 1) hjO)))
      have cb := E.cell xb.2.1
      have HLE := hid (show leAt C key j = !(blt key C[j]) by unfold leAt; rw [kAt_eq hlt])
      have HN := hid (show O.getD (j + 1) 0 = O[j + 1] by simp [hjO])
      have hstep := HP.out.2
      have HST := hid (And.intro (hstep.1 j) (fun h => hstep.2 j h hlt))
      clear hc hstep
      generalize C[j] = k at c0 HLE
      generalize O[j + 1] = z1 at c1 HN
      cases hb : blt key k with
      | true =>
        have HM := hid (show min (j + 1) (plc C key) = min j (plc C key) by
          have : ¬ j < plc C key := fun h => by have := HST.out.1 h; rw [HLE.out, hb] at this; cases this
          omega)
        have f0 : Op.bytesLess key.toList k.toList = true := hb
        clear hb
        go_wp2
        go_roundw
        case rel => exact ⟨j + 1, by omega, by go_num, by rw [HM.out], E⟩
        case measure => simp [intOf] <;> omega
      | false =>
        have HM := hid (show O.getD (min (j + 1) (plc C key)) 0 = z1 by
          have : j < plc C key := by
            by_cases q : j < plc C key
            · exact q
            · have := HST.out.2 (by omega); rw [HLE.out, hb] at this; cases this
          rw [show min (j + 1) (plc C key) = j + 1 by omega, HN.out])
        have f0 : Op.bytesLess key.toList k.toList = false := hb
        clear hb
        go_wp2
        go_roundw
        case rel => exact ⟨j + 1, by omega, by go_num, by rw [HM.out], E⟩
        case measure => simp [intOf] <;> omega
    · obtain rfl : j = C.length := by omega
      have HE := hid (show min C.length (plc C key) = plc C key by have := HP.out.1; omega)
      go_wp2
      go_ret
      exact ⟨rI (by rw [HW.out, HE.out]), E0.trans E⟩
/-- those of one owner, so far -/
def OwRel (w0 : World) (b bo r n : Nat) (D : DU) (f : ByteArray → Option Int) (p : ByteArray → Bool) (wr : World) : Prop :=
  ∃ (left : Lit → Bool) (cnt m : Nat) (Do : DU) (g : ByteArray → Option Int), wr.ranges Tryz.prog 9 (plainElem Tryz.prog 3) b r n D left cnt ∧ wr.ownsMap Tryz.prog 9 (plainElem Tryz.prog 3) bo m Do ∧ MapF kS okS dI Do g ∧
    (∀ x, okS x → (left (kS x) = true → g x = none) ∧ (left (kS x) = false → g x = if p x = true then f x else none)) ∧ m + cnt ≤ n ∧ Ext w0 wr
theorem ow_hit {f g : ByteArray → Option Int} {left : Lit → Bool} {p : ByteArray → Bool} {x : ByteArray} {c : Int} (h : ∀ x, okS x → (left (kS x) = true → g x = none) ∧ (left (kS x) = false → g x = if p x = true then f x else none)) (hf : f x = some c) (hp : p x = true) :
    ∀ y, okS y → ((left (kS y) && !(kS y).sameKey (kS x)) = true → (if y = x then some c else g y) = none) ∧ ((left (kS y) && !(kS y).sameKey (kS x)) = false → (if y = x then some c else g y) = if p y = true then f y else none) := by
  intro y hy
  by_cases e : y = x
  · subst e
    rw [sameKey_self]
    simp [hf, hp]
  · rw [sameKey_kS e, if_neg e]
    simpa using h y hy
theorem ow_miss {f g : ByteArray → Option Int} {left : Lit → Bool} {p : ByteArray → Bool} {x : ByteArray} (h : ∀ x, okS x → (left (kS x) = true → g x = none) ∧ (left (kS x) = false → g x = if p x = true then f x else none)) (hx : okS x) (hl : left (kS x) = true) (hp : p x = false) :
    ∀ y, okS y → ((left (kS y) && !(kS y).sameKey (kS x)) = true → g y = none) ∧ ((left (kS y) && !(kS y).sameKey (kS x)) = false → g y = if p y = true then f y else none) := by
  intro y hy
  by_cases e : y = x
  · subst e
    rw [sameKey_self]
    simp [hp, (h y hx).1 hl]
  · rw [sameKey_kS e]
    simpa using h y hy
set_option maxRecDepth 10000 in
set_option maxHeartbeats 4000000 in
theorem rowned_any (v : Value) (C : List ByteArray) (O : List Int) (b n : Nat) (D : DU) (f : ByteArray → Option Int) (owner : Int) (w : World) (hv : IsMap w v C O) (ok : MapOk C O) (hown : w.ownsMap Tryz.prog 9 (plainElem Tryz.prog 3) b n D) (hF : MapF kS okS dI D f) (hn : n ≤ 100000000) :
    Calls Tryz.prog 28 #[v, .map (some b), .int .i64 owner] w fun e w' => ∃ b' n' D', e = .returned (.map (some b')) ∧ w'.ownsMap Tryz.prog 9 (plainElem Tryz.prog 3) b' n' D' ∧ MapF kS okS dI D' (fun x => if whose C O x = owner then f x else none) ∧ n' ≤ n ∧ Ext w w' := by
  obtain ⟨a1, k1, a2, k2, rfl, _, _⟩ := hv.unpack
  have hbl := hown.lt
  have hsz := own_size hown
  have b0 := heap_alloc_new w (.cells #[.slice a1 C.length k1, .slice a2 O.length k2] 25)
  have E0 := (Ext.refl w).alloc (.cells #[.slice a1 C.length k1, .slice a2 O.length k2] 25)
  obtain ⟨w0, hw0⟩ : ∃ w0, w.alloc (.cells #[.slice a1 C.length k1, .slice a2 O.length k2] 25) = w0 := ⟨_, rfl⟩
  have hs0 : w0.heap.size = w.heap.size + 1 := by rw [← hw0]; simp
  rw [hw0] at b0 E0
  have y0 := blk2 b0
  have WH := hid (fun (x : ByteArray) (w' : World) (q : Ext w0 w') => rwhose_any _ C O x w' (hv.ext (E0.trans q)) ok.srt ok.len ok.few)
  have hown0 := ownsMap_ext hown E0
  have hmm := @run_makeMap Tryz.prog
  have bm := World.ownsMap_made w0 Tryz.prog 9 (plainElem (H := Unit) Tryz.prog 3)
  have Em := (Ext.refl w0).alloc (.map #[] 0)
  have hown1 := ownsMap_ext hown0 Em
  have HS0 := hid hs0
  clear hv hs0 b0 hown hown0
  go_enter Tryz.func28, Tryz.ntmps28
  go_wp2_with (first
    | (at_range; refine wpList_range_own _ rfl _ 38 rfl 9 3 lawS Tryz.underlying38 _ b n _ rfl hown1 ?_; intro w3 hrg0 hg0 hs3; simp only [World.size_alloc] at hrg0 ⊢)
    | go_in)
  go_frame
  have E3 := ext_of_grown hg0
  have bm3 := ownsMap_ext bm E3
  have E30 := Em.trans E3
  clear E3 Em bm hg0 hs3 hown1 hmm hw0
  go_loopw [8, 9] (fun _ _ wr => OwRel w0 b w0.heap.size (w0.heap.size + 1) n D f (fun x => decide (whose C O x = owner)) wr) (fun _ _ wr => wr.rangeLeft b (w0.heap.size + 1))
  case atStart =>
    refine ⟨_, _, 0, _, fun _ => none, by simpa using hrg0, bm3, MapF.empty, fun x hx => ⟨fun _ => rfl, fun h => ?_⟩, by simpa using hsz, E30⟩
    rw [hF.has hx] at h
    cases hf : f x with
    | none => simp
    | some c => rw [hf] at h; cases h
  case round =>
    clear hrg0 bm3 E30
    obtain ⟨wo, rfl⟩ : ∃ wo : World, wo = wr := ⟨_, rfl⟩
    obtain ⟨left, cnt, m, Do, g, hrg, hog, hG, hlr, hmc, Er⟩ := hrel
    have yo := Er.cell y0.1
    have yp := Er.cell y0.2.1
    go_wp2_with (first
      | (at_next; refine wpList_next_si _ rfl _ rfl 9 3 lawS Tryz.underlying9 Tryz.underlying3 b (w0.heap.size + 1) n D f hF _ _ rfl hrg ?_ ?_)
      | go_in)
    · intro hl0
      have hgf : g = fun x => if whose C O x = owner then f x else none := by
        funext x
        by_cases hx : okS x
        · have := (hlr x hx).2 (hl0 _)
          rw [this]
          by_cases q : whose C O x = owner <;> simp [q]
        · have h2 : f x = none := by
            cases h2 : f x with
            | none => rfl
            | some c => exact absurd (hF.2.1 x c h2) hx
          rw [h2, ite_self]
          cases h1 : g x with
          | some c => exact absurd (hG.2.1 x c h1) hx
          | none => rfl
      have HGF := hid hgf
      have HG := hid hG
      have HEE := hid (E0.trans Er)
      clear hgf hG hlr hl0 hrg
      go_wp2
      go_ret
      exact ⟨_, m, Do, rfl, hog, HGF.out ▸ HG.out, by omega, HEE.out⟩
    · intro x c w1 cnt1 hwx hwc hlx hfx hrg1 hlt hg1 hs1 hen
      have hog1 := hog.kept hg1 (by intro q; injection q with q; omega)
      have Er1 := Er.grown hg1 (fun k hk => by injection hk with hk; omega)
      have y1 := Er1.cell y0.1
      have y2 := Er1.cell y0.2.1
      have hkey := WideMaps.keyOf_string_mk Tryz.underlying9 (P := Tryz.prog) (k := 9) (s := x) hwx
      have hml : m < 100000001 := by omega
      have WH1 := hid (WH.out x w1 Er1)
      by_cases hp : whose C O x = owner
      · have hst := hid (ow_hit (p := fun x => decide (whose C O x = owner)) hlr hfx (by simp [hp]))
        have qw : (whose C O x == owner) = true := by simp [hp]
        clear hlr hog hp
        generalize whose C O x = wz at WH1 qw
        go_wp2_with (first
          | (go_at_call 17; refine (WH1.out).mono ?_; rintro e w2 ⟨rfl, E2⟩; have hog2' := ownsMap_ext hog1 E2; have hrg2 := ranges_ext hrg1 E2; have Er2 := Er1.trans E2)
          | (at_mapUpdate; refine wpList_mapUpdate_own _ rfl _ _ _ 38 rfl 9 3 lawS Tryz.underlying38 _ w0.heap.size m Do rfl hog2' (by unfold maxLen; omega) _ _ (kS x) rfl rfl hkey (dI c) [] (plainElem_int Tryz.underlying3 hwc) ?_; intro w4 hog2 hg2))
        simp only [Act.put]
        go_roundw
        case rel =>
          have hs0 := HS0.out
          exact ⟨_, cnt1, m + 1, _, _, hrg2.kept hg2 (by intro q; injection q with q; omega) (by intro q; injection q with q; omega), hog2, hG.put kS_inj kS_is hwx c, hst.out, by omega, Er2.grown hg2 (fun k hk => by injection hk with hk; omega)⟩
        case measure =>
          have hs0 := HS0.out
          have hrg4 := hrg2.kept hg2 (by intro q; injection q with q; omega) (by intro q; injection q with q; omega)
          rw [hrg4.left_eq, hrg.left_eq]; exact hlt
      · have hst := hid (ow_miss (p := fun x => decide (whose C O x = owner)) hlr hwx hlx (by simp [hp]))
        have qw : (whose C O x == owner) = false := by simpa using hp
        clear hlr hog hp
        generalize whose C O x = wz at WH1 qw
        go_wp2_with (first
          | (go_at_call 17; refine (WH1.out).mono ?_; rintro e w2 ⟨rfl, E2⟩; have hog2' := ownsMap_ext hog1 E2; have hrg2 := ranges_ext hrg1 E2; have Er2 := Er1.trans E2))
        go_roundw
        case rel => exact ⟨_, cnt1, m, _, _, hrg2, hog2', hG, hst.out, by omega, Er2⟩
        case measure => rw [hrg2.left_eq, hrg.left_eq]; exact hlt
end Go.Proofs.YtimchedebcoohaaGreatDoor
