/- Contracts and lemmas for the proof of TopPlan; each theorem states its own conditions. -/
import Derived.Test.YtimchedebcoohaaGreatQTopPlanas
import Derived.Test.YtimchedebcoohaaGreatQTopPlanah
set_option linter.unusedVariables false
set_option linter.unusedSimpArgs false
/- Contracts and lemmas for the proofs of this seat; each theorem states its own conditions. -/
namespace Go.Proofs.YtimchedebcoohaaGreat
open Go.RowKit Go.Maps
/-! May, Ready, Left -/
theorem dok_at {A : List Ops} (h : ∀ d ∈ A, DeedOk d) {s : Nat} (hs : s < A.length) : DeedOk (A.getD s []) := by
  have : A.getD s [] = A[s] := by simp [hs]
  rw [this]; exact h _ (List.getElem_mem hs)
theorem may1_any {w : World} {B bt bk bd : Nat} {A : List Ops} {g : Nat → Bool} {F : ByteArray → Option SV} {G : Int → Option SV} (h : LockSt w B bt bk bd A g F G) (s b1 b2 : Nat) (key : ByteArray) (hk : okS key)
    (h1 : w.cell? ⟨b1, 0, none⟩ = some (.pointer (some ⟨bt, 0, none⟩))) (h2 : w.cell? ⟨b2, 0, none⟩ = some (.int .i64 s)) :
    Calls Tryz.prog 124 #[.string key, .pointer (some ⟨b1, 0, none⟩), .pointer (some ⟨b2, 0, none⟩)] w fun e w' => e = .returned (.bool (!holdsL (clmTo A g key A.length) s)) ∧ Ext w w' := by
  have HA := hid (holds_any h s key hk)
  clear h
  go_enter Tryz.func124, Tryz.ntmps124
  go_wp2_with fail
  refine (HA.out).mono ?_
  rintro e wa ⟨rfl, Ea⟩
  go_wp2
  go_ret
  exact ⟨rfl, Ea⟩
set_option maxRecDepth 10000 in
set_option maxHeartbeats 2000000 in
/-- May of one that is there -/
theorem may_ok {w : World} {B bt bk bd : Nat} {A : List Ops} {g : Nat → Bool} {F : ByteArray → Option SV} {G : Int → Option SV} (h : LockSt w B bt bk bd A g F G) (s : Nat) (hs : s < A.length) (hg : g s = false) :
    Calls Tryz.prog 105 #[.pointer (some ⟨bt, 0, none⟩), .int .i64 s] w fun e w' => e = .returned (.tuple #[.bool (mayB A g s), .int .i64 0]) ∧ Ext w w' := by
  obtain ⟨s0, hG, hrow⟩ := h.rows s hs hg
  obtain ⟨n, D, hmap, hn, hF, _⟩ := h.dm
  have hbox := h.box
  have hfew := h.few
  have hokI : okI (s : Int) := WalkArith.wf_i64 (by omega)
  have hkey := keyOf_int_mk Tryz.underlying3 (P := Tryz.prog) (k := 3) hokI
  have hzero := fun w => Tryz.zeroValue23 w
  have E0 := ((Ext.refl w).alloc (.cells #[.pointer (some ⟨bt, 0, none⟩)] 131)).alloc (.cells #[.int .i64 s] 3)
  have y1 := cell_of_one (heap_1 w (.cells #[.pointer (some ⟨bt, 0, none⟩)] 131) (.cells #[.int .i64 s] 3))
  have y2 := cell_of_one (heap_2 w (.cells #[.pointer (some ⟨bt, 0, none⟩)] 131) (.cells #[.int .i64 s] 3))
  have MB := hid (may_any' (A := A) hs hg (tkL_mem (A.getD s [])))
  have tk := fun k (hk : k ∈ tkL (A.getD s [])) => (tch_key (dok_at h.dok hs) ((tkL_mem _ k).1 hk) : keyB k = true)
  generalize tkL (A.getD s []) = L at hrow MB tk
  obtain ⟨ar, cr, hsv⟩ := own_form hrow
  generalize hw0 : (w.alloc (.cells #[.pointer (some ⟨bt, 0, none⟩)] 131)).alloc (.cells #[.int .i64 s] 3) = w0 at E0 y1 y2
  have CF := fun w2 (E2 : Ext w0 w2) => containsF_Str 124 #[.pointer (some ⟨w.heap.size, 0, none⟩), .pointer (some ⟨w.heap.size + 1, 0, none⟩)] (enters_of Tryz.func124 (by kernel_rfl) rfl) (fun k => !holdsL (clmTo A g k A.length) s) (svV s0) L w2 (own_seg (own_ext hrow (E0.trans E2)))
    (fun x hx w' E => may1_any (h.ext ((E0.trans E2).trans E)) s w.heap.size (w.heap.size + 1) x (by have := keyB_size (tk x hx); unfold okS maxLen; omega) ((E2.trans E).cell y1) ((E2.trans E).cell y2))
  rw [hsv] at CF
  have CF := hid CF
  have hmap0 := ownsMap_ext hmap E0
  have xt := E0.heap hbox
  have xt1 : w0.cell? ⟨bt, 1, none⟩ = some (.map (some bd)) := by simp [World.cell?, xt]
  have HG := hid hG
  have hmf : ∀ (fn : Fn) (first cap : Array Value) (w : World), (Instr.makeFunc fn first cap).run Tryz.prog w = .ok (.func fn first cap) w := fun _ _ _ _ => rfl
  clear hG hrow hmap tk hbox xt h
  go_enter Tryz.func105, Tryz.ntmps105
  go_wp2_with fail
  refine wp_region_ph [.k (.pointer (some ⟨bt, 0, none⟩)), .k (.pointer (some ⟨bt, 0, none⟩)), .k (.pointer (some ⟨bt, 1, none⟩)), .k (.map (some bd)), .k (.int .i64 s), .k (.tuple #[.slice ar L.length cr, .bool true]), .k (.tuple #[.slice ar L.length cr, .bool true]), .k (.slice ar L.length cr), .k (.bool true)] [8] (by kernel_rfl) (by kernel_rfl) (by kernel_rfl) rfl rfl ?hs ?hC ?he
  case hC =>
    intro i hi
    simp only [List.mem_cons, List.not_mem_nil, or_false] at hi
    subst hi
    all_goals (
      intro o u ho hu
      simp [RS.k, RS.p, RS.t, RS.any] at ho hu
      subst ho; subst hu
      refine ⟨rfl, fun x w2 hd w3 => ?_⟩
      simp [PhDeps, at_k, at_p, at_t, at_any, Region.binds] at hd
      try ((with_reducible refine Exists.elim hd ?_); clear hd; intro y hd; obtain ⟨hd, hG⟩ := hd)
      simp [frL, hd, List.take_succ_cons, execOp, Act.eval, Frame.eval, Instr.extract])
  case hs =>
    refine ⟨?_, ?_, ?_, ?_, ?_, ?_, ?_, ?_, ?_, trivial⟩
    all_goals (
      intro x w' hE hd
      try simp [PhDeps, at_k, at_p, at_t, at_any, Region.binds] at hd
      try ((with_reducible refine Exists.elim hd ?_); clear hd; intro y hd; obtain ⟨hd, hG⟩ := hd)
      have d1 := hE.cell y1
      have d2 := hE.cell y2
      have d3 := hE.cell xt1
      have dm := ownsMap_ext hmap0 hE
      first | simp only [frL, List.length_cons, List.length_nil, List.take_succ_cons, List.take_zero, Nat.reduceAdd, Nat.zero_add, List.setIfInBounds_toArray, List.set_cons_zero, List.set_cons_succ, hd] | simp only [frL, List.length_cons, List.length_nil, List.take_succ_cons, List.take_zero, Nat.reduceAdd, Nat.zero_add, List.setIfInBounds_toArray, List.set_cons_zero, List.set_cons_succ]
      go_wp2_with (first | (at_lookup; refine wpList_lookup_sv_ok _ rfl _ _ 175 rfl 3 23 lawInt Tryz.underlying175 (hzero _) bd n D G hF rfl dm _ (s : Int) hokI rfl hkey ?_; simp only [HG.out, Option.getD_some, Option.isSome_some, hsv]))
      all_goals first
        | ((with_reducible refine phK ?_ ?_); (focus rfl); (repeat (first | (with_reducible assumption) | (with_reducible exact Ext.refl _) | (with_reducible refine Ext.drew ?_) | (with_reducible refine Ext.drewN ?_ _) | (with_reducible refine Ext.alloc ?_ _) | (with_reducible refine Ext.trans ?_ (by with_reducible assumption)))))
        | ((with_reducible refine phT rfl hG ?_); (repeat (first | (with_reducible assumption) | (with_reducible exact Ext.refl _) | (with_reducible refine Ext.drew ?_) | (with_reducible refine Ext.drewN ?_ _) | (with_reducible refine Ext.alloc ?_ _) | (with_reducible refine Ext.trans ?_ (by with_reducible assumption)))))
        | ((with_reducible refine phU hG ?_); (repeat (first | (with_reducible assumption) | (with_reducible exact Ext.refl _) | (with_reducible refine Ext.drew ?_) | (with_reducible refine Ext.drewN ?_ _) | (with_reducible refine Ext.alloc ?_ _) | (with_reducible refine Ext.trans ?_ (by with_reducible assumption)))))
        | (with_reducible exact phBox hE)
        | (with_reducible exact phRow hE))
  case he =>
    intro x w2 E2 hd
    simp [PhEnd, at_k, at_p, at_t, at_any] at hd
    simp only [frL, List.length_cons, List.length_nil, List.take_succ_cons, List.take_zero, Nat.reduceAdd, Nat.zero_add, List.setIfInBounds_toArray, List.set_cons_zero, List.set_cons_succ, hd, List.length_cons, List.length_nil, List.drop_succ_cons, List.drop_zero]
    clear hd
    clear hw0
    go_wp2_with fail
    refine (CF.out w2 E2).mono ?_
    rintro e wa ⟨rfl, Ea⟩
    go_wp2
    go_ret2
    exact ⟨rT2 (vB MB.out) rfl, (E0.trans E2).trans Ea⟩
set_option maxRecDepth 10000 in
set_option maxHeartbeats 2000000 in
/-- May of one that is not there -/
theorem may_none {w : World} {B bt bk bd : Nat} {A : List Ops} {g : Nat → Bool} {F : ByteArray → Option SV} {G : Int → Option SV} (h : LockSt w B bt bk bd A g F G) (z : Int) (hz : -9223372036854775808 ≤ z ∧ z ≤ 9223372036854775807) (hno : ∀ n : Nat, z = (n : Int) → n < A.length → g n = true) :
    Calls Tryz.prog 105 #[.pointer (some ⟨bt, 0, none⟩), .int .i64 z] w fun e w' => e = .returned (.tuple #[.bool false, .int .i64 4]) ∧ Ext w w' := by
  have hG : G z = none := h.nones z fun n e1 e2 e3 => by rw [hno n e1 e2] at e3; cases e3
  obtain ⟨n, D, hmap, hn, hF, _⟩ := h.dm
  have hbox := h.box
  have hokI : okI z := WalkArith.wf_i64 (by omega)
  have hkey := keyOf_int_mk Tryz.underlying3 (P := Tryz.prog) (k := 3) hokI
  have hzero := fun w => Tryz.zeroValue23 w
  have E0 := ((Ext.refl w).alloc (.cells #[.pointer (some ⟨bt, 0, none⟩)] 131)).alloc (.cells #[.int .i64 z] 3)
  have y1 := cell_of_one (heap_1 w (.cells #[.pointer (some ⟨bt, 0, none⟩)] 131) (.cells #[.int .i64 z] 3))
  have y2 := cell_of_one (heap_2 w (.cells #[.pointer (some ⟨bt, 0, none⟩)] 131) (.cells #[.int .i64 z] 3))
  generalize hw0 : (w.alloc (.cells #[.pointer (some ⟨bt, 0, none⟩)] 131)).alloc (.cells #[.int .i64 z] 3) = w0 at E0 y1 y2
  have hmap0 := ownsMap_ext hmap E0
  have xt := E0.heap hbox
  have xt1 : w0.cell? ⟨bt, 1, none⟩ = some (.map (some bd)) := by simp [World.cell?, xt]
  have HG := hid hG
  have hsv : svV none = .slice none 0 0 := rfl
  clear hG hmap hbox xt h hno
  go_enter Tryz.func105, Tryz.ntmps105
  go_wp2_with fail
  refine wp_region_ph [.k (.pointer (some ⟨bt, 0, none⟩)), .k (.pointer (some ⟨bt, 0, none⟩)), .k (.pointer (some ⟨bt, 1, none⟩)), .k (.map (some bd)), .k (.int .i64 z), .k (.tuple #[.slice none 0 0, .bool false]), .k (.tuple #[.slice none 0 0, .bool false]), .k (.slice none 0 0), .k (.bool false)] [8] (by kernel_rfl) (by kernel_rfl) (by kernel_rfl) rfl rfl ?hs ?hC ?he
  case hC =>
    intro i hi
    simp only [List.mem_cons, List.not_mem_nil, or_false] at hi
    subst hi
    all_goals (
      intro o u ho hu
      simp [RS.k, RS.p, RS.t, RS.any] at ho hu
      subst ho; subst hu
      refine ⟨rfl, fun x w2 hd w3 => ?_⟩
      simp [PhDeps, at_k, at_p, at_t, at_any, Region.binds] at hd
      try ((with_reducible refine Exists.elim hd ?_); clear hd; intro y hd; obtain ⟨hd, hG⟩ := hd)
      simp [frL, hd, List.take_succ_cons, execOp, Act.eval, Frame.eval, Instr.extract])
  case hs =>
    refine ⟨?_, ?_, ?_, ?_, ?_, ?_, ?_, ?_, ?_, trivial⟩
    all_goals (
      intro x w' hE hd
      try simp [PhDeps, at_k, at_p, at_t, at_any, Region.binds] at hd
      try ((with_reducible refine Exists.elim hd ?_); clear hd; intro y hd; obtain ⟨hd, hG⟩ := hd)
      have d1 := hE.cell y1
      have d2 := hE.cell y2
      have d3 := hE.cell xt1
      have dm := ownsMap_ext hmap0 hE
      first | simp only [frL, List.length_cons, List.length_nil, List.take_succ_cons, List.take_zero, Nat.reduceAdd, Nat.zero_add, List.setIfInBounds_toArray, List.set_cons_zero, List.set_cons_succ, hd] | simp only [frL, List.length_cons, List.length_nil, List.take_succ_cons, List.take_zero, Nat.reduceAdd, Nat.zero_add, List.setIfInBounds_toArray, List.set_cons_zero, List.set_cons_succ]
      go_wp2_with (first | (at_lookup; refine wpList_lookup_sv_ok _ rfl _ _ 175 rfl 3 23 lawInt Tryz.underlying175 (hzero _) bd n D G hF rfl dm _ z hokI rfl hkey ?_; simp only [HG.out, Option.getD_none, Option.isSome_none, hsv]))
      all_goals first
        | ((with_reducible refine phK ?_ ?_); (focus rfl); (repeat (first | (with_reducible assumption) | (with_reducible exact Ext.refl _) | (with_reducible refine Ext.drew ?_) | (with_reducible refine Ext.drewN ?_ _) | (with_reducible refine Ext.alloc ?_ _) | (with_reducible refine Ext.trans ?_ (by with_reducible assumption)))))
        | ((with_reducible refine phT rfl hG ?_); (repeat (first | (with_reducible assumption) | (with_reducible exact Ext.refl _) | (with_reducible refine Ext.drew ?_) | (with_reducible refine Ext.drewN ?_ _) | (with_reducible refine Ext.alloc ?_ _) | (with_reducible refine Ext.trans ?_ (by with_reducible assumption)))))
        | ((with_reducible refine phU hG ?_); (repeat (first | (with_reducible assumption) | (with_reducible exact Ext.refl _) | (with_reducible refine Ext.drew ?_) | (with_reducible refine Ext.drewN ?_ _) | (with_reducible refine Ext.alloc ?_ _) | (with_reducible refine Ext.trans ?_ (by with_reducible assumption)))))
        | (with_reducible exact phBox hE)
        | (with_reducible exact phRow hE))
  case he =>
    intro x w2 E2 hd
    simp [PhEnd, at_k, at_p, at_t, at_any] at hd
    simp only [frL, List.length_cons, List.length_nil, List.take_succ_cons, List.take_zero, Nat.reduceAdd, Nat.zero_add, List.setIfInBounds_toArray, List.set_cons_zero, List.set_cons_succ, hd, List.length_cons, List.length_nil, List.drop_succ_cons, List.drop_zero]
    clear hd
    clear hw0
    go_wp2
    go_ret2
    exact ⟨rT2 rfl rfl, E0.trans E2⟩
set_option maxRecDepth 10000 in
theorem left_any {w : World} {B bt bk bd : Nat} {A : List Ops} {g : Nat → Bool} {F : ByteArray → Option SV} {G : Int → Option SV} (h : LockSt w B bt bk bd A g F G) :
    Calls Tryz.prog 72 #[.pointer (some ⟨bt, 0, none⟩)] w fun e w' => e = .returned (.int .i64 (liveN g A.length)) ∧ w' = w := by
  obtain ⟨n, D, hmap, hn, hF, hsz⟩ := h.dm
  have hbox := h.box
  have xt1 : w.cell? ⟨bt, 1, none⟩ = some (.map (some bd)) := by simp [World.cell?, hbox]
  have HS := hid hsz
  clear hsz hbox h
  go_enter Tryz.func72, Tryz.ntmps72
  go_wp2_with (first | (at_len; refine wpList_len_own _ rfl _ 175 rfl 3 23 Tryz.underlying175 _ bd n D rfl hmap ?_))
  go_ret
  exact ⟨rI (by rw [HS.out]), rfl⟩
theorem infoI : (Tryz.prog.info? 3).map (fun i => (i.zero, i.size, i.bytes)) = some (some (.int .i64 0), 1, 8) := by kernel_rfl
theorem one_int (z : Int) : ∀ u ∈ [Value.int .i64 z], u.oneCell' = true := by
  intro u hu; simp at hu; subst hu; rfl
/-- numbers of deeds, as cells -/
def cN (l : List Nat) : List Value := l.map fun (n : Nat) => .int .i64 (n : Int)
theorem cN_app (a b : List Nat) : cN (a ++ b) = cN a ++ cN b := by simp [cN]
theorem ready_len (A : List Ops) (g : Nat → Bool) (n : Nat) : (readyL A g n).length ≤ n := by
  have := List.length_filter_le (fun s => !g s && mayB A g s) (List.range n)
  simpa [readyL] using this
set_option maxRecDepth 10000 in
set_option maxHeartbeats 2000000 in
theorem ready_any {w : World} {B bt bk bd : Nat} {A : List Ops} {g : Nat → Bool} {F : ByteArray → Option SV} {G : Int → Option SV} (h : LockSt w B bt bk bd A g F G) :
    Calls Tryz.prog 73 #[.pointer (some ⟨bt, 0, none⟩)] w fun e w' => ∃ v', e = .returned v' ∧ w'.ownsRow w.heap.size 3 1 v' (readyL A g A.length).length (cN (readyL A g A.length)) ∧ Ext w w' := by
  have hbox := h.box
  have hfew := h.few
  have xt2 : w.cell? ⟨bt, 2, none⟩ = some (.int .i64 A.length) := by simp [World.cell?, hbox]
  have hm : ((A.length : Nat) : Int).toNat = A.length := by omega
  clear hbox
  go_enter Tryz.func73, Tryz.ntmps73
  go_wp2
  go_loopw [3, 4, 5, 6, 11, 14] (fun o _ _ _ iv _ wr => ∃ k : Nat, k ≤ A.length ∧ iv = .int .i64 k ∧ wr.ownsRow w.heap.size 3 1 o (readyL A g k).length (cN (readyL A g k)) ∧ Ext w wr) (fun _ _ _ _ iv _ _ => A.length - (intOf iv).toNat)
  case atStart => exact ⟨0, Nat.zero_le _, rfl, World.ownsRow_nil _ _ _ _, Ext.refl _⟩
  case round =>
    obtain ⟨k, hk, rfl, ho, E⟩ := hrel
    obtain ⟨ao, co, rfl⟩ := own_form ho
    by_cases hlt : k < A.length
    · have hl := h.ext E
      have hrs := ready_succ A g k
      have lr := ready_len A g k
      have hgk : g k = true ∨ g k = false := by cases g k <;> simp
      rcases hgk with hgk | hgk
      · rw [hgk] at hrs
        have MN := hid (may_none hl k (by omega) (fun n e1 e2 => (show k = n by omega) ▸ hgk))
        have HR := hid (show readyL A g (k + 1) = readyL A g k by rw [hrs]; simp)
        generalize readyL A g k = R at ho HR lr
        clear hgk hrs
        go_wp2_with fail
        refine (MN.out).mono ?_
        rintro e wa ⟨rfl, Ea⟩
        go_wp2
        go_roundw
        case rel => exact ⟨k + 1, by omega, by go_num, by rw [HR.out]; exact own_ext ho Ea, E.trans Ea⟩
        case measure => simp [intOf]; omega
      · rw [hgk] at hrs
        have MK := may_ok hl k hlt hgk
        cases hm' : mayB A g k with
        | false =>
          rw [hm'] at hrs MK
          have MK := hid MK
          have HR := hid (show readyL A g (k + 1) = readyL A g k by rw [hrs]; simp)
          generalize readyL A g k = R at ho HR lr
          clear hgk hrs hm'
          go_wp2_with fail
          refine (MK.out).mono ?_
          rintro e wa ⟨rfl, Ea⟩
          go_wp2
          go_roundw
          case rel => exact ⟨k + 1, by omega, by go_num, by rw [HR.out]; exact own_ext ho Ea, E.trans Ea⟩
          case measure => simp [intOf]; omega
        | true =>
          rw [hm'] at hrs MK
          have MK := hid MK
          have HR := hid (show readyL A g (k + 1) = readyL A g k ++ [k] by rw [hrs]; simp)
          generalize readyL A g k = R at ho HR lr
          clear hgk hrs hm'
          go_wp2_with fail
          refine (MK.out).mono ?_
          rintro e wa ⟨rfl, Ea⟩
          have Ez := E.trans Ea
          have p1 : Seg (wa.alloc (.cells #[.int .i64 (k : Int)] 3)) (.slice (some ⟨wa.heap.size, 0, none⟩) 1 1) 1 1 [.int .i64 (k : Int)] := seg_one (heap_alloc_new wa _)
          have p2 := (own_ext ho Ea).alloc (.cells #[.int .i64 (k : Int)] 3)
          have p3 : w.heap.size ≤ (wa.alloc (.cells #[.int .i64 (k : Int)] 3)).heap.size := by have := Ez.size'; simp; omega
          go_wp2_with (first | (at_builtin; refine (wpList_app rfl _ _ 24 rfl w.heap.size 3 (.int .i64 0) 1 8 Tryz.underlying24 infoI rfl (by decide) _ R.length (cN R) rfl p2 _ 1 [.int .i64 (k : Int)] rfl p1 (one_int _) (by omega) (by unfold maxLen; omega) p3 ?_); intro v' w9 ho' hg))
          go_roundw
          case rel => exact ⟨k + 1, by omega, by go_num, by rw [HR.out, List.length_append, cN_app]; exact ho', (Ez.alloc _).grown hg (fun k hk => own_ge p2 k hk)⟩
          case measure => simp [intOf]; omega
    · obtain rfl : k = A.length := by omega
      go_wp2
      go_ret
      exact ⟨_, rfl, ho, E⟩
end Go.Proofs.YtimchedebcoohaaGreat
