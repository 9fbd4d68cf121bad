/- Contracts and lemmas for the proof of TopPlan; each theorem states its own conditions. -/
import Derived.Test.YtimchedebcoohaaGreatQTopPlanbo
import Derived.Test.YtimchedebcoohaaGreatQTopPlanah
import Derived.Test.YtimchedebcoohaaGreatQTopPlanba
set_option linter.unusedVariables false
set_option linter.unusedSimpArgs false
/- Contracts and lemmas for the proofs of this seat; each theorem states its own conditions. -/
namespace Go.Proofs.YtimchedebcoohaaGreat
open Go.RowKit Go.Maps
/-! Free of one that may go on -/
set_option maxRecDepth 100000 in
set_option maxHeartbeats 2000000 in
theorem free_ok {w : World} {B bt bk bd : Nat} {A : List Ops} {g : Nat → Bool} {F : ByteArray → Option SV} {G : Int → Option SV} (h : LockSt w B bt bk bd A g F G) (s : Nat) (hs : s < A.length) (hg : g s = false) (hm : mayB A g s = true) :
    Calls Tryz.prog 74 #[.pointer (some ⟨bt, 0, none⟩), .int .i64 s] w fun e w' => e = .returned (.int .i64 0) ∧ (∃ F' G', LockSt w' B bt bk bd A (goneW g s) F' G') ∧ TFr B bt bk bd w w' := by
  have E0 := (Ext.refl w).alloc (.cells #[.int .i64 s] 3)
  have y1 := heap_alloc_new w (.cells #[.int .i64 s] 3)
  have MN := may_ok (h.ext E0) s hs hg
  rw [hm] at MN
  have MN := hid MN
  have hfew := h.few
  have hokI : okI (s : Int) := WalkArith.wf_i64 (by omega)
  have hkeyI := keyOf_int_mk Tryz.underlying3 (P := Tryz.prog) (k := 3) hokI
  have hzero := fun w => Tryz.zeroValue23 w
  have hzeroK := fun w => Tryz.zeroValue178 w
  have hmf : ∀ (fn : Fn) (first cap : Array Value) (w : World), (Instr.makeFunc fn first cap).run Tryz.prog w = .ok (.func fn first cap) w := fun _ _ _ _ => rfl
  clear hm
  go_enter Tryz.func74, Tryz.ntmps74
  go_wp2_with fail
  refine (MN.out).mono ?_
  rintro e w1 ⟨rfl, E1⟩
  clear MN
  have hl := h.ext (E0.trans E1)
  have T1 := hid (TFr.of_ext (B := B) (bt := bt) (bk := bk) (bd := bd) (E0.trans E1))
  replace y1 := E1.heap y1
  have c1 := cell_of_one y1
  have H := hid h
  clear h E0 E1
  obtain ⟨bs, hbs⟩ : ∃ bs, w.heap.size = bs := ⟨_, rfl⟩
  rw [hbs] at y1 c1
  obtain ⟨s0, hG, hrow⟩ := hl.rows s hs hg
  obtain ⟨nd, Dd, hmapd, hnd, hFd, hszd⟩ := hl.dm
  have hbox := hl.box
  have xt1 : w1.cell? ⟨bt, 1, none⟩ = some (.map (some bd)) := by simp [World.cell?, hbox]
  have hLlen := tkL_len (dok_at hl.dok hs).hi
  have tk := fun k (hk : k ∈ tkL (A.getD s [])) => (tch_key (dok_at hl.dok hs) ((tkL_mem _ k).1 hk) : keyB k = true)
  have hAll := fun k => clF_all A g s k
  obtain ⟨L, hL⟩ : ∃ L, tkL (A.getD s []) = L := ⟨_, rfl⟩
  rw [hL] at hrow hLlen tk hAll
  obtain ⟨ar, cr, hsv⟩ := own_form hrow
  rw [hsv] at hrow
  have HG := hid hG
  have HSV := hid hsv
  have HALL := hid hAll
  have TK := hid tk
  clear hG hL hsv hAll tk
  go_wp2_with fail
  refine wp_region_ph [.k (.pointer (some ⟨bt, 0, none⟩)), .k (.pointer (some ⟨bt, 0, none⟩)), .k (.pointer (some ⟨bt, 1, none⟩)), .k (.map (some bd)), .k (.int .i64 s), .k (.slice ar L.length cr), .k (.int .i64 L.length), .k (.int .i64 0)] [] (by kernel_rfl) (by kernel_rfl) (by kernel_rfl) rfl rfl ?hs ?hC ?he
  case hC =>
    intro i hi
    simp at hi
  case hs =>
    refine ⟨?_, ?_, ?_, ?_, ?_, ?_, ?_, ?_, trivial⟩
    all_goals (
      intro x w' hE hd
      try simp [PhDeps, at_k, at_p, at_t, at_any, Region.binds] at hd
      try ((with_reducible refine Exists.elim hd ?_); clear hd; intro y hd; obtain ⟨hd, hG⟩ := hd)
      have d2 := hE.cell c1
      have d3 := hE.cell xt1
      have dm := ownsMap_ext hmapd hE
      first | simp only [frL, List.length_cons, List.length_nil, List.take_succ_cons, List.take_zero, Nat.reduceAdd, Nat.zero_add, List.setIfInBounds_toArray, List.set_cons_zero, List.set_cons_succ, hd] | simp only [frL, List.length_cons, List.length_nil, List.take_succ_cons, List.take_zero, Nat.reduceAdd, Nat.zero_add, List.setIfInBounds_toArray, List.set_cons_zero, List.set_cons_succ]
      go_wp2_with (first | (at_lookup; refine wpList_lookup_sv _ rfl _ _ 175 rfl 3 23 lawInt Tryz.underlying175 (hzero _) bd nd Dd G hFd rfl dm _ (s : Int) hokI rfl hkeyI ?_; simp only [HG.out, Option.getD_some, HSV.out]))
      all_goals first
        | ((with_reducible refine phK ?_ ?_); (focus rfl); (repeat (first | (with_reducible assumption) | (with_reducible exact Ext.refl _) | (with_reducible refine Ext.drew ?_) | (with_reducible refine Ext.drewN ?_ _) | (with_reducible refine Ext.alloc ?_ _) | (with_reducible refine Ext.trans ?_ (by with_reducible assumption)))))
        | ((with_reducible refine phT rfl hG ?_); (repeat (first | (with_reducible assumption) | (with_reducible exact Ext.refl _) | (with_reducible refine Ext.drew ?_) | (with_reducible refine Ext.drewN ?_ _) | (with_reducible refine Ext.alloc ?_ _) | (with_reducible refine Ext.trans ?_ (by with_reducible assumption)))))
        | ((with_reducible refine phU hG ?_); (repeat (first | (with_reducible assumption) | (with_reducible exact Ext.refl _) | (with_reducible refine Ext.drew ?_) | (with_reducible refine Ext.drewN ?_ _) | (with_reducible refine Ext.alloc ?_ _) | (with_reducible refine Ext.trans ?_ (by with_reducible assumption)))))
        | (with_reducible exact phBox hE)
        | (with_reducible exact phRow hE))
  case he =>
    intro x w2 E2 hd
    simp [PhEnd, at_k, at_p, at_t, at_any] at hd
    simp only [frL, List.length_cons, List.length_nil, List.take_succ_cons, List.take_zero, Nat.reduceAdd, Nat.zero_add, List.setIfInBounds_toArray, List.set_cons_zero, List.set_cons_succ, hd, List.length_cons, List.length_nil, List.drop_succ_cons, List.drop_zero]
    clear hd
    have hl2 := hl.ext E2
    have HG2 := hid hl2.g
    have HL2 := hid hl2
    have T2 := hid ((T1.out).trans (TFr.of_ext E2))
    have y2 := E2.heap y1
    have hrow2 := own_ext hrow E2
    clear hrow y1 c1 xt1 hbox T1 hmapd hl hl2 E2
    obtain ⟨N0, hN0⟩ : ∃ N0, 32 * (A.length + (A.length - liveN g A.length)) = N0 := ⟨_, rfl⟩
    have HN0 := hid hN0
    have hN0' : N0 ≤ 4000 := by omega
    rw [hN0] at HG2
    clear hN0
    go_wp2_with fail
    go_loopw [8, 27] (fun _ iv wr => ∃ (j : Nat) (F' : ByteArray → Option SV), j ≤ L.length ∧ iv = .int .i64 j ∧ LockG wr B bt bk bd A g F' G (clF A g s (L.take j)) (N0 + j) A.length ∧ TFr B bt bk bd w2 wr) (fun _ iv _ => L.length - (intOf iv).toNat)
    case atStart => exact ⟨0, F, Nat.zero_le _, rfl, by rw [List.take_zero, clF_nil]; exact HG2.out, TFr.refl _⟩
    case round =>
      obtain ⟨wo, rfl⟩ : ∃ wo : World, wo = wr := ⟨_, rfl⟩
      obtain ⟨j, F', hj, rfl, hG', hT⟩ := hrel
      by_cases hlt : j < L.length
      · have hrow' := hT.ownG HG2.out hrow2 (by decide) (by decide)
        have y3 := hT.heapG HG2.out y2 (by decide) (by decide)
        obtain ⟨gr, cr', he, _, _⟩ := own_form_g hrow' (by omega)
        injection he with he1 _ he3
        subst he1; subst he3
        obtain ⟨_, _, he, _, _, _, hc⟩ := seg_cells (own_seg hrow') (by omega)
        injection he with he; injection he with he1 he2
        subst he1; subst he2
        have x0 := hc j (.string L[j]) (by simp [cS, hlt])
        rw [Nat.zero_add] at x0
        have c3 := cell_of_one y3
        have kj := TK.out L[j] (List.getElem_mem hlt)
        have hstep := clF_step A g s (L.take j) L[j]
        rw [← List.take_succ_eq_append_getElem hlt] at hstep
        have hcl := clF_len A g s (L.take j) L[j]
        clear hc
        generalize L[j] = key at x0 kj hstep hcl
        have HST := hid hstep
        clear hstep
        have hok : okS key := by have := keyB_size kj; unfold okS maxLen; omega
        have hkey := WideMaps.keyOf_string_mk Tryz.underlying9 (P := Tryz.prog) (k := 9) (s := key) hok
        obtain ⟨n, D, hmap, hn, hF⟩ := hG'.km
        have hbox := hG'.box
        have cbx : wo.cell? ⟨bt, 0, none⟩ = some (.map (some bk)) := by simp [World.cell?, hbox]
        have hown := hG'.keys key
        have hne := claim_ne_box hG' key
        have DF := fun w' (E : Ext wo w') => delF_K B 107 #[.pointer (some ⟨bs, 0, none⟩)] (enters_of Tryz.func107 (by kernel_rfl) rfl) (fun c => decide (c.1 = s)) (svV ((F' key).getD none)) (clF A g s (L.take j) key) w' (own_ext hown E) (by omega) (fun x _ w'' hg => free1_any x s bs w'' (cell_of_one (grown_heap hg (E.heap y3) (own_ne (own_ext hown E) (E.heap y3) (by decide)))))
        have DF := hid DF
        have HG' := hid hG'
        have HOW := hid hown
        clear hG' hown hcl
        go_wp2_with fail
        refine wp_region_turn (by kernel_rfl) (by kernel_rfl) (fun ii => match ii with | 0 => some (.pointer (some ⟨bt, 0, none⟩)) | 1 => some (.pointer (some ⟨bt, 0, none⟩)) | 2 => some (.pointer (some ⟨bt, 0, none⟩)) | 3 => some (.map (some bk)) | 4 => some (.string key) | 5 => some (.pointer (some ⟨bt, 0, none⟩)) | 6 => some (.pointer (some ⟨bt, 0, none⟩)) | 7 => some (.pointer (some ⟨bt, 0, none⟩)) | 8 => some (.map (some bk)) | 9 => some (.string key) | 10 => some (svV ((F' key).getD none)) | 11 => some (.func (.func 107) #[] #[.pointer (some ⟨bs, 0, none⟩)]) | _ => none) 12 13 (by decide) (by kernel_rfl) (by kernel_rfl) (fun w' => w'.heap[bt]? = some (.cells #[.map (some bk), .map (some bd), .int .i64 A.length] 177 (0, 0)) ∧ w'.ownsMap Tryz.prog 9 svElem bk n D) (fun w' => Ext wo w') (fun v w' => ∃ sv, v = svV sv ∧ Mid wo B bt bk bd A g F' G (clF A g s (L.take j)) (N0 + j) A.length key ((clF A g s (L.take j) key).filter fun c => !decide (c.1 = s)) (svV sv) w' ∧ w'.ownsMap Tryz.prog 9 svElem bk n D) (fun w' => ∃ F'', LockG w' B bt bk bd A g F'' G (clF A g s (L.take (j + 1))) (N0 + (j + 1)) A.length ∧ TFr B bt bk bd wo w') ?st0 ?st1 ?k0 ?k1 ?h0 ?hs ?he
        case hs =>
          refine ⟨?s0, ?s1, ?s2, ?s3, ?s4, ?s5, ?s6, ?s7, ?s8, ?s9, ?s10, ?s11, ?sm, ?sz, trivial⟩
          case s0 =>
            intro x w' hd
            try simp [Region.binds] at hd
            refine ⟨fun _ _ hK => ?_, fun h => absurd h (by decide), fun h => absurd h (by decide)⟩
            obtain ⟨kb, kmm⟩ := hK
            have kc : w'.cell? ⟨bt, 0, none⟩ = some (.map (some bk)) := by simp [World.cell?, kb]
            clear kb
            unfold TPost
            first | simp only [frL, List.length_cons, List.length_nil, List.take_succ_cons, List.take_zero, Nat.reduceAdd, Nat.zero_add, List.setIfInBounds_toArray, List.set_cons_zero, List.set_cons_succ, hd] | simp only [frL, List.length_cons, List.length_nil, List.take_succ_cons, List.take_zero, Nat.reduceAdd, Nat.zero_add, List.setIfInBounds_toArray, List.set_cons_zero, List.set_cons_succ]
            go_wp2_with (first | (at_lookup; refine wpList_lookup_sv _ rfl _ _ 174 rfl 9 178 lawStr Tryz.underlying174 (hzeroK _) bk n D F' hF rfl kmm _ key hok rfl hkey ?_))
            first | (with_reducible exact Ext.refl _) | exact ⟨rfl, _, rfl, (fun u hu => by simpa using hu), (by (repeat (first | (with_reducible assumption) | (with_reducible exact Ext.refl _) | (with_reducible refine Ext.drew ?_) | (with_reducible refine Ext.drewN ?_ _) | (with_reducible refine Ext.alloc ?_ _) | (with_reducible refine Ext.trans ?_ (by with_reducible assumption)))))⟩ | (with_reducible exact (by (repeat (first | (with_reducible assumption) | (with_reducible exact Ext.refl _) | (with_reducible refine Ext.drew ?_) | (with_reducible refine Ext.drewN ?_ _) | (with_reducible refine Ext.alloc ?_ _) | (with_reducible refine Ext.trans ?_ (by with_reducible assumption))))))
          case s1 =>
            intro x w' hd
            try simp [Region.binds] at hd
            refine ⟨fun _ _ hK => ?_, fun h => absurd h (by decide), fun h => absurd h (by decide)⟩
            obtain ⟨kb, kmm⟩ := hK
            have kc : w'.cell? ⟨bt, 0, none⟩ = some (.map (some bk)) := by simp [World.cell?, kb]
            clear kb
            unfold TPost
            first | simp only [frL, List.length_cons, List.length_nil, List.take_succ_cons, List.take_zero, Nat.reduceAdd, Nat.zero_add, List.setIfInBounds_toArray, List.set_cons_zero, List.set_cons_succ, hd] | simp only [frL, List.length_cons, List.length_nil, List.take_succ_cons, List.take_zero, Nat.reduceAdd, Nat.zero_add, List.setIfInBounds_toArray, List.set_cons_zero, List.set_cons_succ]
            go_wp2_with (first | (at_lookup; refine wpList_lookup_sv _ rfl _ _ 174 rfl 9 178 lawStr Tryz.underlying174 (hzeroK _) bk n D F' hF rfl kmm _ key hok rfl hkey ?_))
            first | (with_reducible exact Ext.refl _) | exact ⟨rfl, _, rfl, (fun u hu => by simpa using hu), (by (repeat (first | (with_reducible assumption) | (with_reducible exact Ext.refl _) | (with_reducible refine Ext.drew ?_) | (with_reducible refine Ext.drewN ?_ _) | (with_reducible refine Ext.alloc ?_ _) | (with_reducible refine Ext.trans ?_ (by with_reducible assumption)))))⟩ | (with_reducible exact (by (repeat (first | (with_reducible assumption) | (with_reducible exact Ext.refl _) | (with_reducible refine Ext.drew ?_) | (with_reducible refine Ext.drewN ?_ _) | (with_reducible refine Ext.alloc ?_ _) | (with_reducible refine Ext.trans ?_ (by with_reducible assumption))))))
          case s2 =>
            intro x w' hd
            try simp [Region.binds] at hd
            refine ⟨fun _ _ hK => ?_, fun h => absurd h (by decide), fun h => absurd h (by decide)⟩
            obtain ⟨kb, kmm⟩ := hK
            have kc : w'.cell? ⟨bt, 0, none⟩ = some (.map (some bk)) := by simp [World.cell?, kb]
            clear kb
            unfold TPost
            first | simp only [frL, List.length_cons, List.length_nil, List.take_succ_cons, List.take_zero, Nat.reduceAdd, Nat.zero_add, List.setIfInBounds_toArray, List.set_cons_zero, List.set_cons_succ, hd] | simp only [frL, List.length_cons, List.length_nil, List.take_succ_cons, List.take_zero, Nat.reduceAdd, Nat.zero_add, List.setIfInBounds_toArray, List.set_cons_zero, List.set_cons_succ]
            go_wp2_with (first | (at_lookup; refine wpList_lookup_sv _ rfl _ _ 174 rfl 9 178 lawStr Tryz.underlying174 (hzeroK _) bk n D F' hF rfl kmm _ key hok rfl hkey ?_))
            first | (with_reducible exact Ext.refl _) | exact ⟨rfl, _, rfl, (fun u hu => by simpa using hu), (by (repeat (first | (with_reducible assumption) | (with_reducible exact Ext.refl _) | (with_reducible refine Ext.drew ?_) | (with_reducible refine Ext.drewN ?_ _) | (with_reducible refine Ext.alloc ?_ _) | (with_reducible refine Ext.trans ?_ (by with_reducible assumption)))))⟩ | (with_reducible exact (by (repeat (first | (with_reducible assumption) | (with_reducible exact Ext.refl _) | (with_reducible refine Ext.drew ?_) | (with_reducible refine Ext.drewN ?_ _) | (with_reducible refine Ext.alloc ?_ _) | (with_reducible refine Ext.trans ?_ (by with_reducible assumption))))))
          case s3 =>
            intro x w' hd
            try simp [Region.binds] at hd
            refine ⟨fun _ _ hK => ?_, fun h => absurd h (by decide), fun h => absurd h (by decide)⟩
            obtain ⟨kb, kmm⟩ := hK
            have kc : w'.cell? ⟨bt, 0, none⟩ = some (.map (some bk)) := by simp [World.cell?, kb]
            clear kb
            unfold TPost
            first | simp only [frL, List.length_cons, List.length_nil, List.take_succ_cons, List.take_zero, Nat.reduceAdd, Nat.zero_add, List.setIfInBounds_toArray, List.set_cons_zero, List.set_cons_succ, hd] | simp only [frL, List.length_cons, List.length_nil, List.take_succ_cons, List.take_zero, Nat.reduceAdd, Nat.zero_add, List.setIfInBounds_toArray, List.set_cons_zero, List.set_cons_succ]
            go_wp2_with (first | (at_lookup; refine wpList_lookup_sv _ rfl _ _ 174 rfl 9 178 lawStr Tryz.underlying174 (hzeroK _) bk n D F' hF rfl kmm _ key hok rfl hkey ?_))
            first | (with_reducible exact Ext.refl _) | exact ⟨rfl, _, rfl, (fun u hu => by simpa using hu), (by (repeat (first | (with_reducible assumption) | (with_reducible exact Ext.refl _) | (with_reducible refine Ext.drew ?_) | (with_reducible refine Ext.drewN ?_ _) | (with_reducible refine Ext.alloc ?_ _) | (with_reducible refine Ext.trans ?_ (by with_reducible assumption)))))⟩ | (with_reducible exact (by (repeat (first | (with_reducible assumption) | (with_reducible exact Ext.refl _) | (with_reducible refine Ext.drew ?_) | (with_reducible refine Ext.drewN ?_ _) | (with_reducible refine Ext.alloc ?_ _) | (with_reducible refine Ext.trans ?_ (by with_reducible assumption))))))
          case s4 =>
            intro x w' hd
            try simp [Region.binds] at hd
            refine ⟨fun _ _ hK => ?_, fun h => absurd h (by decide), fun h => absurd h (by decide)⟩
            obtain ⟨kb, kmm⟩ := hK
            have kc : w'.cell? ⟨bt, 0, none⟩ = some (.map (some bk)) := by simp [World.cell?, kb]
            clear kb
            unfold TPost
            first | simp only [frL, List.length_cons, List.length_nil, List.take_succ_cons, List.take_zero, Nat.reduceAdd, Nat.zero_add, List.setIfInBounds_toArray, List.set_cons_zero, List.set_cons_succ, hd] | simp only [frL, List.length_cons, List.length_nil, List.take_succ_cons, List.take_zero, Nat.reduceAdd, Nat.zero_add, List.setIfInBounds_toArray, List.set_cons_zero, List.set_cons_succ]
            go_wp2_with (first | (at_lookup; refine wpList_lookup_sv _ rfl _ _ 174 rfl 9 178 lawStr Tryz.underlying174 (hzeroK _) bk n D F' hF rfl kmm _ key hok rfl hkey ?_))
            first | (with_reducible exact Ext.refl _) | exact ⟨rfl, _, rfl, (fun u hu => by simpa using hu), (by (repeat (first | (with_reducible assumption) | (with_reducible exact Ext.refl _) | (with_reducible refine Ext.drew ?_) | (with_reducible refine Ext.drewN ?_ _) | (with_reducible refine Ext.alloc ?_ _) | (with_reducible refine Ext.trans ?_ (by with_reducible assumption)))))⟩ | (with_reducible exact (by (repeat (first | (with_reducible assumption) | (with_reducible exact Ext.refl _) | (with_reducible refine Ext.drew ?_) | (with_reducible refine Ext.drewN ?_ _) | (with_reducible refine Ext.alloc ?_ _) | (with_reducible refine Ext.trans ?_ (by with_reducible assumption))))))
          case s5 =>
            intro x w' hd
            try simp [Region.binds] at hd
            refine ⟨fun _ _ hK => ?_, fun h => absurd h (by decide), fun h => absurd h (by decide)⟩
            obtain ⟨kb, kmm⟩ := hK
            have kc : w'.cell? ⟨bt, 0, none⟩ = some (.map (some bk)) := by simp [World.cell?, kb]
            clear kb
            unfold TPost
            first | simp only [frL, List.length_cons, List.length_nil, List.take_succ_cons, List.take_zero, Nat.reduceAdd, Nat.zero_add, List.setIfInBounds_toArray, List.set_cons_zero, List.set_cons_succ, hd] | simp only [frL, List.length_cons, List.length_nil, List.take_succ_cons, List.take_zero, Nat.reduceAdd, Nat.zero_add, List.setIfInBounds_toArray, List.set_cons_zero, List.set_cons_succ]
            go_wp2_with (first | (at_lookup; refine wpList_lookup_sv _ rfl _ _ 174 rfl 9 178 lawStr Tryz.underlying174 (hzeroK _) bk n D F' hF rfl kmm _ key hok rfl hkey ?_))
            first | (with_reducible exact Ext.refl _) | exact ⟨rfl, _, rfl, (fun u hu => by simpa using hu), (by (repeat (first | (with_reducible assumption) | (with_reducible exact Ext.refl _) | (with_reducible refine Ext.drew ?_) | (with_reducible refine Ext.drewN ?_ _) | (with_reducible refine Ext.alloc ?_ _) | (with_reducible refine Ext.trans ?_ (by with_reducible assumption)))))⟩ | (with_reducible exact (by (repeat (first | (with_reducible assumption) | (with_reducible exact Ext.refl _) | (with_reducible refine Ext.drew ?_) | (with_reducible refine Ext.drewN ?_ _) | (with_reducible refine Ext.alloc ?_ _) | (with_reducible refine Ext.trans ?_ (by with_reducible assumption))))))
          case s6 =>
            intro x w' hd
            try simp [Region.binds] at hd
            refine ⟨fun _ _ hK => ?_, fun h => absurd h (by decide), fun h => absurd h (by decide)⟩
            obtain ⟨kb, kmm⟩ := hK
            have kc : w'.cell? ⟨bt, 0, none⟩ = some (.map (some bk)) := by simp [World.cell?, kb]
            clear kb
            unfold TPost
            first | simp only [frL, List.length_cons, List.length_nil, List.take_succ_cons, List.take_zero, Nat.reduceAdd, Nat.zero_add, List.setIfInBounds_toArray, List.set_cons_zero, List.set_cons_succ, hd] | simp only [frL, List.length_cons, List.length_nil, List.take_succ_cons, List.take_zero, Nat.reduceAdd, Nat.zero_add, List.setIfInBounds_toArray, List.set_cons_zero, List.set_cons_succ]
            go_wp2_with (first | (at_lookup; refine wpList_lookup_sv _ rfl _ _ 174 rfl 9 178 lawStr Tryz.underlying174 (hzeroK _) bk n D F' hF rfl kmm _ key hok rfl hkey ?_))
            first | (with_reducible exact Ext.refl _) | exact ⟨rfl, _, rfl, (fun u hu => by simpa using hu), (by (repeat (first | (with_reducible assumption) | (with_reducible exact Ext.refl _) | (with_reducible refine Ext.drew ?_) | (with_reducible refine Ext.drewN ?_ _) | (with_reducible refine Ext.alloc ?_ _) | (with_reducible refine Ext.trans ?_ (by with_reducible assumption)))))⟩ | (with_reducible exact (by (repeat (first | (with_reducible assumption) | (with_reducible exact Ext.refl _) | (with_reducible refine Ext.drew ?_) | (with_reducible refine Ext.drewN ?_ _) | (with_reducible refine Ext.alloc ?_ _) | (with_reducible refine Ext.trans ?_ (by with_reducible assumption))))))
          case s7 =>
            intro x w' hd
            try simp [Region.binds] at hd
            refine ⟨fun _ _ hK => ?_, fun h => absurd h (by decide), fun h => absurd h (by decide)⟩
            obtain ⟨kb, kmm⟩ := hK
            have kc : w'.cell? ⟨bt, 0, none⟩ = some (.map (some bk)) := by simp [World.cell?, kb]
            clear kb
            unfold TPost
            first | simp only [frL, List.length_cons, List.length_nil, List.take_succ_cons, List.take_zero, Nat.reduceAdd, Nat.zero_add, List.setIfInBounds_toArray, List.set_cons_zero, List.set_cons_succ, hd] | simp only [frL, List.length_cons, List.length_nil, List.take_succ_cons, List.take_zero, Nat.reduceAdd, Nat.zero_add, List.setIfInBounds_toArray, List.set_cons_zero, List.set_cons_succ]
            go_wp2_with (first | (at_lookup; refine wpList_lookup_sv _ rfl _ _ 174 rfl 9 178 lawStr Tryz.underlying174 (hzeroK _) bk n D F' hF rfl kmm _ key hok rfl hkey ?_))
            first | (with_reducible exact Ext.refl _) | exact ⟨rfl, _, rfl, (fun u hu => by simpa using hu), (by (repeat (first | (with_reducible assumption) | (with_reducible exact Ext.refl _) | (with_reducible refine Ext.drew ?_) | (with_reducible refine Ext.drewN ?_ _) | (with_reducible refine Ext.alloc ?_ _) | (with_reducible refine Ext.trans ?_ (by with_reducible assumption)))))⟩ | (with_reducible exact (by (repeat (first | (with_reducible assumption) | (with_reducible exact Ext.refl _) | (with_reducible refine Ext.drew ?_) | (with_reducible refine Ext.drewN ?_ _) | (with_reducible refine Ext.alloc ?_ _) | (with_reducible refine Ext.trans ?_ (by with_reducible assumption))))))
          case s8 =>
            intro x w' hd
            try simp [Region.binds] at hd
            refine ⟨fun _ _ hK => ?_, fun h => absurd h (by decide), fun h => absurd h (by decide)⟩
            obtain ⟨kb, kmm⟩ := hK
            have kc : w'.cell? ⟨bt, 0, none⟩ = some (.map (some bk)) := by simp [World.cell?, kb]
            clear kb
            unfold TPost
            first | simp only [frL, List.length_cons, List.length_nil, List.take_succ_cons, List.take_zero, Nat.reduceAdd, Nat.zero_add, List.setIfInBounds_toArray, List.set_cons_zero, List.set_cons_succ, hd] | simp only [frL, List.length_cons, List.length_nil, List.take_succ_cons, List.take_zero, Nat.reduceAdd, Nat.zero_add, List.setIfInBounds_toArray, List.set_cons_zero, List.set_cons_succ]
            go_wp2_with (first | (at_lookup; refine wpList_lookup_sv _ rfl _ _ 174 rfl 9 178 lawStr Tryz.underlying174 (hzeroK _) bk n D F' hF rfl kmm _ key hok rfl hkey ?_))
            first | (with_reducible exact Ext.refl _) | exact ⟨rfl, _, rfl, (fun u hu => by simpa using hu), (by (repeat (first | (with_reducible assumption) | (with_reducible exact Ext.refl _) | (with_reducible refine Ext.drew ?_) | (with_reducible refine Ext.drewN ?_ _) | (with_reducible refine Ext.alloc ?_ _) | (with_reducible refine Ext.trans ?_ (by with_reducible assumption)))))⟩ | (with_reducible exact (by (repeat (first | (with_reducible assumption) | (with_reducible exact Ext.refl _) | (with_reducible refine Ext.drew ?_) | (with_reducible refine Ext.drewN ?_ _) | (with_reducible refine Ext.alloc ?_ _) | (with_reducible refine Ext.trans ?_ (by with_reducible assumption))))))
          case s9 =>
            intro x w' hd
            try simp [Region.binds] at hd
            refine ⟨fun _ _ hK => ?_, fun h => absurd h (by decide), fun h => absurd h (by decide)⟩
            obtain ⟨kb, kmm⟩ := hK
            have kc : w'.cell? ⟨bt, 0, none⟩ = some (.map (some bk)) := by simp [World.cell?, kb]
            clear kb
            unfold TPost
            first | simp only [frL, List.length_cons, List.length_nil, List.take_succ_cons, List.take_zero, Nat.reduceAdd, Nat.zero_add, List.setIfInBounds_toArray, List.set_cons_zero, List.set_cons_succ, hd] | simp only [frL, List.length_cons, List.length_nil, List.take_succ_cons, List.take_zero, Nat.reduceAdd, Nat.zero_add, List.setIfInBounds_toArray, List.set_cons_zero, List.set_cons_succ]
            go_wp2_with (first | (at_lookup; refine wpList_lookup_sv _ rfl _ _ 174 rfl 9 178 lawStr Tryz.underlying174 (hzeroK _) bk n D F' hF rfl kmm _ key hok rfl hkey ?_))
            first | (with_reducible exact Ext.refl _) | exact ⟨rfl, _, rfl, (fun u hu => by simpa using hu), (by (repeat (first | (with_reducible assumption) | (with_reducible exact Ext.refl _) | (with_reducible refine Ext.drew ?_) | (with_reducible refine Ext.drewN ?_ _) | (with_reducible refine Ext.alloc ?_ _) | (with_reducible refine Ext.trans ?_ (by with_reducible assumption)))))⟩ | (with_reducible exact (by (repeat (first | (with_reducible assumption) | (with_reducible exact Ext.refl _) | (with_reducible refine Ext.drew ?_) | (with_reducible refine Ext.drewN ?_ _) | (with_reducible refine Ext.alloc ?_ _) | (with_reducible refine Ext.trans ?_ (by with_reducible assumption))))))
          case s10 =>
            intro x w' hd
            try simp [Region.binds] at hd
            refine ⟨fun _ _ hK => ?_, fun h => absurd h (by decide), fun h => absurd h (by decide)⟩
            obtain ⟨kb, kmm⟩ := hK
            have kc : w'.cell? ⟨bt, 0, none⟩ = some (.map (some bk)) := by simp [World.cell?, kb]
            clear kb
            unfold TPost
            first | simp only [frL, List.length_cons, List.length_nil, List.take_succ_cons, List.take_zero, Nat.reduceAdd, Nat.zero_add, List.setIfInBounds_toArray, List.set_cons_zero, List.set_cons_succ, hd] | simp only [frL, List.length_cons, List.length_nil, List.take_succ_cons, List.take_zero, Nat.reduceAdd, Nat.zero_add, List.setIfInBounds_toArray, List.set_cons_zero, List.set_cons_succ]
            go_wp2_with (first | (at_lookup; refine wpList_lookup_sv _ rfl _ _ 174 rfl 9 178 lawStr Tryz.underlying174 (hzeroK _) bk n D F' hF rfl kmm _ key hok rfl hkey ?_))
            first | (with_reducible exact Ext.refl _) | exact ⟨rfl, _, rfl, (fun u hu => by simpa using hu), (by (repeat (first | (with_reducible assumption) | (with_reducible exact Ext.refl _) | (with_reducible refine Ext.drew ?_) | (with_reducible refine Ext.drewN ?_ _) | (with_reducible refine Ext.alloc ?_ _) | (with_reducible refine Ext.trans ?_ (by with_reducible assumption)))))⟩ | (with_reducible exact (by (repeat (first | (with_reducible assumption) | (with_reducible exact Ext.refl _) | (with_reducible refine Ext.drew ?_) | (with_reducible refine Ext.drewN ?_ _) | (with_reducible refine Ext.alloc ?_ _) | (with_reducible refine Ext.trans ?_ (by with_reducible assumption))))))
          case s11 =>
            intro x w' hd
            try simp [Region.binds] at hd
            refine ⟨fun _ _ hK => ?_, fun h => absurd h (by decide), fun h => absurd h (by decide)⟩
            obtain ⟨kb, kmm⟩ := hK
            have kc : w'.cell? ⟨bt, 0, none⟩ = some (.map (some bk)) := by simp [World.cell?, kb]
            clear kb
            unfold TPost
            first | simp only [frL, List.length_cons, List.length_nil, List.take_succ_cons, List.take_zero, Nat.reduceAdd, Nat.zero_add, List.setIfInBounds_toArray, List.set_cons_zero, List.set_cons_succ, hd] | simp only [frL, List.length_cons, List.length_nil, List.take_succ_cons, List.take_zero, Nat.reduceAdd, Nat.zero_add, List.setIfInBounds_toArray, List.set_cons_zero, List.set_cons_succ]
            go_wp2_with (first | (at_lookup; refine wpList_lookup_sv _ rfl _ _ 174 rfl 9 178 lawStr Tryz.underlying174 (hzeroK _) bk n D F' hF rfl kmm _ key hok rfl hkey ?_))
            first | (with_reducible exact Ext.refl _) | exact ⟨rfl, _, rfl, (fun u hu => by simpa using hu), (by (repeat (first | (with_reducible assumption) | (with_reducible exact Ext.refl _) | (with_reducible refine Ext.drew ?_) | (with_reducible refine Ext.drewN ?_ _) | (with_reducible refine Ext.alloc ?_ _) | (with_reducible refine Ext.trans ?_ (by with_reducible assumption)))))⟩ | (with_reducible exact (by (repeat (first | (with_reducible assumption) | (with_reducible exact Ext.refl _) | (with_reducible refine Ext.drew ?_) | (with_reducible refine Ext.drewN ?_ _) | (with_reducible refine Ext.alloc ?_ _) | (with_reducible refine Ext.trans ?_ (by with_reducible assumption))))))
          case sm =>
            intro x w' hd
            try simp [Region.binds] at hd
            refine ⟨fun h => absurd rfl h, fun _ hS => ?_, fun h => absurd h (by decide)⟩
            have hE : Ext wo w' := hS
            have D1 := hid (DF.out w' hE)
            unfold TPost
            first | simp only [frL, List.length_cons, List.length_nil, List.take_succ_cons, List.take_zero, Nat.reduceAdd, Nat.zero_add, List.setIfInBounds_toArray, List.set_cons_zero, List.set_cons_succ, hd] | simp only [frL, List.length_cons, List.length_nil, List.take_succ_cons, List.take_zero, Nat.reduceAdd, Nat.zero_add, List.setIfInBounds_toArray, List.set_cons_zero, List.set_cons_succ]
            go_wp2_with fail
            refine (D1.out).mono ?_
            rintro e wa ⟨v', rfl, ho, hg, hb⟩
            go_wp2
            obtain ⟨sv, rfl, _⟩ := sv_of_own ho
            exact ⟨sv, rfl, ⟨w', HG'.out.ext hE, hg, ho, .inl hb, hE⟩, (ownsMap_ext hmap hE).kept hg (fun e => hne.2.1 e.symm)⟩
          case sz =>
            intro x w' hd
            try simp [Region.binds] at hd
            refine ⟨fun _ h => absurd rfl h, fun h => absurd h (by decide), fun _ hS => ?_⟩
            obtain ⟨sv, hx, hM, hm1⟩ := hS
            have hM := hid hM
            unfold TPost
            first | simp only [frL, List.length_cons, List.length_nil, List.take_succ_cons, List.take_zero, Nat.reduceAdd, Nat.zero_add, List.setIfInBounds_toArray, List.set_cons_zero, List.set_cons_succ, hd, hx] | simp only [frL, List.length_cons, List.length_nil, List.take_succ_cons, List.take_zero, Nat.reduceAdd, Nat.zero_add, List.setIfInBounds_toArray, List.set_cons_zero, List.set_cons_succ, hx]
            go_wp2_with (first | (at_mapUpdate; refine wpList_mapUpdate_own _ rfl _ _ _ 174 rfl 9 178 lawStr Tryz.underlying174 _ bk n D rfl hm1 (by unfold maxLen; omega) _ _ (kS key) rfl rfl hkey (dV sv) [] (svElem_mk sv) ?_; intro w3 hown3 hg3))
            obtain ⟨q1, q2⟩ := mid_store hM.out hok hm1 hn hF hown3 hg3
            rw [HST.out] at q1
            exact ⟨⟨_, (by rw [Nat.add_assoc] at q1; exact q1)⟩, q2⟩
        case st0 => intro a b E h; exact Ext.trans h E
        case st1 =>
          rintro v a b E ⟨sv, e, h, hm⟩
          exact ⟨sv, e, h.ext E, ownsMap_ext hm E⟩
        case k0 =>
          intro a h
          exact ⟨(show Ext wo a from h).heap hbox, ownsMap_ext hmap h⟩
        case k1 =>
          rintro v a ⟨sv, e, h, hm⟩
          exact ⟨h.box, hm⟩
        case h0 => exact (Ext.refl _).drew
        case he =>
          intro x w3 hd hS
          obtain ⟨F'', q1, q2⟩ := hS
          have Q1 := hid q1
          simp only [frL, List.length_cons, List.length_nil, List.take_succ_cons, List.take_zero, Nat.reduceAdd, Nat.zero_add, List.setIfInBounds_toArray, List.set_cons_zero, List.set_cons_succ]
          clear hd q1
          go_wp2
          go_roundw
          case rel => exact ⟨j + 1, F'', by omega, by go_num, Q1.out, hT.trans q2⟩
          case measure => simp [intOf] <;> omega
      · obtain rfl : j = L.length := by omega
        rw [List.take_of_length_le (Nat.le_refl _)] at hG'
        have hls := (live_gone hg (n := A.length)).1 hs
        have hll := live_le g A.length
        have hls' := live_le (goneW g s) A.length
        obtain ⟨n, D, hmap, hn, hF, hsz⟩ := hG'.dm
        have hbox := hG'.box
        have cbx : wo.cell? ⟨bt, 1, none⟩ = some (.map (some bd)) := by simp [World.cell?, hbox]
        have y3 := hT.heapG HG2.out y2 (by decide) (by decide)
        have c3 := cell_of_one y3
        have HSZ := hid hsz
        have HG' := hid hG'
        have HLS := hid (And.intro hls (And.intro hll hls'))
        clear hsz hG' hls hll hls'
        go_wp2_with fail
        refine wp_region_ph [.k (.pointer (some ⟨bt, 0, none⟩)), .k (.pointer (some ⟨bt, 0, none⟩)), .k (.pointer (some ⟨bt, 1, none⟩)), .k (.map (some bd)), .k (.int .i64 s)] [] (by kernel_rfl) (by kernel_rfl) (by kernel_rfl) rfl rfl ?hs ?hC ?he
        case hC =>
          intro i hi
          simp at hi
        case hs =>
          refine ⟨?_, ?_, ?_, ?_, ?_, trivial⟩
          all_goals (
            intro x w' hE hd
            try simp [PhDeps, at_k, at_p, at_t, at_any, Region.binds] at hd
            try ((with_reducible refine Exists.elim hd ?_); clear hd; intro y hd; obtain ⟨hd, hG⟩ := hd)
            have d2 := hE.cell c3
            have d3 := hE.cell cbx
            first | simp only [frL, List.length_cons, List.length_nil, List.take_succ_cons, List.take_zero, Nat.reduceAdd, Nat.zero_add, List.setIfInBounds_toArray, List.set_cons_zero, List.set_cons_succ, hd] | simp only [frL, List.length_cons, List.length_nil, List.take_succ_cons, List.take_zero, Nat.reduceAdd, Nat.zero_add, List.setIfInBounds_toArray, List.set_cons_zero, List.set_cons_succ]
            go_wp2
            all_goals first
              | ((with_reducible refine phK ?_ ?_); (focus rfl); (repeat (first | (with_reducible assumption) | (with_reducible exact Ext.refl _) | (with_reducible refine Ext.drew ?_) | (with_reducible refine Ext.drewN ?_ _) | (with_reducible refine Ext.alloc ?_ _) | (with_reducible refine Ext.trans ?_ (by with_reducible assumption)))))
              | ((with_reducible refine phT rfl hG ?_); (repeat (first | (with_reducible assumption) | (with_reducible exact Ext.refl _) | (with_reducible refine Ext.drew ?_) | (with_reducible refine Ext.drewN ?_ _) | (with_reducible refine Ext.alloc ?_ _) | (with_reducible refine Ext.trans ?_ (by with_reducible assumption)))))
              | ((with_reducible refine phU hG ?_); (repeat (first | (with_reducible assumption) | (with_reducible exact Ext.refl _) | (with_reducible refine Ext.drew ?_) | (with_reducible refine Ext.drewN ?_ _) | (with_reducible refine Ext.alloc ?_ _) | (with_reducible refine Ext.trans ?_ (by with_reducible assumption)))))
              | (with_reducible exact phBox hE)
              | (with_reducible exact phRow hE))
        case he =>
          intro x w3 E3 hd
          simp [PhEnd, at_k, at_p, at_t, at_any] at hd
          simp only [frL, List.length_cons, List.length_nil, List.take_succ_cons, List.take_zero, Nat.reduceAdd, Nat.zero_add, List.setIfInBounds_toArray, List.set_cons_zero, List.set_cons_succ, hd, List.length_cons, List.length_nil, List.drop_succ_cons, List.drop_zero]
          clear hd
          have hm3 := ownsMap_ext hmap E3
          have G3 := hid (HG'.out.ext E3)
          go_wp2_with (first | (at_delete; refine wpList_delete_own _ rfl _ _ 175 3 rfl 23 lawInt Tryz.underlying175 _ bd n D rfl hm3 _ _ rfl hkeyI ?_; intro w4 hown4 ht4))
          obtain ⟨q1, q2⟩ := lock_gone G3.out hs hg hm3 hn hF HSZ.out hokI hown4 ht4.grown
          have Q1 := hid q1
          clear q1
          go_ret
          refine ⟨rfl, ⟨_, _, Q1.out.st ?_ (fun k => HALL.out k) (fun z hz => ?_) (fun n hn' => ?_) hfew HL2.out.dok⟩, (T2.out).trans (hT.trans ((TFr.of_ext E3).trans q2))⟩
          · have h1 := HN0.out
            have h2 := HLS.out
            omega
          · by_cases e : z = (s : Int)
            · rw [if_pos e]
            · rw [if_neg e]
              refine HL2.out.nones z fun n e1 h1 h2 => hz n e1 h1 ?_
              unfold goneW
              rw [if_neg (by rintro rfl; exact e e1)]
              exact h2
          · unfold goneW
            rw [if_neg (by omega)]
            exact HL2.out.later n hn'
end Go.Proofs.YtimchedebcoohaaGreat
