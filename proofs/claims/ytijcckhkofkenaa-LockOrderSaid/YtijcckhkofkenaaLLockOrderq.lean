import Derived.Test.YtijcckhkofkenaaQLby
/- Contracts and lemmas for the proofs of this seat; each theorem states its own conditions. -/
namespace Go.Proofs.Ytijcckhkofkenaa
open Go.RowKit
/-- must it wait, told by the first i? -/
def waitB (A : List Ops) (g : Nat → Bool) (k : Nat) : Nat → Bool
  | 0 => false
  | i + 1 => if (clashB (A.getD i []) (A.getD k []) && !g i) = true then true else waitB A g k i
theorem wait_iff (A : List Ops) (g : Nat → Bool) (k : Nat) : ∀ i, waitB A g k i = true ↔ ∃ t, t < i ∧ g t = false ∧ clashB (A.getD t []) (A.getD k []) = true
  | 0 => by simp [waitB]
  | i + 1 => by
    simp only [waitB]
    split
    · rename_i h
      simp only [Bool.and_eq_true, Bool.not_eq_true'] at h
      exact ⟨fun _ => ⟨i, by omega, h.2, h.1⟩, fun _ => rfl⟩
    · rename_i h
      rw [wait_iff A g k i]
      constructor
      · rintro ⟨t, h1, h2, h3⟩; exact ⟨t, by omega, h2, h3⟩
      · rintro ⟨t, h1, h2, h3⟩
        refine ⟨t, ?_, h2, h3⟩
        have : t ≠ i := by rintro rfl; rw [h2, h3] at h; simp at h
        omega
theorem wait_may (A : List Ops) (g : Nat → Bool) (k : Nat) : waitB A g k k = !mayB A g k := by
  cases h : mayB A g k with
  | true =>
    cases e : waitB A g k k with
    | false => rfl
    | true =>
      obtain ⟨t, h1, h2, h3⟩ := (wait_iff A g k k).1 e
      rw [mayB_iff.1 h t h1 h2] at h3; cases h3
  | false =>
    cases e : waitB A g k k with
    | true => rfl
    | false =>
      have : mayB A g k = true := mayB_iff.2 fun t h1 h2 => by
        cases hc : clashB (A.getD t []) (A.getD k []) with
        | false => rfl
        | true => rw [(wait_iff A g k k).2 ⟨t, h1, h2, hc⟩] at e; cases e
      rw [h] at this; cases this
def goneL (g : Nat → Bool) (n : Nat) : List Bool := (List.range n).map g
theorem goneL_len (g : Nat → Bool) (n : Nat) : (goneL g n).length = n := by simp [goneL]
theorem goneL_at (g : Nat → Bool) {n k : Nat} (h : k < n) : (goneL g n).getD k false = g k := by simp [goneL, h]
theorem goneL_set (g : Nat → Bool) (n k : Nat) : (goneL g n).set k true = goneL (goneW g k) n := by
  apply List.ext_getElem
  · simp [goneL]
  · intro i h1 h2
    rw [List.getElem_set]
    simp only [goneL, List.getElem_map, List.getElem_range, goneW]
    by_cases e : k = i
    · rw [if_pos e, if_pos e.symm]
    · rw [if_neg e, if_neg (fun h => e h.symm)]
theorem goneL_same (g : Nat → Bool) {n k : Nat} : (goneL g n).set k (g k) = goneL g n := by
  apply List.ext_getElem
  · simp [goneL]
  · intro i h1 h2
    rw [List.getElem_set]
    by_cases e : k = i
    · subst e; rw [if_pos rfl]; simp [goneL]
    · rw [if_neg e]
theorem goneL_none (n : Nat) : goneL (fun _ => false) n = List.replicate n false := by
  apply List.ext_getElem
  · simp [goneL]
  · intro i h1 h2; simp [goneL]
theorem gone_end {w : World} {B bt bk bd Bo gb cg k : Nat} {D : List Ops} {g : Nat → Bool} {F : ByteArray → Option SV} {G : Int → Option SV} {L0 : List Bool} (hL : LockSt w B bt bk bd D g F G) (ho : w.ownsRow Bo 4 1 (.slice (some ⟨gb, 0, none⟩) D.length cg) D.length (cB L0)) (hk : k < L0.length) (x : Bool) :
    LockSt (w.setCell ⟨gb, k, none⟩ (.bool x)) B bt bk bd D g F G ∧ (w.setCell ⟨gb, k, none⟩ (.bool x)).ownsRow Bo 4 1 (.slice (some ⟨gb, 0, none⟩) D.length cg) D.length (cB (L0.set k x)) := by
  obtain ⟨cur, hcu⟩ := own_heap ho
  exact ⟨hL.kept hcu (by decide) (by decide) (by decide) (grown_cell _ _ _ _), own_bool_set ho hk x⟩
theorem getD_at {D : List Ops} {i : Nat} (h : i < D.length) : D.getD i [] = D[i] := by simp [h]
set_option maxRecDepth 100000 in
set_option maxHeartbeats 2000000 in
theorem lorder_walk (vd v : Value) (ls : List (List Int)) (l : List Int) (w : World) (hvd : SegLL w vd ls) (hv : Seg w v 1 l.length (cI l)) :
    Calls Try.prog 8 #[vd, v] w fun e w' => e = .returned (.bool true) ∧ Ext w w' := by
  go_enter Try.func8, Try.ntmps8
  go_wp2_with fail
  refine (lockBegun_any _).mono ?_
  rintro e w1 ⟨rfl, E⟩
  replace hv := hv.ext E
  replace hvd := hvd.ext E
  go_wp2_with fail
  refine (deeds_any _ ls 15 _ hvd (by omega)).mono ?_
  rintro e w2 ⟨vD, us, D, rfl, hout, hds, hdg, hdl, E1⟩
  have hD := hds.seg hout
  obtain ⟨aD, cD, rfl⟩ := own_form hout
  have hl := hds.len
  replace hv := hv.ext E1
  replace E := Ext.trans E (E1)
  clear E1 hout hds hvd
  rw [hl] at hD
  have hus : us.length = D.length := hl
  have dok : ∀ d ∈ D, DeedOk d := fun d h => (hdg d h).ok
  have dsm : ∀ d ∈ D, ∀ o ∈ d, o.from_.size ≤ 9223372036854775807 := fun d h => (hdg d h).sm
  obtain ⟨_, _, eD, hc1, hc2, hcell⟩ := hD.form
  injection eD with eD1 _ eD3
  subst eD1; subst eD3
  have HC := hid hcell
  clear hcell hD hdg hl
  unfold maxLen at hc2
  obtain ⟨al, cl, rfl⟩ := seg_form hv
  go_wp2_with fail
  refine (lnew_ok _).mono ?_
  rintro e w3 ⟨bt, bk, bd, rfl, L0, E3⟩
  go_wp2_with fail
  go_loopw [8, 9, 10, 26] (fun _ _ _ i wr => ∃ (k : Nat) (F : ByteArray → Option SV) (G : Int → Option SV), k ≤ D.length ∧ i = .int .i64 k ∧ LockSt wr w2.heap.size bt bk bd (D.take k) (fun _ => false) F G ∧ TFr w2.heap.size bt bk bd w3 wr) (fun _ _ _ i _ => D.length - (intOf i).toNat)
  case atStart => exact ⟨0, _, _, Nat.zero_le _, rfl, L0, TFr.refl _⟩
  case round =>
    obtain ⟨wo, rfl⟩ : ∃ wo : World, wo = wr := ⟨_, rfl⟩
    obtain ⟨k, F, G, hk, rfl, hL, hT⟩ := hrel
    have Er := hT.low E3 (Nat.le_refl _)
    by_cases hlt : k < D.length
    · obtain ⟨b, off, rfl, hcc⟩ := HC.out (by omega)
      obtain ⟨x1, y1, c1, s1⟩ := hcc k D[k] (List.getElem?_eq_getElem hlt)
      replace c1 := Er.cell c1
      replace s1 := s1.ext Er
      have d1 := dok _ (List.getElem_mem hlt)
      have f1 := dsm _ (List.getElem_mem hlt)
      have hdt : D.take k ++ [D[k]] = D.take (k + 1) := (List.take_succ_eq_append_getElem hlt).symm
      have hlk : (D.take k).length = k := by rw [List.length_take]; omega
      clear hcc
      generalize D[k] = p at c1 s1 d1 f1 hdt
      have EA := (Ext.refl wo).alloc (.cells #[.slice x1 p.length y1] 52)
      have z1 := cell_of_one (heap_alloc_new wo (.cells #[.slice x1 p.length y1] 52))
      have AD := add_ok (hL.ext EA) (.slice x1 p.length y1) p (s1.ext EA) d1 f1 (by omega)
      rw [hdt, hlk] at AD
      have AD := hid AD
      have HT := hid ((hT.trans (TFr.of_ext EA)))
      clear hdt hlk hL hT
      go_wp2_with fail
      refine (AD.out).mono ?_
      rintro e w5 ⟨rfl, ⟨F', G', L5⟩, T5⟩
      go_wp2
      go_roundw
      case rel => exact ⟨k + 1, F', G', by omega, by go_num, L5, (HT.out).trans T5⟩
      case measure => simp [intOf] <;> omega
    · obtain rfl : k = D.length := by omega
      rw [List.take_of_length_le (Nat.le_refl _)] at hL
      have HL := hid hL
      obtain ⟨_, _, _, he, hl1, hl2, hl3⟩ := hv
      injection he with he1 _ he3
      subst he1; subst he3
      have HV := hid hl3
      unfold maxLen at hl2
      obtain ⟨N, hN, hN1, hN2⟩ : ∃ N : Nat, min (l.length : Int) 60 = (N : Int) ∧ N ≤ l.length ∧ N ≤ 60 := ⟨min l.length 60, by omega, by omega, by omega⟩
      have hN3 : ((N : Int)).toNat = N := by omega
      have hN4 : max (N : Int) 0 = (N : Int) := by omega
      clear hl3 hL hT L0
      go_wp2_with (first | (at_make; refine wpList_make_bool _ rfl _ _ rfl D.length rfl rfl (by omega) ?_; intro v' w9 ho hf hE; obtain ⟨cg, rfl⟩ := hf))
      try simp only [hN, hN3, hN4]
      clear hN hN3 hN4
      obtain ⟨gb, hgb⟩ : ∃ gb, wo.heap.size = gb := ⟨_, rfl⟩
      rw [hgb] at ho
      have hgl : w2.heap.size ≤ gb := by have := Er.size'; omega
      simp only [hgb]
      clear hgb
      replace HL := hid (HL.out.ext hE)
      replace Er := Er.trans hE
      clear hE
      go_loopw [13, 14, 15, 16, 17, 18, 48, 60, 86, 91] (fun _ _ _ _ _ _ iv _ _ _ wr => ∃ (n : Nat) (g : Nat → Bool) (F : ByteArray → Option SV) (G : Int → Option SV), n ≤ N ∧ iv = .int .i64 n ∧ LockSt wr w2.heap.size bt bk bd D g F G ∧ wr.ownsRow gb 4 1 (.slice (some ⟨gb, 0, none⟩) D.length cg) D.length (cB (goneL g D.length)) ∧ Ext w2 wr) (fun _ _ _ _ _ _ iv _ _ _ _ => N - (intOf iv).toNat)
      case atStart => exact ⟨0, _, _, _, Nat.zero_le _, rfl, HL.out, by rw [goneL_none]; exact ho, Er⟩
      case round =>
        clear Er HL ho
        obtain ⟨wp, rfl⟩ : ∃ wp : World, wp = wr := ⟨_, rfl⟩
        obtain ⟨n, g, F, G, hn, rfl, hL, ho, Er⟩ := hrel
        by_cases hlt : n < N
        · obtain ⟨b1, o1, rfl, hc1⟩ := HV.out (by omega)
          have c0 := (Er.cell (hc1 n _ (cI_at0 l n (by omega))))
          clear hc1
          by_cases hD0 : D.length = 0
          · have q0 : ((D.length : Int) == 0) = true := by simp [hD0]
            clear hD0
            go_wp2
            go_ret
            exact ⟨rfl, E.trans Er⟩
          · have q0 : ((D.length : Int) == 0) = false := by simpa using hD0
            have WI := fun w => within_any l[n] D.length w (by omega) (by omega)
            obtain ⟨k, hk, hkl⟩ : ∃ k : Nat, wi l[n] D.length = k ∧ k < D.length := by
              have g1 := wi_lo (k := l[n]) (n := D.length) (by omega)
              have g2 := wi_hi (k := l[n]) (n := D.length) (by omega)
              exact ⟨(wi l[n] D.length).toNat, by omega, by omega⟩
            rw [hk] at WI
            have WI := hid WI
            clear hk
            generalize l[n] = x at c0 WI
            obtain ⟨bD, oD, rfl, hcc⟩ := HC.out (by omega)
            obtain ⟨x2, y2, c2, s2⟩ := hcc k D[k] (List.getElem?_eq_getElem hkl)
            replace c2 := Er.cell c2
            replace s2 := s2.ext Er
            have d2 := dok _ (List.getElem_mem hkl)
            have f2 := dsm _ (List.getElem_mem hkl)
            have hq : D.getD k [] = D[k] := getD_at hkl
            generalize D[k] = q at c2 s2 d2 f2 hq
            have HQ := hid hq
            have HO := hid ho
            have HLo := hid hL
            have hwt := hid (wait_may D g k)
            clear hq hcc hL
            go_wp2_with (first | (go_at_call 23; refine (WI.out _).mono ?_; rintro e wa ⟨rfl, rfl⟩))
            go_loopw [14, 15, 16, 17, 60] (fun wt _ _ _ iv wr => ∃ i : Nat, i ≤ k ∧ iv = .int .i64 i ∧ wt = .bool (waitB D g k i) ∧ Ext wp wr) (fun _ _ _ _ iv _ => k - (intOf iv).toNat)
            case atStart => exact ⟨0, Nat.zero_le _, rfl, rfl, Ext.refl _⟩
            case round =>
              obtain ⟨wq, rfl⟩ : ∃ wq : World, wq = wr := ⟨_, rfl⟩
              obtain ⟨i, hi, rfl, rfl, Ei⟩ := hrel
              by_cases hik : i < k
              · obtain ⟨_, _, he, hcc⟩ := HC.out (by omega)
                injection he with he; injection he with he1 he2
                subst he1; subst he2
                have hil : i < D.length := by omega
                obtain ⟨x1, y1, c1, s1⟩ := hcc i D[i] (List.getElem?_eq_getElem hil)
                replace c1 := Ei.cell (Er.cell c1)
                replace s1 := (s1.ext Er).ext Ei
                have d1 := dok _ (List.getElem_mem hil)
                have f1 := dsm _ (List.getElem_mem hil)
                have hw1 : waitB D g k (i + 1) = if (clashB D[i] q && !g i) = true then true else waitB D g k i := by
                  rw [← HQ.out, ← getD_at hil]; rfl
                clear hcc
                generalize D[i] = p at c1 s1 d1 f1 hw1
                have c2' := Ei.cell c2
                have CL := fun w' (E : Ext wq w') => clash_ok (.slice x1 p.length y1) (.slice x2 q.length y2) p q w' (s1.ext E) ((s2.ext Ei).ext E) d1 d2 f1 f2
                have cgi := (own_bool (own_ext ho Ei) (i := i) (by rw [goneL_len]; exact hil)).1
                rw [goneL_at g hil] at cgi
                generalize clashB p q = cl at CL hw1
                generalize g i = gi at cgi hw1
                have CL := hid CL
                have HW1 := hid hw1
                clear hw1
                go_wp2_with fail
                refine wp_region_ph [.k (.slice (some ⟨bD, oD, none⟩) D.length cD), .k (.int .i64 i), .k (.pointer (some ⟨bD, oD + i, none⟩)), .k (.agg #[.slice x1 p.length y1]), .k (.slice (some ⟨bD, oD, none⟩) D.length cD), .k (.int .i64 k), .k (.pointer (some ⟨bD, oD + k, none⟩)), .k (.agg #[.slice x2 q.length y2]), .k (.tuple #[.bool cl, .int .i64 0]), .k (.tuple #[.bool cl, .int .i64 0]), .k (.bool cl), .k (.int .i64 0), .k (.bool cl), .k (.int .i64 0)] [] (by kernel_rfl) (by kernel_rfl) (by kernel_rfl) rfl rfl ?hs ?hC ?he
                case hC =>
                  intro i hi
                  simp at hi
                case hs =>
                  refine ⟨?_, ?_, ?_, ?_, ?_, ?_, ?_, ?_, ?_, ?_, ?_, ?_, ?_, ?_, trivial⟩
                  all_goals (
                    intro x w' hE hd
                    try simp [PhDeps, at_k, at_p, at_t, at_any, Region.binds] at hd
                    try ((with_reducible refine Exists.elim hd ?_); clear hd; intro y hd; obtain ⟨hd, hG⟩ := hd)
                    have e1 := hE.cell c1
                    have e2 := hE.cell c2'
                    first | simp only [frL, List.length_cons, List.length_nil, List.take_succ_cons, List.take_zero, Nat.reduceAdd, Nat.zero_add, List.setIfInBounds_toArray, List.set_cons_zero, List.set_cons_succ, hd] | simp only [frL, List.length_cons, List.length_nil, List.take_succ_cons, List.take_zero, Nat.reduceAdd, Nat.zero_add, List.setIfInBounds_toArray, List.set_cons_zero, List.set_cons_succ]
                    go_wp2_with (first | (go_at_call 50; refine (CL.out w' hE).mono ?_; rintro e wa ⟨rfl, hea⟩))
                    all_goals first
                      | ((with_reducible refine phK ?_ ?_); (focus rfl); (repeat (first | (with_reducible assumption) | (with_reducible exact Ext.refl _) | (with_reducible refine Ext.drew ?_) | (with_reducible refine Ext.drewN ?_ _) | (with_reducible refine Ext.alloc ?_ _) | (with_reducible refine Ext.trans ?_ (by with_reducible assumption)))))
                      | ((with_reducible refine phT rfl hG ?_); (repeat (first | (with_reducible assumption) | (with_reducible exact Ext.refl _) | (with_reducible refine Ext.drew ?_) | (with_reducible refine Ext.drewN ?_ _) | (with_reducible refine Ext.alloc ?_ _) | (with_reducible refine Ext.trans ?_ (by with_reducible assumption)))))
                      | ((with_reducible refine phU hG ?_); (repeat (first | (with_reducible assumption) | (with_reducible exact Ext.refl _) | (with_reducible refine Ext.drew ?_) | (with_reducible refine Ext.drewN ?_ _) | (with_reducible refine Ext.alloc ?_ _) | (with_reducible refine Ext.trans ?_ (by with_reducible assumption)))))
                      | (with_reducible exact phBox hE)
                      | (with_reducible exact phRow hE))
                case he =>
                  intro x w6 E6 hd
                  simp [PhEnd, at_k, at_p, at_t, at_any] at hd
                  simp only [frL, List.length_cons, List.length_nil, List.take_succ_cons, List.take_zero, Nat.reduceAdd, Nat.zero_add, List.setIfInBounds_toArray, List.set_cons_zero, List.set_cons_succ, hd, List.length_cons, List.length_nil, List.drop_succ_cons, List.drop_zero]
                  clear hd
                  have cg6 := E6.cell cgi
                  generalize waitB D g k i = wt at HW1 ⊢
                  cases cl with
                  | false =>
                    go_wp2
                    go_roundw
                    case rel => exact ⟨i + 1, by omega, by go_num, vB (by rw [HW1.out]; simp), Ei.trans E6⟩
                    case measure => simp [intOf] <;> omega
                  | true =>
                    cases gi with
                    | true =>
                      go_wp2
                      go_roundw
                      case rel => exact ⟨i + 1, by omega, by go_num, vB (by rw [HW1.out]; simp), Ei.trans E6⟩
                      case measure => simp [intOf] <;> omega
                    | false =>
                      go_wp2
                      go_roundw
                      case rel => exact ⟨i + 1, by omega, by go_num, vB (by rw [HW1.out]; simp), Ei.trans E6⟩
                      case measure => simp [intOf] <;> omega
              · obtain rfl : i = k := by omega
                have hgi : i < (goneL g D.length).length := by rw [goneL_len]; exact hkl
                have hLq := HLo.out.ext Ei
                have hoq := own_ext ho Ei
                have ca := (own_bool hoq hgi).1
                rw [goneL_at g hkl] at ca
                cases hgk : g i with
                | true =>
                  rw [hgk] at ca
                  have FN := hid (free_none hLq (i : Int) (by omega) (fun m e1 e2 => by rw [show m = i by omega]; exact hgk))
                  have hsame := goneL_same g (n := D.length) (k := i)
                  rw [hgk] at hsame
                  have HS := hid hsame
                  clear hgk hsame
                  generalize waitB D g i i = wt
                  go_wp2_with fail
                  refine (FN.out).mono ?_
                  rintro e w7 ⟨rfl, E7⟩
                  have c7 := E7.cell ca
                  have f7 := own_free (own_ext hoq E7) i
                  have GE := gone_end (hLq.ext E7) (own_ext hoq E7) hgi true
                  rw [HS.out] at GE
                  clear FN hLq
                  go_wp2
                  go_roundw
                  case rel => exact ⟨n + 1, g, F, G, by omega, by go_num, GE.1, GE.2, ((Er.trans Ei).trans E7).setCell hgl _⟩
                  case measure => simp [intOf] <;> omega
                | false =>
                  rw [hgk] at ca
                  cases hm : mayB D g i with
                  | true =>
                    have FO := hid (free_ok hLq i hkl hgk hm)
                    have hw' : waitB D g i i = false := by rw [hwt.out, hm]; rfl
                    have HGK := hid hgk
                    simp only [hw']
                    clear hgk hm hw'
                    go_wp2_with fail
                    refine (FO.out).mono ?_
                    rintro e w7 ⟨rfl, ⟨F', G', L7⟩, T7⟩
                    have o7 := T7.own hLq hoq (by decide) (by decide)
                    have E7 := T7.low (Er.trans Ei) (Nat.le_refl _)
                    obtain ⟨c7, f7⟩ := own_bool o7 hgi
                    rw [goneL_at g hkl, HGK.out] at c7
                    have GE := gone_end L7 o7 hgi true
                    rw [goneL_set] at GE
                    clear FO hLq T7
                    go_wp2
                    go_roundw
                    case rel => exact ⟨n + 1, goneW g i, F', G', by omega, by go_num, GE.1, GE.2, E7.setCell hgl _⟩
                    case measure => simp [intOf] <;> omega
                  | false =>
                    have FO := hid (free_wait hLq i hkl hgk hm)
                    have hw' : waitB D g i i = true := by rw [hwt.out, hm]; rfl
                    have hsame := goneL_same g (n := D.length) (k := i)
                    rw [hgk] at hsame
                    have HS := hid hsame
                    simp only [hw']
                    clear hgk hm hw' hsame
                    go_wp2_with fail
                    refine (FO.out).mono ?_
                    rintro e w7 ⟨rfl, E7⟩
                    have c7 := E7.cell ca
                    have f7 := own_free (own_ext hoq E7) i
                    have GE := gone_end (hLq.ext E7) (own_ext hoq E7) hgi false
                    rw [HS.out] at GE
                    clear FO hLq
                    go_wp2
                    go_roundw
                    case rel => exact ⟨n + 1, g, F, G, by omega, by go_num, GE.1, GE.2, ((Er.trans Ei).trans E7).setCell hgl _⟩
                    case measure => simp [intOf] <;> omega
        · obtain rfl : n = N := by omega
          go_wp2
          go_ret
          exact ⟨rfl, E.trans Er⟩
end Go.Proofs.Ytijcckhkofkenaa
