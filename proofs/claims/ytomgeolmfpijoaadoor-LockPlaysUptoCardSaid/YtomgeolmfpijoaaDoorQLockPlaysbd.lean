/- Contracts and lemmas for the proof of LockPlays; each theorem states its own conditions. -/
import Derived.Test.YtomgeolmfpijoaaDoorQLockPlaysba
import Derived.Test.YtomgeolmfpijoaaDoorQLockPlaysbb
import Derived.Test.YtomgeolmfpijoaaDoorQLockPlaysbc
import Derived.Test.YtomgeolmfpijoaaDoorQLockPlaysar
set_option linter.unusedVariables false
set_option linter.unusedSimpArgs false
/- Contracts and lemmas for the proofs of this seat; each theorem states its own conditions. -/
namespace Go.Proofs.YtomgeolmfpijoaaDoor
open Go.RowKit
/-! rokeep.run, deedBegun, deed.Serial -/
theorem DeedG.from_sm {d : Ops} (h : DeedOk d) (hf : ∀ o ∈ d, o.from_.size ≤ 9223372036854775807) : opsSm d := opsSm_ok h hf
theorem eqP_same (l : Prs) : decide (l = l) = true := by simp
theorem run_len (l : Prs) (d : Ops) : (runS l d).length ≤ l.length + 2 * d.length := by
  unfold runS
  cases e : runP l d with
  | none => simp
  | some l' => exact len_run e
def abO : Ops := [⟨5, ⟨#[98]⟩, ⟨#[97]⟩, 2⟩]
theorem abO_ok : deedE abO = 0 ∧ storeErr [((⟨#[97]⟩ : ByteArray), (5 : Int))] = 0 ∧ runS [((⟨#[97]⟩ : ByteArray), (5 : Int))] abO = [((⟨#[97]⟩ : ByteArray), (3 : Int)), ((⟨#[98]⟩ : ByteArray), (2 : Int))] ∧ runB [((⟨#[97]⟩ : ByteArray), (5 : Int))] abO = true := by decide +kernel
/-- a variable of its own, set at once -/
theorem new_set (w : World) (t : TypeId) (z u : Value) : ∃ W, (w.alloc (.cells #[z] t)).setCell ⟨w.heap.size, 0, none⟩ u = W ∧ Ext w W ∧ W.heap[w.heap.size]? = some (.cells #[u] t (0, 0)) ∧ W.cell? ⟨w.heap.size, 0, none⟩ = some u ∧ (w.alloc (.cells #[z] t)).frozen? ⟨w.heap.size, 0, none⟩ = false ∧ (w.alloc (.cells #[z] t)).cell? ⟨w.heap.size, 0, none⟩ = some z ∧ w.heap.size < W.heap.size := by
  have h := one_setCell (u := u) (heap_alloc_new w (.cells #[z] t))
  exact ⟨_, rfl, ((Ext.refl w).alloc _).setCell (Nat.le_refl _) _, h, cell_of_one h, free_of_one (heap_alloc_new w _), cell_of_one (heap_alloc_new w _), lt_of_block h⟩
/-- deeds, in a row -/
def SegDs (w : World) (v : Value) (D : List Ops) : Prop :=
  ∃ vs : List Value, vs.length = D.length ∧ Seg w v 1 vs.length vs ∧ ∀ (i : Nat) (u : Value) (d : Ops), vs[i]? = some u → D[i]? = some d → Seg w u 4 d.length (cO d)
theorem SegDs.ext {w w' : World} {v : Value} {D : List Ops} (h : SegDs w v D) (k : Ext w w') : SegDs w' v D := by
  obtain ⟨vs, h1, h2, h3⟩ := h
  exact ⟨vs, h1, h2.ext k, fun i u d a b => (h3 i u d a b).ext k⟩
theorem OwnDs.seg {w : World} {B B' : Nat} {v : Value} {vs : List Value} {D : List Ops} (h : OwnDs w B vs D) (ho : w.ownsRow B' 46 1 v vs.length vs) : SegDs w v D :=
  ⟨vs, h.len, own_seg ho, fun i u d a b => own_seg (h.own i u d a b)⟩
theorem cB_app (a b : List Bool) : cB (a ++ b) = cB a ++ cB b := by simp [cB]
theorem serS_take {l : Prs} {D : List Ops} {k : Nat} (hk : k < D.length) : serS l (D.take (k + 1)) = runS (serS l (D.take k)) D[k] ∧ serB l (D.take (k + 1)) = serB l (D.take k) ++ [runB (serS l (D.take k)) D[k]] := by
  rw [List.take_succ_eq_append_getElem hk]
  obtain ⟨a, b⟩ := ser_app l (D.take k) [D[k]]
  rw [a, b]; exact ⟨rfl, rfl⟩
theorem ser_len (l : Prs) (D : List Ops) (h : ∀ d ∈ D, d.length ≤ 8) : ∀ k, (serS l (D.take k)).length ≤ l.length + 16 * k
  | 0 => by simp [serS]
  | k + 1 => by
    by_cases hk : k < D.length
    · rw [(serS_take hk).1]
      have h1 := run_len (serS l (D.take k)) D[k]
      have h2 := h D[k] (List.getElem_mem hk)
      have := ser_len l D h k
      omega
    · have e : D.take (k + 1) = D.take k := by rw [List.take_of_length_le (by omega), List.take_of_length_le (by omega)]
      rw [e]; have := ser_len l D h k; omega
theorem infoBl : (Tryd.prog.info? 4).map (fun i => (i.zero, i.size, i.bytes)) = some (some (.bool false), 1, 1) := by kernel_rfl
theorem one_bool (b : Bool) : ∀ u ∈ [Value.bool b], u.oneCell' = true := by
  intro u hu; simp at hu; subst hu; rfl
set_option maxRecDepth 10000 in
set_option maxHeartbeats 2000000 in
theorem serial_ok (v vd : Value) (l : Prs) (D : List Ops) (w : World) (hv : Seg w v 2 l.length (cP l)) (hvd : SegDs w vd D) (ok : StoreOk l) (hd : ∀ d ∈ D, DeedOk d) (hf : ∀ d ∈ D, ∀ o ∈ d, o.from_.size ≤ 9223372036854775807) (hn : D.length ≤ 60) (hlen : l.length ≤ 900000) :
    Calls Tryd.prog 69 #[v, vd] w fun e w' => ∃ v' vb, e = .returned (.tuple #[v', vb, .int .i64 0]) ∧ w'.ownsRow w.heap.size 98 2 v' (serS l D).length (cP (serS l D)) ∧ w'.ownsRow w.heap.size 4 1 vb (serB l D).length (cB (serB l D)) ∧ Ext w w' := by
  obtain ⟨vs, hl, ⟨h0, a, cap, rfl, h1, h2, h3⟩, h4⟩ := hvd
  clear h0
  unfold maxLen at h2
  have H3 := hid h3
  have H4 := hid h4
  clear h3 h4
  have hl1 : vs.length ≤ D.length := by omega
  have hl2 : D.length ≤ vs.length := by omega
  clear hl
  have hlD := ser_len l D (fun d h => (hd d h).hi)
  have hok : ∀ k, StoreOk (serS l (D.take k)) := fun k => ser_ok (fun d h => hd d (List.mem_of_mem_take h)) ok
  go_enter Tryd.func69, Tryd.ntmps69
  go_wp2_with fail
  refine (scheck_any _ l _ hv (store_small ok)).mono ?_
  rw [storeErr_ok ok]
  rintro e w1 ⟨rfl, E1⟩
  go_wp2_with fail
  go_loopw [9, 10, 28] (fun _ _ i wr => ∃ k : Nat, k ≤ vs.length ∧ i = .int .i64 k ∧ Ext w wr) (fun _ _ i _ => vs.length - (intOf i).toNat)
  case atStart => exact ⟨0, Nat.zero_le _, rfl, E1⟩
  case round =>
    obtain ⟨k, hk, rfl, E⟩ := hrel
    by_cases hlt : k < vs.length
    · obtain ⟨b, off, rfl, hc⟩ := H3.out (by omega)
      have c0 := E.cell (hc k vs[k] (by simp [hlt]))
      have hs := (H4.out k vs[k] (D[k]'(by omega)) (List.getElem?_eq_getElem _) (List.getElem?_eq_getElem _)).ext E
      have dk := hd _ (List.getElem_mem (show k < D.length by omega))
      have fk := hf _ (List.getElem_mem (show k < D.length by omega))
      generalize D[k]'(by omega) = d at hs dk fk
      generalize vs[k] = u at c0 hs
      obtain ⟨au, cu, rfl⟩ := seg_form hs
      obtain ⟨W, hW, E8, b8, b81, b82, b83, b84⟩ := new_set wr 46 (.slice none 0 0) (.slice au d.length cu)
      have C := dcheck_any (.slice au d.length cu) d W (hs.ext E8) (opsSm_ok dk fk)
      rw [deedE_ok dk] at C
      have C := hid C
      clear hc
      go_wp2_with fail
      refine (C.out).mono ?_
      rintro e w2 ⟨rfl, E2⟩
      go_wp2
      go_roundw
      case rel => exact ⟨k + 1, by omega, by go_num, (E.trans E8).trans E2⟩
      case measure => simp [intOf]; omega
    · obtain rfl : k = vs.length := by omega
      go_wp2_with fail
      refine (clone_Pair _ _ _ _ (hv.ext E) (cP_one l) (by omega)).mono ?_
      rintro e w2 ⟨a2, c2, rfl, ho2, E2⟩
      have E' := E.trans E2
      have ho2' := own_base ho2 E.size'
      clear ho2 E2 E E1
      go_wp2_with fail
      go_loopw [11, 12, 14, 15, 16, 17, 42, 46] (fun o q _ _ _ _ i _ wr => ∃ k : Nat, k ≤ vs.length ∧ i = .int .i64 k ∧ wr.ownsRow w.heap.size 98 2 o (serS l (D.take k)).length (cP (serS l (D.take k))) ∧ wr.ownsRow w.heap.size 4 1 q (serB l (D.take k)).length (cB (serB l (D.take k))) ∧ Ext w wr) (fun _ _ _ _ _ _ i _ _ => vs.length - (intOf i).toNat)
      case atStart => exact ⟨0, Nat.zero_le _, rfl, ho2', World.ownsRow_nil _ _ _ _, E'⟩
      case round =>
        clear ho2' E'
        obtain ⟨k, hk, rfl, ho, hq, E⟩ := hrel
        by_cases hlt : k < vs.length
        · obtain ⟨b, off, rfl, hc⟩ := H3.out (by omega)
          have c0 := E.cell (hc k vs[k] (by simp [hlt]))
          have hkD : k < D.length := by omega
          have hs := (H4.out k vs[k] (D[k]'(by omega)) (List.getElem?_eq_getElem _) (List.getElem?_eq_getElem _)).ext E
          have dk := hd _ (List.getElem_mem (show k < D.length by omega))
          have fk := hf _ (List.getElem_mem (show k < D.length by omega))
          obtain ⟨st1, st2⟩ := serS_take (l := l) hkD
          rw [show (List.take (k + 1) D) = List.take (k+1) D from rfl] at st1
          have okk := hok k
          have lk := hlD k
          have lb : (serB l (D.take k)).length ≤ k := by rw [serB_len]; simp; omega
          generalize serS l (D.take k) = S at ho st1 st2 okk lk
          generalize serB l (D.take k) = O at hq st2 lb
          generalize D[k]'(by omega) = d at hs dk fk st1 st2
          generalize vs[k] = u at c0 hs
          obtain ⟨ao, co, rfl⟩ := own_form ho
          obtain ⟨aq, cq, rfl⟩ := own_form hq
          obtain ⟨au, cu, rfl⟩ := seg_form hs
          obtain ⟨W, hW, E8, b8, b81, b82, b83, b84⟩ := new_set wr 46 (.slice none 0 0) (.slice au d.length cu)
          have C := run_ok (.slice ao S.length co) (.slice au d.length cu) S d W ((own_seg ho).ext E8) (hs.ext E8) okk dk fk (by omega)
          have C := hid C
          have ST := hid (And.intro st1 st2)
          clear hc st1 st2
          have E9 := E.trans E8
          go_wp2_with fail
          refine (C.out).mono ?_
          rintro e w3 ⟨v3, rfl, ho3, E3⟩
          have ho3' := own_base ho3 E9.size'
          have hq3 := own_ext (own_ext hq E8) E3
          have E3' := E9.trans E3
          clear C ho3 E3 E9 E8 b8 b81 b82 b83 b84
          generalize runB S d = rb at ST ⊢
          have p1 : Seg (w3.alloc (.cells #[.bool rb] 4)) (.slice (some ⟨w3.heap.size, 0, none⟩) 1 1) 1 1 [.bool rb] := seg_one (heap_alloc_new w3 _)
          have p2 := hq3.alloc (.cells #[.bool rb] 4)
          have p3 : w.heap.size ≤ (w3.alloc (.cells #[.bool rb] 4)).heap.size := by have := E3'.size'; simp; omega
          have hbd : O.length ≤ 60 := by omega
          go_wp2_with (first | (at_builtin; refine (wpList_app rfl _ _ 72 rfl w.heap.size 4 (.bool false) 1 1 Tryd.underlying72 infoBl rfl (by decide) _ O.length (cB O) rfl p2 _ 1 [.bool rb] rfl p1 (one_bool _) (by omega) (by unfold maxLen; omega) p3 ?_); intro v' w9 ho' hg))
          go_roundw
          case rel =>
            have hne : 98 ≠ 4 := by decide
            have h9 := grown_own hg (ho3'.alloc (.cells #[.bool rb] 4)) (own_own_ne (ho3'.alloc _) p2 hne)
            refine ⟨k + 1, by omega, by go_num, ?_, ?_, (E3'.alloc _).grown hg (fun k hk => own_ge p2 k hk)⟩
            · rw [ST.out.1]; exact h9
            · rw [ST.out.2, List.length_append, cB_app]; exact ho'
          case measure => simp [intOf]; omega
        · obtain rfl : k = vs.length := by omega
          rw [List.take_of_length_le hl2] at ho hq
          go_wp2
          go_ret3
          exact ⟨_, _, rfl, ho, hq, E⟩
end Go.Proofs.YtomgeolmfpijoaaDoor
