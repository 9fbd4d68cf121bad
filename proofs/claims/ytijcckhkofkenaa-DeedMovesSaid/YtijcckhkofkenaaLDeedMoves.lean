/- Contracts and lemmas for the proofs of this seat; each theorem states its own conditions. -/
import Derived.Test.YtijcckhkofkenaaDs
import Derived.Test.YtijcckhkofkenaaSrL
import Derived.Test.YtijcckhkofkenaaS9
namespace Go.Proofs.Ytijcckhkofkenaa
open Go.RowKit
/-! what only moves keeps the total -/
def mv (o : GOp) : GOp := if o.kind = 4 then o else { o with kind := 5, from_ := if o.from_ = ⟨#[]⟩ then ⟨#[113]⟩ else o.from_ }
def mvs : Ops → Nat → Ops
  | [], _ => []
  | o :: d, 0 => o :: d
  | o :: d, j + 1 => mv o :: mvs d j
theorem mvs_len : ∀ (d : Ops) (j : Nat), (mvs d j).length = d.length
  | [], _ => rfl
  | _ :: _, 0 => rfl
  | _ :: d, j + 1 => by simp [mvs, mvs_len d j]
theorem mvs_zero (d : Ops) : mvs d 0 = d := by cases d <;> rfl
theorem mvs_at : ∀ {d : Ops} {j : Nat} (h : j < d.length), (mvs d j)[j]? = some d[j]
  | [], _, h => by simp at h
  | o :: d, 0, h => by simp [mvs]
  | o :: d, j + 1, h => by simpa [mvs] using mvs_at (d := d) (j := j) (by simpa using h)
theorem mvs_step : ∀ {d : Ops} {j : Nat} (h : j < d.length) (f : GOp → GOp), f d[j] = mv d[j] → (mvs d j).modify j f = mvs d (j + 1)
  | [], _, h, _, _ => by simp at h
  | o :: d, 0, h, f, hf => by simp at hf; simp [mvs, List.modify, hf, mvs_zero]
  | o :: d, j + 1, h, f, hf => by
    simp only [mvs, List.modify_succ_cons]
    rw [mvs_step (d := d) (j := j) (by simpa using h) f (by simpa using hf)]
theorem mvs_all : ∀ (d : Ops), mvs d d.length = d.map mv
  | [] => rfl
  | o :: d => by simp [mvs, mvs_all d]
theorem cO_cons (o : GOp) (d : Ops) : cO (o :: d) = .int .i64 o.kind :: .string o.key :: .string o.from_ :: .int .i64 o.n :: cO d := by simp [cO]
theorem cO_set0 (n : Int) : ∀ (d : Ops) (k : Nat), (cO d).set (k * 4) (.int .i64 n) = cO (d.modify k fun o => { o with kind := n })
  | [], k => by simp [cO]
  | o :: d, 0 => by simp [cO_cons]
  | o :: d, k + 1 => by
    rw [show (k + 1) * 4 = k * 4 + 1 + 1 + 1 + 1 by omega, List.modify_succ_cons, cO_cons, cO_cons]
    simp [cO_set0 n d k]
theorem cO_set2 (s : ByteArray) : ∀ (d : Ops) (k : Nat), (cO d).set (k * 4 + 1 + 1) (.string s) = cO (d.modify k fun o => { o with from_ := s })
  | [], k => by simp [cO]
  | o :: d, 0 => by simp [cO_cons]
  | o :: d, k + 1 => by
    rw [show (k + 1) * 4 + 1 + 1 = k * 4 + 1 + 1 + 1 + 1 + 1 + 1 by omega, List.modify_succ_cons, cO_cons, cO_cons]
    simp [cO_set2 s d k]
theorem own_cell_set {w : World} {B e sz n c g i : Nat} {xs : List Value} (h : w.ownsRow B e sz (.slice (some ⟨g, 0, none⟩) n c) n xs) (hi : i < xs.length) (u : Value) : (w.setCell ⟨g, i, none⟩ u).ownsRow B e sz (.slice (some ⟨g, 0, none⟩) n c) n (xs.set i u) := by
  obtain ⟨h0, h1⟩ := h
  rcases h1 with ⟨h1, _⟩ | ⟨g', cap, cur, h1, h2, h3, h4, h5, h6, h7⟩
  · cases h1
  · injection h1 with e1 _ e3
    injection e1 with e1; injection e1 with e1
    subst e1; subst e3
    refine ⟨by simpa using h0, .inr ⟨g, c, cur.setIfInBounds i u, rfl, h2, ?_, h4, h5, by simpa using h6, ?_⟩⟩
    · simp [World.setCell, Array.getElem?_modify, h3]
    · show (cur.setIfInBounds i u).toList.take (n * sz) = xs.set i u
      rw [← h7]
      rw [Array.toList_setIfInBounds, List.take_set]
theorem own_free {w : World} {B e sz n c g : Nat} {xs : List Value} (h : w.ownsRow B e sz (.slice (some ⟨g, 0, none⟩) n c) n xs) (i : Nat) : w.frozen? ⟨g, i, none⟩ = false := by
  obtain ⟨cur, hc⟩ := own_heap h
  simp [World.frozen?, hc]
theorem bytes_none {b : ByteArray} : b = ⟨#[]⟩ ↔ b.toList = [] := by
  have h0 : (⟨#[]⟩ : ByteArray).toList = [] := by simp
  constructor
  · rintro rfl; exact h0
  · intro h; exact toList_inj (h.trans h0.symm)
theorem mv_ok {o : GOp} (h : OpG o) : OpOk (mv o) := by
  unfold mv
  by_cases e : o.kind = 4
  · rw [if_pos e]; exact h.ok
  · rw [if_neg e]
    refine ⟨by show (1 : Int) ≤ 5; omega, by show (5 : Int) ≤ 5; omega, keysL_key _ h.key, fun _ => ?_, fun _ => by have := h.n0; have := h.n8; show _ ≤ o.n ∧ o.n ≤ _; omega, fun _ => h.n0⟩
    by_cases f : o.from_ = ⟨#[]⟩
    · simp only [if_pos f]; exact ⟨q_not.2, fun e => q_not.1 _ h.key e.symm⟩
    · simp only [if_neg f]
      by_cases g : o.kind = 3 ∨ o.kind = 5
      · exact h.two g
      · exact absurd (h.one (fun e => g (.inl e)) (fun e => g (.inr e))) f
theorem mv_sm {o : GOp} (h : OpG o) : (mv o).from_.size ≤ 9223372036854775807 := by
  have := h.sm
  unfold mv
  split
  · omega
  · show (if o.from_ = ⟨#[]⟩ then (⟨#[113]⟩ : ByteArray) else o.from_).size ≤ _
    split
    · decide
    · omega
theorem mv_kind (o : GOp) : (mv o).kind = 4 ∨ (mv o).kind = 5 := by
  unfold mv; split
  · left; assumption
  · right; rfl
theorem tot_do {l : Prs} (h : StoreOk l) {o : GOp} (ho : OpOk o) (hk : o.kind = 4 ∨ o.kind = 5) : totTo (doP l o).1 = totTo l := by
  unfold doP
  rcases hk with e | e
  · simp [e]
  · simp only [e, show ¬ (5 : Int) = 1 by omega, show ¬ (5 : Int) = 2 by omega, show ¬ (5 : Int) = 3 by omega, show ¬ (5 : Int) = 4 by omega, if_false]
    split
    · rfl
    · rename_i hm
      have hf := (ho.from_ (.inr e)).2
      have ho1 := storeOk_with h (ho.from_ (.inr e)).1 (n := valP l o.from_ - o.n) (by have := ho.pos e; have := val_bd h o.from_; omega)
      have t1 := tot_with' ho1.srt ho1.nz o.key (valP l o.key + o.n) totTo rfl (fun _ _ => rfl)
      have t2 := tot_with' h.srt h.nz o.from_ (valP l o.from_ - o.n) totTo rfl (fun _ _ => rfl)
      have t3 := val_with h.srt o.from_ (valP l o.from_ - o.n) o.key
      rw [if_neg hf] at t3
      show totTo (withP _ _ _) = _
      omega
theorem tot_run {d : Ops} (hd : ∀ o ∈ d, OpOk o ∧ (o.kind = 4 ∨ o.kind = 5)) : ∀ {l l' : Prs}, StoreOk l → runP l d = some l' → totTo l' = totTo l := by
  induction d with
  | nil => intro l l' _ e; injection e with e; rw [e]
  | cons o d ih =>
    intro l l' h e
    simp only [runP] at e
    split at e
    · rename_i hr
      obtain ⟨h1, h2⟩ := hd o (by simp)
      rw [ih (fun q hq => hd q (by simp [hq])) (ok_do h h1 hr) e, tot_do h h1 h2]
    · cases e
theorem tot_mv {l : Prs} (h : StoreOk l) {d : Ops} (hd : DeedG d) : DeedOk (d.map mv) ∧ (∀ o ∈ d.map mv, o.from_.size ≤ 9223372036854775807) ∧ totTo (runS l (d.map mv)) = totTo l ∧ StoreOk (runS l (d.map mv)) := by
  have h1 : ∀ o ∈ d.map mv, OpOk o ∧ (o.kind = 4 ∨ o.kind = 5) := fun o ho => by
    obtain ⟨q, hq, rfl⟩ := List.mem_map.1 ho
    exact ⟨mv_ok (hd.ops q hq), mv_kind q⟩
  refine ⟨⟨by simpa using hd.lo, by have := hd.hi; simp; omega, fun o ho => (h1 o ho).1⟩, fun o ho => ?_, ?_, (run_val h fun o ho => (h1 o ho).1).1⟩
  · obtain ⟨q, hq, rfl⟩ := List.mem_map.1 ho
    exact mv_sm (hd.ops q hq)
  · unfold runS
    cases e : runP l (d.map mv) with
    | none => rfl
    | some l' => exact tot_run h1 h e
theorem OwnDs.base {w : World} {B B' : Nat} {vs : List Value} {D : List Ops} (h : OwnDs w B vs D) (hB : B' ≤ B) : OwnDs w B' vs D := ⟨h.len, fun i u d a b => own_base (h.own i u d a b) hB, h.ne⟩
theorem OwnDs.tail {w : World} {B : Nat} {v : Value} {vs : List Value} {d : Ops} {D : List Ops} (h : OwnDs w B (v :: vs) (d :: D)) : OwnDs w B vs D :=
  ⟨by have := h.len; simpa using this, fun i u q a b => h.own (i + 1) u q (by simpa using a) (by simpa using b), fun i j u u' k hij a b hk => h.ne (i + 1) (j + 1) u u' k (by omega) (by simpa using a) (by simpa using b) hk⟩
theorem OwnDs.drops {w : World} {B : Nat} {vs : List Value} {D : List Ops} (h : OwnDs w B vs D) : ∀ k, OwnDs w B (vs.drop k) (D.drop k)
  | 0 => by simpa using h
  | k + 1 => by
    have := h.drops k
    rcases Nat.lt_or_ge k D.length with hk | hk
    · have hl := h.len
      rw [List.drop_eq_getElem_cons (show k < vs.length by omega), List.drop_eq_getElem_cons hk] at this
      exact this.tail
    · have hl := h.len
      rw [List.drop_eq_nil_of_le (by omega), List.drop_eq_nil_of_le (by omega)]
      exact OwnDs.nil _ _
theorem OwnDs.kept {w w' : World} {B g : Nat} {vs : List Value} {D : List Ops} (h : OwnDs w B vs D) (hg : w.grownBy w' (some g)) (hne : ∀ u ∈ vs, u.ownBlock ≠ some g) : OwnDs w' B vs D :=
  ⟨h.len, fun i u d a b => grown_own hg (h.own i u d a b) (.inr (hne u (List.mem_of_getElem? a))), h.ne⟩
/-- where the loop over a deed's operations stands -/
def MIn (W : World) (B g c : Nat) (d : Ops) (j : Nat) (wr : World) : Prop := wr.ownsRow B 79 4 (.slice (some ⟨g, 0, none⟩) d.length c) d.length (cO (mvs d j)) ∧ W.grownBy wr (some g)
theorem min_step {W wr : World} {B g c j : Nat} {d : Ops} (h : MIn W B g c d j wr) (hj : j < d.length) : 
    (d[j].kind = 4 → MIn W B g c d (j + 1) wr) ∧
    (d[j].kind ≠ 4 → d[j].from_ ≠ ⟨#[]⟩ → MIn W B g c d (j + 1) (wr.setCell ⟨g, j * 4, none⟩ (.int .i64 5))) ∧
    (d[j].kind ≠ 4 → d[j].from_ = ⟨#[]⟩ → MIn W B g c d (j + 1) ((wr.setCell ⟨g, j * 4, none⟩ (.int .i64 5)).setCell ⟨g, j * 4 + 2, none⟩ (.string ⟨#[113]⟩))) := by
  obtain ⟨h1, h2⟩ := h
  have hl := mvs_len d j
  have hc : j * 4 < (cO (mvs d j)).length := by rw [cO_len, hl]; omega
  refine ⟨fun k => ⟨?_, h2⟩, fun k f => ⟨?_, h2.trans (set_grown _ _ _)⟩, fun k f => ⟨?_, (h2.trans (set_grown _ _ _)).trans (set_grown _ _ _)⟩⟩
  · have := mvs_step hj id (by simp [mv, k])
    rw [← this]
    simpa using h1
  · have e := own_cell_set h1 hc (.int .i64 5)
    rw [cO_set0, mvs_step hj _ (by simp [mv, k, f])] at e
    exact e
  · have e := own_cell_set h1 hc (.int .i64 5)
    rw [cO_set0] at e
    have e2 := own_cell_set e (i := j * 4 + 2) (by rw [cO_len]; simp [hl]; omega) (.string ⟨#[113]⟩)
    rw [show j * 4 + 2 = j * 4 + 1 + 1 from rfl, cO_set2, List.modify_modify_eq, mvs_step hj _ (by simp [mv, k, f])] at e2
    exact e2
theorem min_mid {W wr : World} {B g c j : Nat} {d : Ops} (h : MIn W B g c d j wr) (hj : j < d.length) :
    (wr.setCell ⟨g, j * 4, none⟩ (.int .i64 5)).cell? ⟨g, j * 4 + 2, none⟩ = some (.string d[j].from_) ∧ (wr.setCell ⟨g, j * 4, none⟩ (.int .i64 5)).frozen? ⟨g, j * 4 + 2, none⟩ = false := by
  have hl := mvs_len d j
  have hc : j * 4 < (cO (mvs d j)).length := by rw [cO_len, hl]; omega
  have e := own_cell_set h.1 hc (.int .i64 5)
  refine ⟨?_, own_free e _⟩
  obtain ⟨_, _, he, _, _, _, hcc⟩ := seg_cells (own_seg e) (by omega)
  injection he with he; injection he with he1 he2
  subst he1; subst he2
  have hget : (mvs d j)[j]'(by omega) = d[j] := by have := mvs_at hj; rwa [List.getElem?_eq_getElem (by omega), Option.some.injEq] at this
  have := hcc (j * 4 + 2) (.string d[j].from_) (by
    rw [List.getElem?_set_ne (by omega), cO_at2 _ j (by omega), hget])
  rwa [Nat.zero_add] at this
set_option maxRecDepth 100000 in
set_option maxHeartbeats 1000000 in
theorem moves_walk (v vd : Value) (l : List Int) (ls : List (List Int)) (w : World) (hv : Seg w v 1 l.length (cI l)) (hb : ∀ z ∈ l, -9223372036854775808 ≤ z ∧ z ≤ 9223372036854775807) (hvd : SegLL w vd ls) :
    Calls Try.prog 14 #[v, vd] w fun e w' => e = .returned (.bool true) ∧ Ext w w' := by
  go_enter Try.func14, Try.ntmps14
  go_wp2_with fail
  refine (deedBegun_any _).mono ?_
  rintro e w1 ⟨rfl, E⟩
  replace hv := hv.ext E
  replace hvd := hvd.ext E
  go_wp2_with fail
  refine (pairs_any _ l _ hv hb).mono ?_
  rintro e w2 ⟨vs, S, rfl, oS, lS, hS, E1⟩
  have hS := own_base hS E.size'
  obtain ⟨a0, c0, rfl⟩ := own_form hS
  replace E := Ext.trans E (E1)
  replace hvd := hvd.ext E1
  clear E1 hv
  go_wp2_with fail
  refine (total_ok _ S _ (own_seg hS) (store_small oS) (by omega) (storeErr_ok oS)).mono ?_
  rintro e w3 ⟨rfl, E1⟩
  replace hS := own_ext hS E1
  replace hvd := hvd.ext E1
  replace E := Ext.trans E (E1)
  clear E1
  go_wp2_with fail
  refine (deeds_any _ ls 10 _ hvd (by omega)).mono ?_
  rintro e w4 ⟨vD, us, D, rfl, hout, hds, hdg, hdl, E1⟩
  have hl := hds.len
  obtain ⟨aD, cD, rfl⟩ := own_form hout
  replace hS := own_ext hS E1
  replace hout := own_base hout E.size'
  replace hds := hds.base E.size'
  replace E := E.trans E1
  clear E1 hvd
  have hl1 : us.length ≤ D.length := by omega
  have hl2 : D.length ≤ us.length := by omega
  have hne := hds.ne
  have hds' := hds.drops 0
  clear hl hds
  obtain ⟨tt, htt⟩ : ∃ t, totTo S = t := ⟨_, rfl⟩
  have HT := hid htt
  rw [htt]
  have HN := hid hne
  clear hne htt
  go_wp2_with fail
  go_loopw [5, 9, 10, 11, 12, 13, 14, 15, 16, 31, 62, 69] (fun s _ _ _ _ _ _ _ _ i _ _ wr => ∃ (k : Nat) (T : Prs), k ≤ us.length ∧ i = .int .i64 k ∧ StoreOk T ∧ T.length ≤ 30 + 16 * k ∧ totTo T = tt ∧ wr.ownsRow w.heap.size 90 2 s T.length (cP T) ∧ wr.ownsRow w.heap.size 52 1 (.slice aD us.length cD) us.length us ∧ OwnDs wr w.heap.size (us.drop k) (D.drop k) ∧ Ext w wr) (fun _ _ _ _ _ _ _ _ _ i _ _ _ => us.length - (intOf i).toNat)
  case atStart => exact ⟨0, S, Nat.zero_le _, rfl, oS, by omega, HT.out, hS, hout, hds', E⟩
  case round =>
    obtain ⟨wo, rfl⟩ : ∃ wo : World, wo = wr := ⟨_, rfl⟩
    clear hS hout hds' E HT
    obtain ⟨k, T, hk, rfl, oT, lT, tT, hS, hout, hds, E⟩ := hrel
    obtain ⟨a9, c9, rfl⟩ := own_form hS
    by_cases hlt : k < us.length
    · obtain ⟨b, off, rfl, _, _, _, hc⟩ := seg_cells (own_seg hout) (by omega)
      have x0 := hc k us[k] (by simp [hlt])
      have hkD : k < D.length := by omega
      have gk := hdg _ (List.getElem_mem hkD)
      rw [List.drop_eq_getElem_cons hlt, List.drop_eq_getElem_cons hkD] at hds
      have hop := hds.own 0 us[k] D[k] rfl rfl
      have htl := hds.tail
      have hap : ∀ u ∈ us.drop (k + 1), ∀ g, us[k].ownBlock = some g → u.ownBlock ≠ some g := fun u hu g hg => by
        obtain ⟨i, hi, rfl⟩ := List.mem_iff_getElem.1 hu
        exact hds.ne 0 (i + 1) us[k] _ g (by omega) rfl (by rw [List.getElem?_cons_succ]; exact List.getElem?_eq_getElem hi) hg
      clear hc hds
      generalize us[k] = u at x0 hop hap
      generalize D[k] = d at gk hop
      have hd1 := gk.lo
      have hd4 := gk.hi
      obtain ⟨au, cu, rfl⟩ := own_form hop
      obtain ⟨g, rfl, hg1, hg2, hg3, hg4⟩ := own_pos hop (by omega)
      obtain ⟨W, hW, E8, b8, b81, b82, b83, b84⟩ := new_set wo 52 (.slice none 0 0) (.slice (some ⟨g, 0, none⟩) d.length cu)
      go_wp2
      clear hW b82 b83
      go_loopw [10, 11, 38] (fun _ _ i w2 => ∃ j : Nat, j ≤ d.length ∧ i = .int .i64 j ∧ MIn W w.heap.size g cu d j w2) (fun _ _ i _ => d.length - (intOf i).toNat)
      case atStart => exact ⟨0, Nat.zero_le _, rfl, by rw [mvs_zero]; exact own_ext hop E8, World.grownBy.refl _ _⟩
      case round =>
        obtain ⟨j, hj, rfl, hM⟩ := hrel
        have hb2 := grown_heap hM.2 b8 (by intro e; injection e with e; omega)
        have c8 := cell_of_one hb2
        by_cases hjl : j < d.length
        · have hm := mvs_len d j
          obtain ⟨_, _, he, _, _, _, hcc⟩ := seg_cells (own_seg hM.1) (by omega)
          injection he with he; injection he with he1 he2
          subst he1; subst he2
          have hget : (mvs d j)[j]'(by omega) = d[j] := by have := mvs_at hjl; rwa [List.getElem?_eq_getElem (by omega), Option.some.injEq] at this
          obtain ⟨y0, y1, y2, y3⟩ := seg_op hcc (k := j) (by omega)
          rw [hget, Nat.zero_add] at y0 y2
          rw [show j * 4 + 1 + 1 = j * 4 + 2 from rfl] at y2
          clear hcc y1 y3 hget hm
          have f0 := own_free hM.1 (j * 4)
          have f2 := own_free hM.1 (j * 4 + 2)
          obtain ⟨m1, m2, m3⟩ := min_step hM hjl
          have M1 := hid m1
          have M2 := hid m2
          have M3 := hid m3
          clear m1 m2 m3
          generalize hko : d[j].kind = kd at y0
          generalize hfr : d[j].from_ = fr at y2
          obtain ⟨n1, n2⟩ := min_mid hM hjl
          rw [hfr] at n1
          have gne : g ≠ wo.heap.size := by omega
          have c8' : (wr.setCell ⟨g, j * 4, none⟩ (.int .i64 5)).cell? ⟨wo.heap.size, 0, none⟩ = _ := cell_set_far c8 gne
          by_cases h4 : kd = 4
          · have q4 : (kd != 4) = false := by simp [h4]
            have R := hid (M1.out (hko.trans h4))
            clear h4 hko hfr
            go_wp2
            go_roundw
            case rel => exact ⟨j + 1, by omega, by go_num, R.out⟩
            case measure => simp [intOf]; omega
          · have q4 : (kd != 4) = true := by simp [h4]
            by_cases h0 : fr = ⟨#[]⟩
            · have R := hid (M3.out (by rw [hko]; exact h4) (by rw [hfr]; exact h0))
              have q0 := bytes_none.1 h0
              clear h4 hko hfr h0
              go_wp2
              go_roundw
              case rel => exact ⟨j + 1, by omega, by go_num, R.out⟩
              case measure => simp [intOf]; omega
            · have R := hid (M2.out (by rw [hko]; exact h4) (by rw [hfr]; exact h0))
              have q0 : ¬ fr.toList = [] := fun e => h0 (bytes_none.2 e)
              have q1 : (fr.toList == []) = false := by simp [q0]
              have q2 : fr.toList.isEmpty = false := by simp [q0]
              clear h4 hko hfr h0
              go_wp2
              go_roundw
              case rel => exact ⟨j + 1, by omega, by go_num, R.out⟩
              case measure => simp [intOf]; omega
        · obtain rfl : j = d.length := by omega
          obtain ⟨hM1, hM2⟩ := hM
          rw [mvs_all] at hM1
          obtain ⟨r1, r2, r3, r4⟩ := tot_mv oT gk
          rw [tT] at r3
          have lR := run_len T (d.map mv)
          have hlm : (d.map mv).length = d.length := by simp
          rw [hlm] at lR
          have hso : Seg wr (.slice (some ⟨g, 0, none⟩) d.length cu) 4 (d.map mv).length (cO (d.map mv)) := by rw [hlm]; exact own_seg hM1
          have hS' := grown_own hM2 (own_ext hS E8) (own_own_ne (own_ext hS E8) (own_ext hop E8) (by decide))
          have hout' := grown_own hM2 (own_ext hout E8) (own_own_ne (own_ext hout E8) (own_ext hop E8) (by decide))
          have htl' := (htl.ext E8).kept hM2 (fun u hu => hap u hu g rfl)
          have E' : Ext w wr := (E.trans E8).grown hM2 (fun k hk => by injection hk with hk; omega)
          have K := hid (krun_ok (.slice a9 T.length c9) (.slice (some ⟨g, 0, none⟩) d.length cu) T (d.map mv) wr (own_seg hS') hso oT r1 r2 (by omega))
          clear hM1 hM2 hS hout htl hap E E8 hop hlm hso
          generalize runS T (d.map mv) = T' at K r3 r4 lR
          generalize runB T (d.map mv) = ok at K
          have R3 := hid r3
          clear r3
          go_wp2_with fail
          refine (K.out).mono ?_
          rintro e w5 ⟨v5, rfl, ho5, E5⟩
          have ho5' := own_base ho5 E'.size'
          obtain ⟨a5, c5, rfl⟩ := own_form ho5
          clear K ho5
          have TK := total_ok (.slice a5 T'.length c5) T' w5 (own_seg ho5') (store_small r4) (by omega) (storeErr_ok r4)
          rw [R3.out] at TK
          have TK := hid TK
          go_wp2_with fail
          refine (TK.out).mono ?_
          rintro e w6 ⟨rfl, E6⟩
          clear TK
          have qt : (tt != tt) = false := by simp
          go_wp2
          go_roundw
          case rel => exact ⟨k + 1, T', by omega, by go_num, r4, by omega, R3.out, own_ext ho5' E6, own_ext (own_ext hout' E5) E6, (htl'.ext E5).ext E6, (E'.trans E5).trans E6⟩
          case measure => simp [intOf]; omega
    · go_wp2
      go_ret
      exact ⟨rfl, E⟩
end Go.Proofs.Ytijcckhkofkenaa
