/- Contracts and lemmas for the proof of CopiesSame; each theorem states its own conditions. -/
import Derived.Test.YtimchedebcoohaaGreatQCopiesSamear
import Derived.Test.YtimchedebcoohaaGreatQCopiesSameas
import Derived.Test.YtimchedebcoohaaGreatQCopiesSamean
import Derived.Test.YtimchedebcoohaaGreatQCopiesSameap
set_option linter.unusedVariables false
set_option linter.unusedSimpArgs false
/- Contracts and lemmas for the proofs of this seat; each theorem states its own conditions. -/
namespace Go.Proofs.YtimchedebcoohaaGreat
open Go.RowKit Go.Maps
/-! the lock table, in memory -/
/-- the keys of a deed, in order, each once -/
def tkL (d : Ops) : List ByteArray := sortU (sortU (rds d) ++ sortU (wrs d))
theorem tkL_mem (d : Ops) (k : ByteArray) : k ∈ tkL d ↔ tchB d k = true := by
  rw [tkL, sortU_mem, List.mem_append, sortU_mem, sortU_mem, tchB_iff]
structure LockSt (w : World) (B bt bk bd : Nat) (A : List Ops) (g : Nat → Bool) (F : ByteArray → Option SV) (G : Int → Option SV) : Prop where
  hBt : B ≤ bt
  hBk : B ≤ bk
  hBd : B ≤ bd
  ne : bk ≠ bd
  box : w.heap[bt]? = some (.cells #[.map (some bk), .map (some bd), .int .i64 A.length] 177 (0, 0))
  km : ∃ n D, w.ownsMap Tryz.prog 9 svElem bk n D ∧ n ≤ 32 * (A.length + (A.length - liveN g A.length)) ∧ MapF kS okS dV D F
  dm : ∃ n D, w.ownsMap Tryz.prog 3 svElem bd n D ∧ n ≤ A.length ∧ MapF kI okI dV D G ∧ size D = liveN g A.length
  keys : ∀ k, w.ownsRow B 181 2 (svV ((F k).getD none)) (clmTo A g k A.length).length (cK (clmTo A g k A.length))
  apart : ∀ k k' s s', k ≠ k' → F k = some s → F k' = some s' → (svV s).ownBlock = none ∨ (svV s).ownBlock ≠ (svV s').ownBlock
  rows : ∀ n : Nat, n < A.length → g n = false → ∃ s, G (n : Int) = some s ∧ w.ownsRow B 9 1 (svV s) (tkL (A.getD n [])).length (cS (tkL (A.getD n [])))
  nones : ∀ z : Int, (∀ n : Nat, z = (n : Int) → n < A.length → g n = false → False) → G z = none
  later : ∀ n, A.length ≤ n → g n = false
  few : A.length ≤ 60
  dok : ∀ d ∈ A, DeedOk d
theorem LockSt.ext {w w' : World} {B bt bk bd : Nat} {A : List Ops} {g : Nat → Bool} {F : ByteArray → Option SV} {G : Int → Option SV} (h : LockSt w B bt bk bd A g F G) (E : Ext w w') : LockSt w' B bt bk bd A g F G where
  hBt := h.hBt
  hBk := h.hBk
  hBd := h.hBd
  ne := h.ne
  box := E.heap h.box
  km := by obtain ⟨n, D, a, b⟩ := h.km; exact ⟨n, D, ownsMap_ext a E, b⟩
  dm := by obtain ⟨n, D, a, b⟩ := h.dm; exact ⟨n, D, ownsMap_ext a E, b⟩
  keys := fun k => own_ext (h.keys k) E
  apart := h.apart
  rows := fun n a b => by obtain ⟨s, e, o⟩ := h.rows n a b; exact ⟨s, e, own_ext o E⟩
  nones := h.nones
  later := h.later
  few := h.few
  dok := h.dok
/-- what a table may turn: itself, its maps, its rows of claims -/
def TFr (B bt bk bd : Nat) (w w' : World) : Prop :=
  w'.os = w.os ∧ w'.tape = w.tape ∧ w'.output = w.output ∧ w.heap.size ≤ w'.heap.size ∧
  ∀ i, i < w.heap.size → w'.heap[i]? = w.heap[i]? ∨ (B ≤ i ∧ (i = bt ∨ i = bk ∨ i = bd ∨ ∃ cs, w.heap[i]? = some (.cells cs 181 (0, 0))))
theorem TFr.of_ext {B bt bk bd : Nat} {w w' : World} (E : Ext w w') : TFr B bt bk bd w w' := ⟨E.os, E.tape, E.output, E.size', fun i hi => .inl (Below.block E i hi)⟩
theorem TFr.refl {B bt bk bd : Nat} (w : World) : TFr B bt bk bd w w := TFr.of_ext (Ext.refl w)
theorem TFr.trans {B bt bk bd : Nat} {a b c : World} (h : TFr B bt bk bd a b) (k : TFr B bt bk bd b c) : TFr B bt bk bd a c := by
  obtain ⟨h1, h2, h3, h4, h5⟩ := h
  obtain ⟨k1, k2, k3, k4, k5⟩ := k
  refine ⟨k1.trans h1, k2.trans h2, k3.trans h3, Nat.le_trans h4 k4, fun i hi => ?_⟩
  rcases h5 i hi with e | e
  · rcases k5 i (by omega) with e' | ⟨e1, e'⟩
    · exact .inl (e'.trans e)
    · refine .inr ⟨e1, ?_⟩
      rcases e' with e' | e' | e' | ⟨cs, e'⟩
      · exact .inl e'
      · exact .inr (.inl e')
      · exact .inr (.inr (.inl e'))
      · exact .inr (.inr (.inr ⟨cs, by rw [← e]; exact e'⟩))
  · exact .inr e
/-- below the table nothing turns -/
theorem TFr.low {B bt bk bd : Nat} {w0 w w' : World} (h : TFr B bt bk bd w w') (E : Ext w0 w) (hB : w0.heap.size ≤ B) : Ext w0 w' := by
  obtain ⟨h1, h2, h3, h4, h5⟩ := h
  have hs := E.size'
  refine ⟨h1.trans E.os, h2.trans E.tape, h3.trans E.output, by omega, fun i hi => ?_⟩
  rcases h5 i (by omega) with e | ⟨e, _⟩
  · exact e.trans (Below.block E i hi)
  · omega
/-- rows of other elements stand -/
theorem TFr.own {B bt bk bd : Nat} {w w' : World} (h : TFr B bt bk bd w w') {A : List Ops} {g : Nat → Bool} {F : ByteArray → Option SV} {G : Int → Option SV} (hl : LockSt w B bt bk bd A g F G) {B' e sz n : Nat} {v : Value} {xs : List Value} (ho : w.ownsRow B' e sz v n xs) (h1 : e ≠ 181) (h2 : e ≠ 177) : w'.ownsRow B' e sz v n xs := by
  refine ⟨ho.1, ?_⟩
  rcases ho.2 with hn | ⟨b, cap, cur, rfl, hb, hg, rest⟩
  · exact .inl hn
  · right
    refine ⟨b, cap, cur, rfl, hb, ?_, rest⟩
    rcases h.2.2.2.2 b (Array.getElem?_eq_some_iff.1 hg).1 with e' | ⟨_, e' | e' | e' | ⟨cs, e'⟩⟩
    · rw [e']; exact hg
    · subst e'; rw [hl.box] at hg; injection hg with hg; injection hg with _ hg; exact absurd hg.symm h2
    · subst e'
      obtain ⟨n, D, ⟨es, clock, hm, _⟩, _⟩ := hl.km
      rw [hm] at hg; cases hg
    · subst e'
      obtain ⟨n, D, ⟨es, clock, hm, _⟩, _⟩ := hl.dm
      rw [hm] at hg; cases hg
    · rw [e'] at hg; injection hg with hg; injection hg with _ hg; exact absurd hg.symm h1
theorem lawStr : Keyed Tryz.prog 9 := string_keyed Tryz.underlying9
theorem lawInt : Keyed Tryz.prog 3 := int_keyed Tryz.underlying3
theorem lock_new (w : World) : LockSt ((((w.alloc (.map #[] 0)).alloc (.map #[] 0))).alloc (.cells #[.map (some w.heap.size), .map (some (w.heap.size + 1)), .int .i64 0] 177)) w.heap.size (w.heap.size + 2) w.heap.size (w.heap.size + 1) [] (fun _ => false) (fun _ => none) (fun _ => none) where
  hBt := by omega
  hBk := by omega
  hBd := by omega
  ne := by omega
  box := by
    have := heap_alloc_new ((w.alloc (.map #[] 0)).alloc (.map #[] 0)) (.cells #[.map (some w.heap.size), .map (some (w.heap.size + 1)), .int .i64 0] 177)
    simpa using this
  km := ⟨0, .map [], ((World.ownsMap_made w _ _ _).alloc _).alloc _, by simp, MapF.empty⟩
  dm := ⟨0, .map [], by
    have := (World.ownsMap_made (w.alloc (.map #[] 0)) Tryz.prog 3 svElem).alloc (.cells #[.map (some w.heap.size), .map (some (w.heap.size + 1)), .int .i64 0] 177)
    simpa using this, by simp, MapF.empty, rfl⟩
  keys := fun k => World.ownsRow_nil _ _ _ _
  apart := fun k k' s s' _ h => by cases h
  rows := fun n h => by simp at h
  nones := fun _ _ => rfl
  later := fun _ _ => rfl
  few := by simp
  dok := by simp
end Go.Proofs.YtimchedebcoohaaGreat

/- Contracts and lemmas for the proofs of this seat; each theorem states its own conditions. -/
namespace Go.Proofs.YtimchedebcoohaaGreat
open Go.RowKit Go.Maps
/-! lock.New, holds, May, Ready, Left -/
theorem lnew_any (w : World) : Calls Tryz.prog 103 #[] w fun e w' => e = .returned (.pointer (some ⟨w.heap.size + 2, 0, none⟩)) ∧ LockSt w' w.heap.size (w.heap.size + 2) w.heap.size (w.heap.size + 1) [] (fun _ => false) (fun _ => none) (fun _ => none) ∧ Ext w w' := by
  have hmm := @run_makeMap Tryz.prog
  have L := lock_new w
  go_enter Tryz.func103, Tryz.ntmps103
  go_wp2
  go_ret
  exact ⟨rfl, L, ((((Ext.refl w).alloc _).alloc _).alloc _)⟩
theorem holds_hit {l : Clm} {s j : Nat} (hj : j < l.length) (hlo : ∀ i (h : i < j), (l[i]'(by omega)).1 ≠ s) (h : l[j].1 = s) : holdsL l s = (decide (j = 0) || (!l[j].2 && !((l.take j).any fun c => c.2))) := by
  have e : l = l.take j ++ l[j] :: l.drop (j + 1) := by rw [← List.drop_eq_getElem_cons hj, List.take_append_drop]
  unfold holdsL
  conv => lhs; rw [e]
  rw [holdsG_pre (fun c hc => by
    obtain ⟨i, hi, rfl⟩ := List.mem_iff_getElem.1 hc
    rw [List.length_take] at hi
    rw [List.getElem_take]
    exact hlo i (by omega))]
  rw [holdsG, if_pos h]
  have e2 : (l.take j).isEmpty = decide (j = 0) := by
    cases j with
    | zero => simp
    | succ j => 
      have : l ≠ [] := by rintro rfl; simp at hj
      simp [this]
  rw [e2]; simp
theorem holds_miss {l : Clm} {s : Nat} : ∀ {f m : Bool}, (∀ c ∈ l, c.1 ≠ s) → holdsG f m s l = false := by
  induction l with
  | nil => intro f m _; rfl
  | cons c l ih => intro f m h; rw [holdsG, if_neg (h c (by simp))]; exact ih fun d hd => h d (by simp [hd])
theorem holds1_any (x : Nat × Bool) (w : World) : Calls Tryz.prog 143 #[.agg #[.int .i64 x.1, .bool x.2]] w fun e w' => e = .returned (.bool x.2) ∧ Ext w w' := by
  have xb := blk2 (heap_alloc_new w (.cells #[.int .i64 x.1, .bool x.2] 181))
  go_enter Tryz.func143, Tryz.ntmps143
  go_wp2
  go_ret
  exact ⟨rfl, (Ext.refl w).alloc _⟩
theorem seg_takeK {w : World} {b off c : Nat} {l : Clm} (hc : ∀ j u, (cK l)[j]? = some u → w.cell? ⟨b, off + j, none⟩ = some u) {j : Nat} (hj : j ≤ l.length) (h1 : l.length ≤ c) (h2 : c ≤ maxLen) : Seg w (.slice (some ⟨b, off, none⟩) j c) 2 (l.take j).length (cK (l.take j)) := by
  have hl : (l.take j).length = j := by rw [List.length_take]; omega
  refine ⟨by rw [cK_len], some ⟨b, off, none⟩, c, by rw [hl], by omega, h2, fun _ => ⟨b, off, rfl, fun i u hu => hc i u ?_⟩⟩
  have e : cK l = cK (l.take j) ++ cK (l.drop j) := by rw [← cK_app, List.take_append_drop]
  rw [e, List.getElem?_append_left (List.getElem?_eq_some_iff.1 hu).1]
  exact hu
set_option maxRecDepth 10000 in
set_option maxHeartbeats 2000000 in
theorem holds_any {w : World} {B bt bk bd : Nat} {A : List Ops} {g : Nat → Bool} {F : ByteArray → Option SV} {G : Int → Option SV} (h : LockSt w B bt bk bd A g F G) (s : Nat) (key : ByteArray) (hk : okS key) :
    Calls Tryz.prog 125 #[.pointer (some ⟨bt, 0, none⟩), .int .i64 s, .string key] w fun e w' => e = .returned (.bool (holdsL (clmTo A g key A.length) s)) ∧ Ext w w' := by
  have hown0 := h.keys key
  have hkey := WideMaps.keyOf_string_mk Tryz.underlying9 (P := Tryz.prog) (k := 9) (s := key) hk
  obtain ⟨n, D, hmap, hn, hF⟩ := h.km
  have hbox := h.box
  have hfew := h.few
  obtain ⟨ac, cc, hsv⟩ := own_form hown0
  rw [hsv] at hown0
  have hseg := own_seg hown0
  have hcl := fun c (hc : c ∈ clmTo A g key A.length) => (clm_mem.1 hc).1
  have hlen : (clmTo A g key A.length).length ≤ 1000000 := by
    have : ∀ n, (clmTo A g key n).length ≤ n := by
      intro n; induction n with
      | zero => simp [clmTo]
      | succ n ih => rw [clmTo, List.length_append]; unfold clm1; split <;> simp <;> omega
    have := this A.length; omega
  obtain ⟨l, hl⟩ : ∃ l, clmTo A g key A.length = l := ⟨_, rfl⟩
  rw [hl] at hseg hsv hcl hlen
  have HL := hid hl
  have HCL := hid hcl
  clear hl hown0 hcl
  have hzero := fun w => Tryz.zeroValue178 w
  have cb : w.cell? ⟨bt, 0, none⟩ = some (.map (some bk)) := by simp [World.cell?, hbox]
  obtain ⟨_, aa, c', hq, h1, h2, h3⟩ := hseg
  injection hq with hq1 _ hq3
  subst hq1; subst hq3
  unfold maxLen at h2
  have H3 := hid h3
  clear h3
  go_enter Tryz.func125, Tryz.ntmps125
  go_wp2_with (first | (at_lookup; refine wpList_lookup_sv _ rfl _ _ 174 rfl 9 178 lawStr Tryz.underlying174 (hzero _) bk n D F hF rfl hmap _ key hk rfl hkey ?_))
  go_loopw [7, 8, 16] (fun _ _ iv wr => ∃ j : Nat, j ≤ l.length ∧ iv = .int .i64 j ∧ (∀ i (h : i < l.length), i < j → l[i].1 ≠ s) ∧ Ext w wr) (fun _ _ iv _ => l.length - (intOf iv).toNat)
  case atStart => exact ⟨0, Nat.zero_le _, rfl, fun i _ h => by omega, Ext.refl _⟩
  case round =>
    obtain ⟨j, hj, rfl, hn, E⟩ := hrel
    have HN := hid hn
    clear hn
    by_cases hlt : j < l.length
    · obtain ⟨b, off, rfl, hcell⟩ := H3.out (by omega)
      have x0 := E.cell (hcell (j * 2) _ (cK_at l j hlt).1)
      have x1 := E.cell (hcell (j * 2 + 1) _ (cK_at l j hlt).2)
      rw [← Nat.add_assoc] at x1
      have HIT := hid (fun h => holds_hit (s := s) hlt (fun i hi => HN.out i (by omega) hi) h)
      have HS := hid (fun (h : l[j].1 ≠ s) => (fun i (hi : i < l.length) (h' : i < j + 1) => by
        rcases Nat.lt_or_ge i j with h2 | h2
        · exact HN.out i hi h2
        · have : i = j := by omega
          subst this; exact h : ∀ i (hi : i < l.length), i < j + 1 → l[i].1 ≠ s))
      have ST := hid (seg_takeK (fun i u hu => E.cell (hcell i u hu)) (Nat.le_of_lt hlt) h1 h2)
      have hcs := HCL.out _ (List.getElem_mem hlt)
      clear hcell
      generalize l[j] = c at x0 x1 HIT HS hcs
      obtain ⟨c1, c2⟩ := c
      dsimp only at x0 x1 HIT HS hcs
      have EA := (Ext.refl wr).alloc (.cells #[.int .i64 c1, .bool c2] 181)
      have xb := blk2 (heap_alloc_new wr (.cells #[.int .i64 c1, .bool c2] 181))
      by_cases hs : c1 = s
      · have qs : ((c1 : Int) == (s : Int)) = true := by simp [hs]
        have HR := hid (HIT.out hs)
        clear HIT HS hs
        by_cases hj0 : j = 0
        · have q0 : ((j : Int) == 0) = true := by simp [hj0]
          have hr : holdsL l s = true := by rw [HR.out]; simp [hj0]
          have HR2 := hid hr
          clear hr hj0
          go_wp2
          go_ret
          exact ⟨rB (by rw [HL.out, HR2.out]), E.trans EA⟩
        · have q0 : ((j : Int) == 0) = false := by simp [hj0]
          cases c2 with
          | true =>
            have hr : holdsL l s = false := by rw [HR.out]; simp [hj0]
            have HR2 := hid hr
            clear hr hj0
            go_wp2
            go_ret
            exact ⟨rB (by rw [HL.out, HR2.out]), E.trans EA⟩
          | false =>
            have hr : holdsL l s = !((l.take j).any fun c => c.2) := by rw [HR.out]; simp [hj0]
            have HR2 := hid hr
            clear hr hj0
            have E1 := E.trans EA
            have hmap1 := ownsMap_ext hmap E1
            have cb1 := E1.cell cb
            have CF := hid (containsF_K 143 #[] (enters_of Tryz.func143 (by kernel_rfl) rfl) (fun c => c.2) _ (l.take j) (wr.alloc (.cells #[.int .i64 c1, .bool false] 181)) (ST.out.ext EA) (fun x _ w' _ => holds1_any x w'))
            have hji : (j : Int) ≤ (l.length : Int) := by omega
            have hjc : (j : Int) ≤ (cc : Int) := by omega
            go_wp2_with (first | (at_lookup; refine wpList_lookup_svg _ (by rfl) _ _ 174 rfl 9 178 lawStr Tryz.underlying174 (hzero _) bk n D F hF rfl hmap1 _ key hk rfl hkey ?_))
            refine (CF.out).mono ?_
            rintro e wa ⟨rfl, Ea⟩
            go_wp2
            go_ret
            exact ⟨rB (by rw [HL.out, HR2.out]), E1.trans Ea⟩
      · have qs : ((c1 : Int) == (s : Int)) = false := by simp; omega
        have HS2 := hid (HS.out hs)
        clear HS HIT hs
        go_wp2
        go_roundw
        case rel => exact ⟨j + 1, by omega, by go_num, HS2.out, E.trans EA⟩
        case measure => simp [intOf]; omega
    · obtain rfl : j = l.length := by omega
      have hr : holdsL l s = false := holds_miss fun c hc => by
        obtain ⟨i, hi, rfl⟩ := List.mem_iff_getElem.1 hc
        exact HN.out i hi hi
      have HR2 := hid hr
      clear hr
      go_wp2
      go_ret
      exact ⟨rB (by rw [HL.out, HR2.out]), E⟩
end Go.Proofs.YtimchedebcoohaaGreat

/- Contracts and lemmas for the proofs of this seat; each theorem states its own conditions. -/
namespace Go.Proofs.YtimchedebcoohaaGreat
open Go.RowKit
/-! plain laws of Join, Scan, Total -/
def joinP (a b : Prs) : Prs := b.foldl (fun o p => withP o p.1 p.2) a
theorem join_nil (a : Prs) : joinP a [] = a := rfl
theorem join_cons (a : Prs) (p : ByteArray × Int) (b : Prs) : joinP a (p :: b) = joinP (withP a p.1 p.2) b := rfl
theorem join_snoc (a b : Prs) (p : ByteArray × Int) : joinP a (b ++ [p]) = withP (joinP a b) p.1 p.2 := by simp [joinP, List.foldl_append]
theorem join_step {a b : Prs} {k : Nat} (hk : k < b.length) : joinP a (b.take (k + 1)) = withP (joinP a (b.take k)) b[k].1 b[k].2 := by
  rw [List.take_succ_eq_append_getElem hk, join_snoc]
theorem join_len (a b : Prs) : (joinP a b).length ≤ a.length + b.length := by
  induction b generalizing a with
  | nil => simp [join_nil]
  | cons p b ih =>
    have := ih (withP a p.1 p.2)
    have := with_len a p.1 p.2
    rw [join_cons, List.length_cons]; omega
theorem join_srt {a : Prs} (b : Prs) (h : srtP a) : srtP (joinP a b) := by
  induction b generalizing a with
  | nil => exact h
  | cons p b ih => exact ih (srt_with h _ _)
theorem join_okS {a b : Prs} (h : StoreOk a) (hb : StoreOk b) : StoreOk (joinP a b) := by
  have : ∀ l : Prs, (∀ p ∈ l, keyB p.1 = true ∧ -1000000000 ≤ p.2 ∧ p.2 ≤ 1000000000) → ∀ a, StoreOk a → StoreOk (joinP a l) := by
    intro l
    induction l with
    | nil => intro _ a h; exact h
    | cons p l ih =>
      intro hl a h
      have hp := hl p (by simp)
      exact ih (fun q hq => hl q (by simp [hq])) _ (storeOk_with h hp.1 hp.2)
  exact this b (fun p hp => ⟨hb.key p hp, (hb.val p hp).2⟩) a h
theorem val_join {a b : Prs} (ha : srtP a) (hb : srtP b) (hz : nzP b) (k : ByteArray) : valP (joinP a b) k = if valP b k ≠ 0 then valP b k else valP a k := by
  induction b generalizing a with
  | nil => simp [join_nil, valP]
  | cons p b ih =>
    obtain ⟨h1, h2⟩ := srtP_cons.1 hb
    rw [join_cons, ih (srt_with ha _ _) h2 (fun q hq => hz q (by simp [hq])), val_with ha, valP]
    by_cases e : p.1 = k
    · subst e
      rw [valP_lt h1, if_neg (by simp), if_pos rfl, if_pos rfl, if_pos (hz p (by simp))]
    · rw [if_neg e, if_neg e]
/-- no key of b is in a -/
def apartB (a b : Prs) : Bool := b.all fun p => decide (valP a p.1 = 0)
theorem apart_val {a b : Prs} (h : apartB a b = true) {k : ByteArray} (hk : valP b k ≠ 0) : valP a k = 0 := by
  unfold apartB at h
  rw [List.all_eq_true] at h
  simpa using h _ (valP_ne hk)
theorem apart_of {a b : Prs} (hb : srtP b) (hz : nzP b) (h : ∀ k, valP b k ≠ 0 → valP a k = 0) : apartB a b = true := by
  unfold apartB
  rw [List.all_eq_true]
  intro p hp
  simpa using h p.1 (by rw [valP_mem hb hp]; exact hz p hp)
theorem apart_symm {a b : Prs} (ha : srtP a) (za : nzP a) (h : apartB a b = true) : apartB b a = true :=
  apart_of ha za fun k hk => by
    by_cases e : valP b k = 0
    · exact e
    · exact absurd (apart_val h e) hk
theorem join_comm {a b : Prs} (ha : StoreOk a) (hb : StoreOk b) (h : apartB a b = true) : joinP a b = joinP b a := by
  refine store_ext (join_okS ha hb) (join_okS hb ha) fun k => ?_
  rw [val_join ha.srt hb.srt hb.nz, val_join hb.srt ha.srt ha.nz]
  by_cases e : valP b k = 0
  · by_cases e' : valP a k = 0
    · simp [e, e']
    · simp [e, e']
  · have := apart_val h e
    simp [e, this]
theorem tot_with {l : Prs} {k : ByteArray} {n : Int} (hs : srtP l) (h : valP l k = 0) (hz : nzP l) : totTo (withP l k n) = totTo l + n := by
  induction l with
  | nil => simp only [withP]; split <;> simp [totTo, *]
  | cons p l ih =>
    obtain ⟨h1, h2⟩ := srtP_cons.1 hs
    have hpk : p.1 ≠ k := by
      rintro rfl
      rw [valP, if_pos rfl] at h
      exact hz p (by simp) h
    have h' : valP l k = 0 := by rw [valP, if_neg hpk] at h; exact h
    simp only [withP]
    split
    · simp only [totTo, ih h2 h' (fun q hq => hz q (by simp [hq]))]; omega
    · try rw [if_neg hpk]
      split
      · rename_i e; subst e; omega
      · simp only [totTo]; omega
theorem tot_join {a b : Prs} (ha : StoreOk a) (hb : StoreOk b) (h : apartB a b = true) : totTo (joinP a b) = totTo a + totTo b := by
  have : ∀ l : Prs, srtP l → nzP l → (∀ p ∈ l, keyB p.1 = true ∧ -1000000000 ≤ p.2 ∧ p.2 ≤ 1000000000) → ∀ a, StoreOk a → apartB a l = true → totTo (joinP a l) = totTo a + totTo l := by
    intro l
    induction l with
    | nil => intro _ _ _ a _ _; simp [join_nil, totTo]
    | cons p l ih =>
      intro hs hz hl a h ap
      obtain ⟨h1, h2⟩ := srtP_cons.1 hs
      have hp := hl p (by simp)
      have hp0 : valP a p.1 = 0 := by
        unfold apartB at ap; rw [List.all_eq_true] at ap; simpa using ap p (by simp)
      rw [join_cons, ih h2 (fun q hq => hz q (by simp [hq])) (fun q hq => hl q (by simp [hq])) _ (storeOk_with h hp.1 hp.2), tot_with h.srt hp0 h.nz, totTo]
      · omega
      · unfold apartB at ap ⊢
        rw [List.all_eq_true] at ap ⊢
        intro q hq
        rw [val_with h.srt, if_neg (blt_ne (h1 q hq))]
        exact ap q (by simp [hq])
  exact this b hb.srt hb.nz (fun p hp => ⟨hb.key p hp, (hb.val p hp).2⟩) a ha h
theorem scan_ok' {l : Prs} (h : StoreOk l) (f t : ByteArray) : StoreOk (scanP l f t) := storeOk_filter h _
theorem val_scan {l : Prs} (h : srtP l) (f t k : ByteArray) : valP (scanP l f t) k = if inB f t (k, valP l k) then valP l k else 0 := val_filter h _ k
/-- what lies ahead of a place, and from there on -/
theorem scan_cut {l : Prs} (h : srtP l) (at_ : ByteArray) (hne : at_.toList ≠ []) : scanP l ⟨#[]⟩ at_ ++ scanP l at_ ⟨#[]⟩ = l := by
  have e1 : ∀ p : ByteArray × Int, inB ⟨#[]⟩ at_ p = blt p.1 at_ := fun p => by
    have e0 : (ByteArray.mk #[]).toList = [] := by rw [toList_data]
    have : blt p.1 ⟨#[]⟩ = false := by unfold blt; rw [e0]; cases p.1.toList <;> rfl
    simp [inB, this, hne]
  have e2 : ∀ p : ByteArray × Int, inB at_ ⟨#[]⟩ p = !blt p.1 at_ := fun p => by
    have e0 : (ByteArray.mk #[]).toList = [] := by rw [toList_data]
    simp [inB, e0]
  unfold scanP
  rw [show inB ⟨#[]⟩ at_ = fun p => blt p.1 at_ from funext e1, show inB at_ ⟨#[]⟩ = fun p => !blt p.1 at_ from funext e2]
  induction l with
  | nil => rfl
  | cons p l ih =>
    obtain ⟨h1, h2⟩ := srtP_cons.1 h
    rw [List.filter_cons, List.filter_cons]
    cases hb : blt p.1 at_ with
    | true => simp; exact ih h2
    | false =>
      have : l.filter (fun p => blt p.1 at_) = [] := by
        rw [List.filter_eq_nil_iff]
        intro q hq hqa
        have := blt_trans (h1 q hq) hqa
        rw [hb] at this; cases this
      have e3 : l.filter (fun p => !blt p.1 at_) = l := by
        rw [List.filter_eq_self]
        intro q hq
        cases hqa : blt q.1 at_ with
        | false => rfl
        | true => have := blt_trans (h1 q hq) hqa; rw [hb] at this; cases this
      simp [this, e3]
theorem hit_val {l : Prs} (hs : srtP l) (hz : nzP l) {k : ByteArray} {i : Nat} (hc : cutAt (bltAt (keysP l) k) l.length i) : hitS (keysP l) k i = decide (valP l k ≠ 0) := by
  have hv := val_cut hs hc
  cases hh : hitS (keysP l) k i with
  | true =>
    have hi := hit_lt hh
    rw [keysP_len] at hi
    rw [dif_pos hi, if_pos hh] at hv
    rw [hv]
    exact (decide_eq_true (hz _ (List.getElem_mem hi))).symm
  | false =>
    rw [hh] at hv
    simp at hv
    simp [hv]
theorem keyB_size {k : ByteArray} (h : keyB k = true) : k.size ≤ 6 := by
  simp [keyB] at h; exact h.1.2
theorem store_small {l : Prs} (h : StoreOk l) : ∀ p ∈ l, p.1.size ≤ 9223372036854775807 := fun p hp => by have := keyB_size (h.key p hp); omega
end Go.Proofs.YtimchedebcoohaaGreat
