/- Contracts and lemmas for the proof of PartsPlay; each theorem states its own conditions. -/
import Derived.Test.YtimchedebcoohaaGreatDoorQPartsPlayao
import Derived.Test.YtimchedebcoohaaGreatDoorQPartsPlayas
import Derived.Test.YtimchedebcoohaaGreatDoorQPartsPlayau
import Derived.Test.YtimchedebcoohaaGreatDoorQPartsPlayap
set_option linter.unusedVariables false
set_option linter.unusedSimpArgs false
/- Contracts and lemmas for the proofs of this seat; each theorem states its own conditions. -/
namespace Go.Proofs.YtimchedebcoohaaGreatDoor
open Go.RowKit Go.Deep Go.WideShapes Go.ChangeShapes
/-! what a row tells of maps, and of deeds, all their operations counted -/
abbrev Mps := List (List ByteArray × List Int)
def SegMs (w : World) (v : Value) (M : Mps) : Prop := ∃ a c, v = .slice a M.length c ∧ M.length ≤ c ∧ c ≤ maxLen ∧
  (0 < M.length → ∃ b off, a = some ⟨b, off, none⟩ ∧ ∀ (j : Nat) (m : List ByteArray × List Int), M[j]? = some m → ∃ v1 v2, w.cell? ⟨b, off + j * 2, none⟩ = some v1 ∧ w.cell? ⟨b, off + (j * 2 + 1), none⟩ = some v2 ∧ IsMap w (.agg #[v1, v2]) m.1 m.2)
theorem SegMs.ext {w w' : World} {v : Value} {M : Mps} (h : SegMs w v M) (E : Ext w w') : SegMs w' v M := by
  obtain ⟨a, c, h1, h2, h3, h4⟩ := h
  refine ⟨a, c, h1, h2, h3, fun h0 => ?_⟩
  obtain ⟨b, off, e, hc⟩ := h4 h0
  refine ⟨b, off, e, fun j m hm => ?_⟩
  obtain ⟨v1, v2, g1, g2, g3⟩ := hc j m hm
  exact ⟨v1, v2, E.cell g1, E.cell g2, g3.ext E⟩
set_option maxRecDepth 10000 in
theorem segMs_of_trod {H : Type} {enc : TypeId × Value → H} {W : World} {base : Nat} {held : Bool} {fuel : Nat} {a : Option Addr} {len cap : Nat} {x : DataW H × List MemPlace}
    (h : DataW.trod enc Tryz.prog W base (fun _ => true) held fuel 29 [.slice a len cap] = some x) :
    ∃ M : Mps, SegMs W (.slice a len cap) M ∧ (∀ m ∈ M, StrW m.1 ∧ IntW m.2) ∧ M.length + 1 ≤ Rows.uptoBulk x.1 := by
  rcases open_slice_pairs Tryz.underlying29 Tryz.underlying25 (by kernel_rfl) rfl rfl (by kernel_rfl) (by kernel_rfl) h with ⟨hcs, rfl⟩ | ⟨ad, len', cap', m, n, V0, V1, D0, D1, P0, P1, hcs, _, hl, hm, hmm, rfl, hx⟩
  · injection hcs with hcs _
    injection hcs with e1 e2 e3
    subst e1; subst e2; subst e3
    exact ⟨[], ⟨_, _, rfl, by simp, by simp [maxLen], fun h => absurd h (by simp)⟩, by simp, by simp [Rows.uptoBulk]⟩
  · injection hcs with hcs _
    injection hcs with e1 e2 e3
    subst e1; subst e2; subst e3
    simp only [if_true] at hmm
    obtain ⟨f, hf⟩ := pick_fun (α := List ByteArray × List Int) (n := len) (p := fun i p => (∃ v1 v2, W.cell? (ad.add (i * 2)) = some v1 ∧ W.cell? (ad.add (i * 2 + 1)) = some v2 ∧ IsMap W (.agg #[v1, v2]) p.1 p.2) ∧ StrW p.1 ∧ IntW p.2) (fun i hi => by
      obtain ⟨h1, h2, h3, h4⟩ := hx i (by omega)
      obtain ⟨a, len, cap, C, e1, q1, q2, q3⟩ := segS_of_trod h3
      obtain ⟨a', len', cap', O, e2, r1, r2, r3⟩ := segI_of_trod h4
      exact ⟨(C, O), ⟨_, _, h1, h2, ⟨_, _, rfl, by rw [e1]; exact q1, by rw [e2]; exact r1⟩⟩, q2, r2⟩)
    refine ⟨(List.range len).map f, ⟨some ad, cap, by simp, by simpa using hl, hm, fun hn => ?_⟩, ?_, ?_⟩
    · simp at hn
      obtain ⟨⟨v1, v2, c1, _⟩, _⟩ := hf 0 (by omega)
      have hs := cell_spot c1
      obtain ⟨b, off, sp⟩ := ad
      have : sp = none := by simpa [Addr.add] using hs
      subst this
      refine ⟨b, off, rfl, fun j m hm => ?_⟩
      have hj := (List.getElem?_eq_some_iff.1 hm).1
      simp at hj
      have e : m = f j := by
        rw [List.getElem?_map, List.getElem?_range hj] at hm
        simpa using hm.symm
      subst e
      obtain ⟨⟨v1, v2, g1, g2, g3⟩, _⟩ := hf j hj
      rw [addr_add] at g1 g2
      exact ⟨v1, v2, g1, g2, g3⟩
    · intro p hp
      simp at hp
      obtain ⟨i, hi, rfl⟩ := hp
      exact (hf i hi).2
    · have hb := bulk_map (c := 1) (f := fun i => DataW.agg [D0 i, D1 i]) (l := List.range len) (fun i _ => bulk_one _)
      simp only [List.length_range] at hb
      simp only [List.length_map, List.length_range, Rows.uptoBulk]
      omega
/-- all operations, counted -/
def totO (D : List Ops) : Nat := (D.map fun d => 5 * d.length + 2).sum
theorem bulk_sum {H : Type} {α : Type} {g : α → Nat} {f : α → DataW H} : ∀ {l : List α}, (∀ a ∈ l, g a ≤ Rows.uptoBulk (f a)) → (l.map g).sum ≤ Rows.uptoBulkAll (l.map f)
  | [], _ => by simp [Rows.uptoBulkAll]
  | a :: l, h => by
    have h1 := h a (by simp)
    have h2 := bulk_sum (l := l) fun b hb => h b (by simp [hb])
    simp only [List.map_cons, Rows.uptoBulkAll, List.sum_cons]
    omega
set_option maxRecDepth 10000 in
theorem segDs_of_trodT {H : Type} {enc : TypeId × Value → H} {W : World} {base : Nat} {held : Bool} {fuel : Nat} {a : Option Addr} {len cap : Nat} {x : DataW H × List MemPlace}
    (h : DataW.trod enc Tryz.prog W base (fun _ => true) held fuel 28 [.slice a len cap] = some x) :
    ∃ D : List Ops, SegDs W (.slice a len cap) D ∧ (∀ d ∈ D, opsW d) ∧ totO D + 1 ≤ Rows.uptoBulk x.1 := by
  have kd : Tryz.prog.cellsOf 43 = 1 := by kernel_rfl
  rcases open_slice1 Tryz.underlying28 kd h with ⟨hcs, rfl⟩ | ⟨ad, len', cap', m, n, V, Dd, Pl, hcs, _, hl, hm, hmm, rfl, hx⟩
  · injection hcs with hcs _
    injection hcs with e1 e2 e3
    subst e1; subst e2; subst e3
    exact ⟨[], SegDs.nil _ _ _ (by simp [maxLen]), by simp, by simp [Rows.uptoBulk, totO]⟩
  · injection hcs with hcs _
    injection hcs with e1 e2 e3
    subst e1; subst e2; subst e3
    simp only [if_true] at hmm
    obtain ⟨f, hf⟩ := pick_fun (α := Ops) (n := len) (p := fun i d => (∃ au cu, W.cell? (ad.add i) = some (.slice au d.length cu) ∧ Seg W (.slice au d.length cu) 4 d.length (cO d)) ∧ opsW d ∧ 5 * d.length + 2 ≤ Rows.uptoBulk (Dd i)) (fun i hi => by
      obtain ⟨h1, h2⟩ := hx i (by omega)
      obtain ⟨a', l', c', d, he, h3, h4, h5⟩ := deed_of_trod h2
      injection he with he _
      obtain ⟨x2, c2, e2⟩ := seg_form h3
      injection e2 with g1 g2 g3
      subst g2
      exact ⟨d, ⟨a', c', by rw [h1, he], h3⟩, h4, by simp only at h5; omega⟩)
    refine ⟨(List.range len).map f, ?_, ?_, ?_⟩
    · by_cases h0 : len = 0
      · subst h0
        simpa using SegDs.nil W (some ad) cap hm
      · obtain ⟨⟨au, cu, hc0, _⟩, _⟩ := hf 0 (by omega)
        have hs := cell_spot hc0
        obtain ⟨b, off, sp⟩ := ad
        have : sp = none := by simpa [Addr.add] using hs
        subst this
        have := SegDs.mk' (w := W) (b := b) (off := off) (c := cap) (D := (List.range len).map f) (by simpa using hl) hm (fun j d hd => by
          have hj := (List.getElem?_eq_some_iff.1 hd).1
          simp at hj
          have e : d = f j := by
            rw [List.getElem?_map, List.getElem?_range hj] at hd
            simpa using hd.symm
          subst e
          obtain ⟨⟨au, cu, g1, g2⟩, _⟩ := hf j hj
          rw [addr_add] at g1
          exact ⟨au, cu, g1, g2⟩)
        simpa using this
    · intro d hd
      simp at hd
      obtain ⟨i, hi, rfl⟩ := hd
      exact (hf i hi).2.1
    · have hb := bulk_sum (g := fun i => 5 * (f i).length + 2) (f := Dd) (l := List.range len) (fun i hi => (hf i (List.mem_range.1 hi)).2.2)
      simp only [totO, List.map_map, Rows.uptoBulk]
      have e : ((fun d : Ops => 5 * d.length + 2) ∘ f) = fun i => 5 * (f i).length + 2 := rfl
      rw [e]; omega
/-- one of some maps -/
def pickM (M : Mps) (z : Int) : List ByteArray × List Int := if M.length = 0 then ([], []) else M.getD (wi z M.length).toNat ([], [])
set_option maxRecDepth 10000 in
theorem pickM_any (vd : Value) (M : Mps) (z : Int) (w1 w : World) (hvd : SegMs w1 vd M) (hE : Ext w1 w) :
    Calls Tryz.prog 11 #[vd, .int .i64 z] w fun e w' => ∃ v1 v2, e = .returned (.agg #[v1, v2]) ∧ IsMap w1 (.agg #[v1, v2]) (pickM M z).1 (pickM M z).2 ∧ Ext w w' := by
  obtain ⟨aD, cD, rfl, hc1, hc2, hcell⟩ := hvd
  unfold maxLen at hc2
  by_cases h0 : M.length = 0
  · have HP := hid (show pickM M z = ([], []) by unfold pickM; rw [if_pos h0])
    have q : ((M.length : Int) == 0) = true := by simp [h0]
    have b0 := blk2 (heap_1 w (.cells #[.slice none 0 0, .slice none 0 0] 25) (.cells #[.slice none 0 0, .slice none 0 0] 25))
    have E0 := ((Ext.refl w).alloc (.cells #[.slice none 0 0, .slice none 0 0] 25)).alloc (.cells #[.slice none 0 0, .slice none 0 0] 25)
    rw [HP.out]
    clear hcell h0
    go_enter Tryz.func11, Tryz.ntmps11
    go_wp2
    exact bodyPost_ret (v := .agg #[.slice none 0 0, .slice none 0 0]) (by simp [results, Tryz.results11, go_sem, b0.1, b0.2.1]) rfl ⟨_, _, rfl, ⟨_, _, rfl, Seg.nil _ _, Seg.nil _ _⟩, E0⟩
  · have hn : 0 < M.length := by omega
    obtain ⟨b, off, rfl, hc⟩ := hcell hn
    have hl := wi_lo (k := z) (n := M.length) (by omega)
    have hh := wi_hi (k := z) (n := M.length) (by omega)
    obtain ⟨k, hk⟩ : ∃ k : Nat, wi z M.length = (k : Int) := ⟨(wi z M.length).toNat, by omega⟩
    have hkl : k < M.length := by omega
    have HP := hid (show pickM M z = M[k] by unfold pickM; rw [if_neg h0, hk]; simp [hkl])
    have WW := wi_wrap z hn (by omega)
    rw [hk] at WW
    have q : ((M.length : Int) == 0) = false := by simpa using h0
    have q2 : IntKind.u64.wrap (M.length : Int) = (M.length : Int) := by rw [IntKind.wrap_u64]; omega
    have q3 : ¬ (M.length : Int) = 0 := by omega
    obtain ⟨v1, v2, c1, c1', s1⟩ := hc k M[k] (List.getElem?_eq_getElem hkl)
    rw [HP.out]
    generalize M[k] = d at s1 ⊢
    obtain ⟨x1, y1, x2, y2, e, s2, s3⟩ := s1.unpack
    injection e with e; injection e with e; injection e with e1 e; injection e with e2 _
    subst e1; subst e2
    have E0 := ((Ext.refl w).alloc (.cells #[.slice none 0 0, .slice none 0 0] 25)).alloc (.cells #[.slice none 0 0, .slice none 0 0] 25)
    have c2 := E0.cell (hE.cell c1)
    have c3 := E0.cell (hE.cell c1')
    rw [← Nat.add_assoc] at c3
    have b0 := blk2 (heap_1 w (.cells #[.slice none 0 0, .slice none 0 0] 25) (.cells #[.slice none 0 0, .slice none 0 0] 25))
    have HS := hid s1
    clear hc h0 HP hl hh hk s1 s2 s3
    go_enter Tryz.func11, Tryz.ntmps11
    go_wp2
    have E1 := ((Ext.refl w).alloc (.cells #[.slice x1 d.1.length y1, .slice x2 d.2.length y2] 25)).alloc (.cells #[.slice none 0 0, .slice none 0 0] 25)
    have b1 := blk2 (heap_1 w (.cells #[.slice x1 d.1.length y1, .slice x2 d.2.length y2] 25) (.cells #[.slice none 0 0, .slice none 0 0] 25))
    exact bodyPost_ret (v := .agg #[.slice x1 d.1.length y1, .slice x2 d.2.length y2]) (by simp [results, Tryz.results11, go_sem, b1.1, b1.2.1]) rfl ⟨_, _, rfl, HS.out, E1⟩
end Go.Proofs.YtimchedebcoohaaGreatDoor

/- Contracts and lemmas for the proofs of this seat; each theorem states its own conditions. -/
namespace Go.Proofs.YtimchedebcoohaaGreatDoor
/-! the table of claims, in plain lists -/
def memB (l : List ByteArray) (k : ByteArray) : Bool := l.any fun j => decide (j = k)
theorem memB_iff {l : List ByteArray} {k : ByteArray} : memB l k = true ↔ k ∈ l := by simp [memB]
theorem memB_not {l : List ByteArray} {k : ByteArray} : memB l k = false ↔ k ∉ l := by
  rw [← memB_iff]; simp
theorem getD_app {α : Type} {l l' : List α} {n : Nat} {z : α} (h : n < l.length) : (l ++ l').getD n z = l.getD n z := by
  simp [List.getD, List.getElem?_append_left h]
def tchB (d : Ops) (k : ByteArray) : Bool := memB (rds d) k || memB (wrs d) k
theorem tchB_iff {d : Ops} {k : ByteArray} : tchB d k = true ↔ k ∈ rds d ∨ k ∈ wrs d := by simp [tchB, memB_iff]
abbrev Clm := List (Nat × Bool)
def clm1 (A : List Ops) (g : Nat → Bool) (k : ByteArray) (s : Nat) : Clm := if g s = false ∧ tchB (A.getD s []) k = true then [(s, memB (wrs (A.getD s [])) k)] else []
/-- the claims to a key, of the first n deeds -/
def clmTo (A : List Ops) (g : Nat → Bool) (k : ByteArray) : Nat → Clm
  | 0 => []
  | n + 1 => clmTo A g k n ++ clm1 A g k n
theorem clm1_fst {A : List Ops} {g : Nat → Bool} {k : ByteArray} {s : Nat} {c : Nat × Bool} (h : c ∈ clm1 A g k s) : c = (s, memB (wrs (A.getD s [])) k) ∧ g s = false ∧ tchB (A.getD s []) k = true := by
  unfold clm1 at h
  split at h
  · rename_i e; exact ⟨by simpa using h, e⟩
  · cases h
theorem clm_mem {A : List Ops} {g : Nat → Bool} {k : ByteArray} : ∀ {n : Nat} {c : Nat × Bool}, c ∈ clmTo A g k n ↔ c.1 < n ∧ g c.1 = false ∧ tchB (A.getD c.1 []) k = true ∧ c.2 = memB (wrs (A.getD c.1 [])) k
  | 0, c => by simp [clmTo]
  | n + 1, c => by
    rw [clmTo, List.mem_append, clm_mem]
    constructor
    · rintro (⟨a, b⟩ | h)
      · exact ⟨by omega, b⟩
      · obtain ⟨rfl, h1, h2⟩ := clm1_fst h
        exact ⟨by simp, h1, h2, rfl⟩
    · rintro ⟨a, b1, b2, b3⟩
      by_cases e : c.1 < n
      · exact .inl ⟨e, b1, b2, b3⟩
      · right
        have e : c.1 = n := by omega
        obtain ⟨c1, c2⟩ := c
        dsimp only at *
        subst e
        unfold clm1
        rw [if_pos ⟨b1, b2⟩, b3]; simp
/-- has s what it claims? by the program's road -/
def holdsG (first mine : Bool) (s : Nat) : Clm → Bool
  | [] => false
  | c :: r => if c.1 = s then first || (!c.2 && !mine) else holdsG false (mine || c.2) s r
def holdsL (l : Clm) (s : Nat) : Bool := holdsG true false s l
theorem holdsG_pre {s : Nat} {r : Clm} : ∀ {pre : Clm} {f m : Bool}, (∀ c ∈ pre, c.1 ≠ s) → holdsG f m s (pre ++ r) = holdsG (f && pre.isEmpty) (m || pre.any (·.2)) s r
  | [], f, m, _ => by simp
  | c :: pre, f, m, h => by
    rw [List.cons_append, holdsG, if_neg (h c (by simp)), holdsG_pre fun d hd => h d (by simp [hd])]
    simp [Bool.or_assoc]
theorem clm_split {A : List Ops} {g : Nat → Bool} {k : ByteArray} {s : Nat} : ∀ {n : Nat}, s < n → ∃ r, clmTo A g k n = clmTo A g k s ++ clm1 A g k s ++ r
  | 0, h => by omega
  | n + 1, h => by
    rcases Nat.lt_or_ge s n with h' | h'
    · obtain ⟨r, hr⟩ := clm_split (A := A) (g := g) (k := k) h'
      exact ⟨r ++ clm1 A g k n, by rw [clmTo, hr]; simp⟩
    · obtain rfl : s = n := by omega
      exact ⟨[], by rw [clmTo]; simp⟩
theorem holds_iff {A : List Ops} {g : Nat → Bool} {k : ByteArray} {s n : Nat} (hs : s < n) (hg : g s = false) (ht : tchB (A.getD s []) k = true) :
    holdsL (clmTo A g k n) s = true ↔ ∀ t, t < s → g t = false → tchB (A.getD t []) k = true → memB (wrs (A.getD s [])) k = false ∧ memB (wrs (A.getD t [])) k = false := by
  obtain ⟨r, hr⟩ := clm_split (A := A) (g := g) (k := k) hs
  unfold holdsL
  rw [hr, List.append_assoc, holdsG_pre (fun c hc => by have := (clm_mem.1 hc).1; omega)]
  have e : clm1 A g k s = [(s, memB (wrs (A.getD s [])) k)] := by unfold clm1; rw [if_pos ⟨hg, ht⟩]
  rw [e]
  simp only [List.cons_append, holdsG, if_true, Bool.true_and, Bool.false_or, Bool.or_eq_true, Bool.and_eq_true, Bool.not_eq_true', List.isEmpty_iff]
  constructor
  · rintro (h | ⟨h1, h2⟩) t ht' hgt htt
    · have : ((t, memB (wrs (A.getD t [])) k) : Nat × Bool) ∈ clmTo A g k s := clm_mem.2 ⟨ht', hgt, htt, rfl⟩
      rw [h] at this; cases this
    · refine ⟨h1, ?_⟩
      rw [List.any_eq_false] at h2
      have := h2 (t, memB (wrs (A.getD t [])) k) (clm_mem.2 ⟨ht', hgt, htt, rfl⟩)
      simpa using this
  · intro h
    by_cases e0 : clmTo A g k s = []
    · exact .inl e0
    · right
      obtain ⟨c, hc⟩ := List.exists_mem_of_ne_nil _ e0
      obtain ⟨c1, c2, c3, c4⟩ := clm_mem.1 hc
      refine ⟨(h c.1 c1 c2 c3).1, ?_⟩
      rw [List.any_eq_false]
      intro d hd
      obtain ⟨d1, d2, d3, d4⟩ := clm_mem.1 hd
      rw [d4, (h d.1 d1 d2 d3).2]; simp
/-- may it go on? by the document -/
def mayB (A : List Ops) (g : Nat → Bool) (s : Nat) : Bool := (List.range s).all fun t => g t || !clashB (A.getD t []) (A.getD s [])
theorem mayB_iff {A : List Ops} {g : Nat → Bool} {s : Nat} : mayB A g s = true ↔ ∀ t, t < s → g t = false → clashB (A.getD t []) (A.getD s []) = false := by
  simp only [mayB, List.all_eq_true, List.mem_range, Bool.or_eq_true, Bool.not_eq_true']
  constructor
  · intro h t ht hg
    rcases h t ht with e | e
    · rw [hg] at e; cases e
    · exact e
  · intro h t ht
    cases hg : g t with
    | true => exact .inl rfl
    | false => exact .inr (h t ht hg)
theorem clash_no {a b : Ops} : clashB a b = false ↔ ∀ k, tchB a k = true → tchB b k = true → memB (wrs a) k = false ∧ memB (wrs b) k = false := by
  have mf : ∀ x y : List ByteArray, meets x y = false ↔ ∀ k ∈ x, k ∉ y := fun x y => by
    constructor
    · exact fun h => meets_no h
    · intro h
      cases e : meets x y with
      | false => rfl
      | true => obtain ⟨k, h1, h2⟩ := meets_iff.1 e; exact absurd h2 (h k h1)
  unfold clashB
  simp only [Bool.or_eq_false_iff, mf, tchB_iff, memB_not]
  constructor
  · rintro ⟨⟨h1, h2⟩, h3⟩ k ha hb
    constructor
    · intro hw
      rcases hb with hb | hb
      · exact h2 k hw hb
      · exact h1 k hw hb
    · intro hw
      rcases ha with ha | ha
      · exact h3 k ha hw
      · exact h1 k ha hw
  · intro h
    exact ⟨⟨fun k ha hb => (h k (.inr ha) (.inr hb)).1 ha, fun k ha hb => (h k (.inr ha) (.inl hb)).1 ha⟩, fun k ha hb => (h k (.inl ha) (.inr hb)).2 hb⟩
theorem may_iff {A : List Ops} {g : Nat → Bool} {s n : Nat} (hs : s < n) (hg : g s = false) {L : List ByteArray} (hL : ∀ k, k ∈ L ↔ tchB (A.getD s []) k = true) :
    (∀ k ∈ L, holdsL (clmTo A g k n) s = true) ↔ mayB A g s = true := by
  rw [mayB_iff]
  constructor
  · intro h t ht hgt
    rw [clash_no]
    intro k hk1 hk2
    have := (holds_iff hs hg hk2).1 (h k ((hL k).2 hk2)) t ht hgt hk1
    exact ⟨this.2, this.1⟩
  · intro h k hk
    have hk2 := (hL k).1 hk
    rw [holds_iff hs hg hk2]
    intro t ht hgt htt
    have := clash_no.1 (h t ht hgt) k htt hk2
    exact ⟨this.2, this.1⟩
/-- one that goes -/
def goneW (g : Nat → Bool) (s : Nat) : Nat → Bool := fun t => if t = s then true else g t
theorem clm1_gone {A : List Ops} {g : Nat → Bool} {k : ByteArray} (s t : Nat) : clm1 A (goneW g s) k t = (clm1 A g k t).filter (fun c => !decide (c.1 = s)) := by
  unfold clm1 goneW
  by_cases e : t = s
  · subst e
    simp only [if_true, Bool.true_eq_false, false_and, if_false]
    split
    · simp
    · rfl
  · simp only [if_neg e]
    split
    · simp [e]
    · rfl
theorem clm_gone {A : List Ops} {g : Nat → Bool} {k : ByteArray} (s : Nat) : ∀ n, clmTo A (goneW g s) k n = (clmTo A g k n).filter (fun c => !decide (c.1 = s))
  | 0 => rfl
  | n + 1 => by rw [clmTo, clmTo, List.filter_append, clm_gone s n, clm1_gone]
theorem clm_off {A : List Ops} {g : Nat → Bool} {k : ByteArray} {s : Nat} (h : tchB (A.getD s []) k = false) (n : Nat) : clmTo A (goneW g s) k n = clmTo A g k n := by
  rw [clm_gone, List.filter_eq_self]
  intro c hc
  obtain ⟨_, _, h3, _⟩ := clm_mem.1 hc
  have : c.1 ≠ s := fun e => by rw [e, h] at h3; cases h3
  simp [this]
theorem clm_grow {A B : List Ops} {g : Nat → Bool} {k : ByteArray} : ∀ {n : Nat}, n ≤ A.length → clmTo (A ++ B) g k n = clmTo A g k n
  | 0, _ => rfl
  | n + 1, h => by
    rw [clmTo, clmTo, clm_grow (by omega)]
    unfold clm1
    rw [getD_app (by omega)]
theorem clm_add {A : List Ops} {g : Nat → Bool} {k : ByteArray} {d : Ops} (hg : g A.length = false) : clmTo (A ++ [d]) g k (A.length + 1) = clmTo A g k A.length ++ (if tchB d k = true then [(A.length, memB (wrs d) k)] else []) := by
  rw [clmTo, clm_grow (Nat.le_refl _)]
  unfold clm1
  have e : (A ++ [d]).getD A.length [] = d := by simp
  rw [e, hg]
  simp
theorem may_mono {A : List Ops} {g : Nat → Bool} {s t : Nat} (h : mayB A g t = true) : mayB A (goneW g s) t = true := by
  rw [mayB_iff] at h ⊢
  intro u hu hg
  refine h u hu ?_
  unfold goneW at hg
  split at hg
  · cases hg
  · exact hg
theorem may_grow {A B : List Ops} {g : Nat → Bool} {s : Nat} (hs : s < A.length) : mayB (A ++ B) g s = mayB A g s := by
  unfold mayB
  rw [Bool.eq_iff_iff, List.all_eq_true, List.all_eq_true]
  constructor
  · intro h t ht
    have := h t ht
    rw [List.mem_range] at ht
    rwa [getD_app hs, getD_app (by omega)] at this
  · intro h t ht
    have := h t ht
    rw [List.mem_range] at ht
    rwa [getD_app hs, getD_app (by omega)]
/-- those that may go on -/
def readyL (A : List Ops) (g : Nat → Bool) (n : Nat) : List Nat := (List.range n).filter fun s => !g s && mayB A g s
theorem ready_mem {A : List Ops} {g : Nat → Bool} {n s : Nat} : s ∈ readyL A g n ↔ s < n ∧ g s = false ∧ mayB A g s = true := by
  simp [readyL]
theorem ready_succ (A : List Ops) (g : Nat → Bool) (n : Nat) : readyL A g (n + 1) = readyL A g n ++ if (!g n && mayB A g n) = true then [n] else [] := by
  unfold readyL
  rw [List.range_succ, List.filter_append]
  congr 1
  simp only [List.filter_cons, List.filter_nil]
theorem ready_apart {A : List Ops} {g : Nat → Bool} {n a b : Nat} (ha : a ∈ readyL A g n) (hb : b ∈ readyL A g n) (hne : a ≠ b) : clashB (A.getD a []) (A.getD b []) = false := by
  obtain ⟨_, a2, a3⟩ := ready_mem.1 ha
  obtain ⟨_, b2, b3⟩ := ready_mem.1 hb
  rcases Nat.lt_or_ge a b with h | h
  · exact mayB_iff.1 b3 a h a2
  · rw [clash_symm]; exact mayB_iff.1 a3 b (by omega) b2
def liveN (g : Nat → Bool) : Nat → Nat
  | 0 => 0
  | n + 1 => liveN g n + if g n = false then 1 else 0
theorem live_none {g : Nat → Bool} : ∀ {n : Nat}, liveN g n = 0 → ∀ t < n, g t = true
  | 0, _, t, ht => by omega
  | n + 1, h, t, ht => by
    simp only [liveN] at h
    split at h
    · omega
    · rename_i hn
      rcases Nat.lt_or_ge t n with h' | h'
      · exact live_none (by omega) t h'
      · obtain rfl : t = n := by omega
        simpa using hn
theorem live_gone {g : Nat → Bool} {s : Nat} (hg : g s = false) : ∀ {n : Nat}, (s < n → liveN (goneW g s) n + 1 = liveN g n) ∧ (n ≤ s → liveN (goneW g s) n = liveN g n)
  | 0 => ⟨fun h => by omega, fun _ => rfl⟩
  | n + 1 => by
    obtain ⟨h1, h2⟩ := live_gone (s := s) hg (n := n)
    refine ⟨fun h => ?_, fun h => ?_⟩
    · simp only [liveN]
      rcases Nat.lt_or_ge s n with h' | h'
      · have := h1 h'
        have e : goneW g s n = g n := by unfold goneW; rw [if_neg (by omega)]
        rw [e]; omega
      · obtain rfl : s = n := by omega
        have := h2 (Nat.le_refl _)
        have e : goneW g s s = true := by unfold goneW; rw [if_pos rfl]
        rw [e, hg, this]; simp
    · simp only [liveN]
      rw [h2 (by omega)]
      have e : goneW g s n = g n := by unfold goneW; rw [if_neg (by omega)]
      rw [e]
/-- the first one that is there may go on -/
theorem ready_some {A : List Ops} {g : Nat → Bool} {n : Nat} (h : 0 < liveN g n) : readyL A g n ≠ [] := by
  have : ∃ t, t < n ∧ g t = false := by
    refine Classical.byContradiction fun hne => ?_
    have hall : ∀ t < n, g t = true := fun t ht => by
      cases e : g t with
      | true => rfl
      | false => exact absurd ⟨t, ht, e⟩ hne
    have : ∀ m ≤ n, liveN g m = 0 := by
      intro m
      induction m with
      | zero => intro _; rfl
      | succ m ih => intro hm; simp only [liveN]; rw [ih (by omega), hall m (by omega)]; simp
    have := this n (Nat.le_refl _)
    omega
  obtain ⟨t, ht, hgt⟩ := this
  have hex : ∃ s, s ≤ t ∧ g s = false ∧ ∀ u < s, g u = true := by
    clear ht h
    induction t using Nat.strongRecOn with
    | _ t ih =>
      by_cases h : ∃ u, u < t ∧ g u = false
      · obtain ⟨u, hu, hgu⟩ := h
        obtain ⟨s, h1, h2, h3⟩ := ih u hu hgu
        exact ⟨s, by omega, h2, h3⟩
      · refine ⟨t, Nat.le_refl _, hgt, fun u hu => ?_⟩
        cases e : g u with
        | true => rfl
        | false => exact absurd ⟨u, hu, e⟩ h
  obtain ⟨s, h1, h2, h3⟩ := hex
  have : s ∈ readyL A g n := ready_mem.2 ⟨by omega, h2, mayB_iff.2 fun u hu hgu => by rw [h3 u hu] at hgu; cases hgu⟩
  intro e; rw [e] at this; cases this
theorem live_le (g : Nat → Bool) (n : Nat) : liveN g n ≤ n := by
  induction n with
  | zero => exact Nat.le_refl _
  | succ n ih => simp only [liveN]; split <;> omega
theorem live_all {g : Nat → Bool} {n : Nat} (h : ∀ t < n, g t = false) : liveN g n = n := by
  induction n with
  | zero => rfl
  | succ n ih => simp only [liveN]; rw [ih (fun t ht => h t (by omega)), h n (by omega)]; simp
theorem rd_key {d : Ops} (h : DeedOk d) : ∀ k ∈ rds d, keyB k = true := fun k hk => by
  obtain ⟨o, ho, hk⟩ := List.mem_flatMap.1 hk
  have oo := h.ops o ho
  rcases kinds oo with e | e | e | e | e
  all_goals simp [rdO, e] at hk
  · rw [hk]; exact oo.key
  · rw [hk]; exact (oo.from_ (.inl e)).1
  · rw [hk]; exact oo.key
  · rcases hk with hk | hk
    · rw [hk]; exact oo.key
    · rw [hk]; exact (oo.from_ (.inr e)).1
theorem wr_key {d : Ops} (h : DeedOk d) : ∀ k ∈ wrs d, keyB k = true := fun k hk => by
  obtain ⟨o, ho, hk⟩ := List.mem_flatMap.1 hk
  have oo := h.ops o ho
  rcases kinds oo with e | e | e | e | e
  all_goals simp [wrO, e] at hk
  · rw [hk]; exact oo.key
  · rw [hk]; exact oo.key
  · rw [hk]; exact oo.key
  · rcases hk with hk | hk
    · rw [hk]; exact oo.key
    · rw [hk]; exact (oo.from_ (.inr e)).1
theorem tch_key {d : Ops} (h : DeedOk d) {k : ByteArray} (hk : tchB d k = true) : keyB k = true := by
  rcases tchB_iff.1 hk with e | e
  · exact rd_key h k e
  · exact wr_key h k e
theorem may_any' {A : List Ops} {g : Nat → Bool} {s n : Nat} (hs : s < n) (hg : g s = false) {L : List ByteArray} (hL : ∀ k, k ∈ L ↔ tchB (A.getD s []) k = true) :
    (!(L.any fun k => !holdsL (clmTo A g k n) s)) = mayB A g s := by
  rw [Bool.eq_iff_iff, ← may_iff hs hg hL]
  simp [List.any_eq_true]
end Go.Proofs.YtimchedebcoohaaGreatDoor
