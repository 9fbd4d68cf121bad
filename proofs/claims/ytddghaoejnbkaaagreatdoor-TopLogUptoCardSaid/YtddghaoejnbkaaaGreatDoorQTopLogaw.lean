/- Contracts and lemmas for the proof of TopLog; each theorem states its own conditions. -/
import Derived.Test.YtddghaoejnbkaaaGreatDoorQTopLogad
import Derived.Test.YtddghaoejnbkaaaGreatDoorQTopLogaa
import Derived.Test.YtddghaoejnbkaaaGreatDoorProg
import Derived.Shelf.Abstract
import Derived.Test.YtddghaoejnbkaaaGreatDoorQTopLogap
import Derived.Maps.Own
import Derived.Maps.OwnOps
import Derived.Maps.RangeWalk
import Derived.Maps.Views
import Derived.Test.YtddghaoejnbkaaaGreatDoorQTopLogan
set_option linter.unusedVariables false
set_option linter.unusedSimpArgs false
/- Contracts and lemmas for the proofs of this seat; each theorem states its own conditions. -/
namespace Go.Proofs.YtddghaoejnbkaaaGreatDoor
open Go.RowKit
/-! slices.IndexFunc, slices.ContainsFunc: a closure by its contract -/
def firstI {α : Type} (p : α → Bool) : List α → Nat → Int
  | [], _ => -1
  | x :: l, i => if p x then (i : Int) else firstI p l (i + 1)
theorem firstI_hit {α : Type} {p : α → Bool} : ∀ {l : List α} {i k : Nat} (hk : k < l.length), (∀ j (h : j < k), p (l[j]'(by omega)) = false) → p l[k] = true → firstI p l i = ((i + k : Nat) : Int)
  | [], _, _, hk, _, _ => by simp at hk
  | x :: l, i, 0, _, _, h => by simp at h; simp [firstI, h]
  | x :: l, i, k + 1, hk, hj, h => by
    have h0 := hj 0 (by omega)
    simp at h0
    rw [firstI, if_neg (by simp [h0]), firstI_hit (k := k) (by simpa using hk) (fun j h' => by simpa using hj (j + 1) (by omega)) (by simpa using h)]
    congr 1; omega
theorem firstI_miss {α : Type} {p : α → Bool} : ∀ {l : List α} {i : Nat}, (∀ x ∈ l, p x = false) → firstI p l i = -1
  | [], _, _ => rfl
  | x :: l, i, h => by rw [firstI, if_neg (by simp [h x (by simp)]), firstI_miss fun y hy => h y (by simp [hy])]
end Go.Proofs.YtddghaoejnbkaaaGreatDoor

/- Contracts and lemmas for the proofs of this seat; each theorem states its own conditions. -/
namespace Go.Proofs.YtddghaoejnbkaaaGreatDoor
open Go.RowKit
/-! Scan, Total -/
theorem cP_one1 (p : ByteArray × Int) : cP [p] = [.string p.1, .int .i64 p.2] := by simp [cP]
end Go.Proofs.YtddghaoejnbkaaaGreatDoor

/- Contracts and lemmas for the proofs of this seat; each theorem states its own conditions. -/
namespace Go.Proofs.YtddghaoejnbkaaaGreatDoor
open Go.RowKit Go.Maps
/-! maps of one's own, as plain functions -/
abbrev DU := DataW Unit
def kS (s : ByteArray) : Lit := .string s.data.toList
def dI (n : Int) : DU := .lit (.int .i64 n)
def dB (b : Bool) : DU := .lit (.bool b)
def okS (s : ByteArray) : Prop := s.size ≤ maxLen
def okI (n : Int) : Prop := (Lit.int .i64 n).wf = true
theorem kS_inj {a b : ByteArray} (h : kS a = kS b) : a = b := by
  unfold kS at h
  injection h with h
  exact toList_inj (by rw [toList_data, toList_data, h])
theorem dI_inj {a b : Int} (h : dI a = dI b) : a = b := by
  unfold dI at h; injection h with h; injection h
theorem kS_is (s : ByteArray) : WideAt.IsKeyLit (kS s) := trivial
/-- D holds what f says -/
def MapF {κ α : Type} (kl : κ → Lit) (ok : κ → Prop) (vd : α → DU) (D : DU) (f : κ → Option α) : Prop :=
  _root_.Go.Maps.IsMap D ∧ (∀ k a, f k = some a → ok k) ∧ ∀ k, ok k → (f k = none → has D (kl k) = false) ∧ ∀ a, f k = some a → has D (kl k) = true ∧ ∀ z, D.atKey (kl k) z = vd a
section
variable {κ α : Type} {kl : κ → Lit} {ok : κ → Prop} {vd : α → DU} {D : DU} {f : κ → Option α}
theorem MapF.empty : MapF kl ok vd (.map []) (fun _ => none) := ⟨isMap_empty, ⟨fun _ _ h => (by simp at h), fun _ _ => ⟨fun _ => rfl, fun _ h => (by simp at h)⟩⟩⟩
theorem MapF.put [DecidableEq κ] (h : MapF kl ok vd D f) (inj : ∀ {x y}, kl x = kl y → x = y) (is : ∀ x, WideAt.IsKeyLit (kl x)) {k : κ} (hk : ok k) (a : α) : MapF kl ok vd (D.put (kl k) (vd a)) (fun x => if x = k then some a else f x) := by
  obtain ⟨h1, h2, h3⟩ := h
  refine ⟨h1.put _ _, fun x b hb => ?_, fun x hx => ?_⟩
  · dsimp only at hb
    split at hb
    · rename_i e; subst e; exact hk
    · exact h2 x b hb
  · dsimp only
    by_cases e : x = k
    · subst e
      rw [if_pos rfl]
      refine ⟨fun q => (by cases q), fun b hb => ?_⟩
      injection hb with hb; subst hb
      exact ⟨has_put_same h1 (is _) _, fun z => atKey_put_same h1 (is _) _ z⟩
    · rw [if_neg e]
      have hne : kl x ≠ kl k := fun q => e (inj q)
      refine ⟨fun q => ?_, fun b hb => ?_⟩
      · rw [has_put_other hne]; exact (h3 x hx).1 q
      · obtain ⟨q1, q2⟩ := (h3 x hx).2 b hb
        exact ⟨by rw [has_put_other hne]; exact q1, fun z => by rw [atKey_put_other hne]; exact q2 z⟩
theorem MapF.get (h : MapF kl ok vd D f) (vinj : ∀ {x y}, vd x = vd y → x = y) {k : κ} (hk : ok k) {c : α} (e : ∀ z, D.atKey (kl k) z = vd c) : f k = some c := by
  obtain ⟨h1, h2, h3⟩ := h
  have hh := has_true_of_atKey e
  cases hf : f k with
  | none => rw [(h3 k hk).1 hf] at hh; cases hh
  | some b =>
    have := ((h3 k hk).2 b hf).2 (.map [])
    rw [e] at this
    rw [vinj this]
theorem MapF.has (h : MapF kl ok vd D f) {k : κ} (hk : ok k) : Maps.has D (kl k) = (f k).isSome := by
  obtain ⟨h1, h2, h3⟩ := h
  cases hf : f k with
  | none => exact (h3 k hk).1 hf
  | some b => exact ((h3 k hk).2 b hf).1
end
theorem keyOf_string_inv {P : Program} {k : TypeId} (hk : P.underlying k = some .string) {key : Value} {kl : Lit} (h : Go.keyOf P k key = some kl) : ∃ x, key = .string x ∧ kl = kS x ∧ okS x := by
  cases key <;> simp [Go.keyOf, hk, mapKey] at h
  obtain ⟨h1, rfl⟩ := h
  exact ⟨_, rfl, rfl, h1⟩
theorem own_size {P : Program} {k : TypeId} {R : Value → Option (DU × List MemPlace)} {w : World} {b n : Nat} {D : DU} (h : w.ownsMap P k R b n D) : size D ≤ n := by
  obtain ⟨es, clock, hb, F, hs, rfl⟩ := h
  rw [size_eq, length_sorted]
  simpa using hs
theorem ownsMap_ext {P : Program} {k : TypeId} {R : Value → Option (DU × List MemPlace)} {w w' : World} {b n : Nat} {D : DU} (h : w.ownsMap P k R b n D) (k' : Ext w w') : w'.ownsMap P k R b n D := by
  obtain ⟨es, clock, hb, rest⟩ := h
  exact ⟨es, clock, k'.heap hb, rest⟩
section
variable {P : Program} (w : World) {ops : Array Oper} {rest : List Oper} {o : Oper} {a : Act} {Q : Exit → Act → World → Prop}
/-- the step of a loop over a map of texts to numbers -/
theorem wpList_next_si (hg : o.guard = none) (it : Operand) (hop : o.op = Op.next it false) (k e : TypeId) (K : Keyed P k) (hk : P.underlying k = some .string) (he : P.underlying e = some (.int .i64))
    (b r n : Nat) (D : DU) (f : ByteArray → Option Int) (hF : MapF kS okS dI D f) (left : Lit → Bool) (cnt : Nat) (hit : a.eval it = .pointer (some ⟨r, 0, none⟩)) (h : w.ranges P k (plainElem P e) b r n D left cnt)
    (hDone : (∀ kl, left kl = false) → wpList P ops Q rest (a.put o.dst (.tuple #[.bool false])) w)
    (hMore : ∀ (x : ByteArray) (c : Int) (w' : World) (cnt' : Nat), okS x → okI c → left (kS x) = true → f x = some c → w'.ranges P k (plainElem P e) b r n D (fun z => left z && !z.sameKey (kS x)) cnt' → cnt' < cnt →
      w.grownBy w' (some r) → w'.heap.size = w.heap.size → (Instr.entry (.pointer (some ⟨r, 0, none⟩))).run P w' = .ok (.tuple #[.string x, .int .i64 c]) w' → wpList P ops Q rest (a.put o.dst (.tuple #[.bool true, .string x, .int .i64 c])) w') :
    wpList P ops Q (o :: rest) a w :=
  wpList_next_ranges w hg it hop k K (plainElem P e) Value.string (Value.int .i64) (fun key kl hkey => by obtain ⟨x, rfl, _⟩ := keyOf_string_inv hk hkey; exact ⟨x, rfl⟩) (fun v y hv => by obtain ⟨c, rfl, _⟩ := plainElem_int_inv he hv; exact ⟨c, rfl⟩)
    b r n D left cnt hit h (fun _ => hDone) (fun x c kl y w' cnt' hkey hlk hv hat hrg hlt hgr hsz hen => by
      obtain ⟨x', ex, rfl, hwx⟩ := keyOf_string_inv hk hkey
      cases ex
      obtain ⟨c', ec, rfl, hwc⟩ := plainElem_int_inv he hv
      cases ec
      exact hMore x c w' cnt' hwx hwc hlk (hF.get dI_inj hwx hat) hrg hlt hgr hsz hen)
end
/-! what a loop over a map has gathered -/
/-- the pairs gathered of f so far -/
def Gath (f : ByteArray → Option Int) (left : Lit → Bool) (l : List (ByteArray × Int)) : Prop :=
  (l.map (·.1)).Nodup ∧ (∀ p ∈ l, okS p.1) ∧ ∀ k c, okS k → ((k, c) ∈ l ↔ f k = some c ∧ c ≠ 0 ∧ left (kS k) = false)
theorem sameKey_kS {a b : ByteArray} (h : a ≠ b) : (kS a).sameKey (kS b) = false := sameKey_ne fun e => h (kS_inj e)
theorem sameKey_self (a : ByteArray) : (kS a).sameKey (kS a) = true := by simp [kS, Lit.sameKey]
theorem gath_start {D : DU} {f : ByteArray → Option Int} (hF : MapF kS okS dI D f) : Gath f (has D) [] := by
  refine ⟨List.nodup_nil, by simp, fun k c hk => ?_⟩
  rw [hF.has hk]
  simp
  intro h; simp [h]
theorem gath_keep {f : ByteArray → Option Int} {left : Lit → Bool} {l : List (ByteArray × Int)} (h : Gath f left l) {x : ByteArray} {c : Int} (hx : okS x) (hl : left (kS x) = true) (hf : f x = some c) (hc : c ≠ 0) : Gath f (fun z => left z && !z.sameKey (kS x)) (l ++ [(x, c)]) := by
  obtain ⟨h1, h2, h3⟩ := h
  have hn : ∀ d, (x, d) ∉ l := fun d hd => by have := ((h3 x d hx).1 hd).2.2; rw [hl] at this; cases this
  refine ⟨?_, fun p hp => ?_, fun k d hk => ?_⟩
  · rw [List.map_append, List.nodup_append]
    refine ⟨h1, by simp, fun a ha b hb => ?_⟩
    simp at hb; subst hb
    rintro rfl
    obtain ⟨p, hp, e⟩ := List.mem_map.1 ha
    exact hn p.2 (by rw [← e]; exact hp)
  · rcases List.mem_append.1 hp with hp | hp
    · exact h2 p hp
    · simp at hp; subst hp; exact hx
  · by_cases e : k = x
    · subst e
      simp [sameKey_self, hf]
      constructor
      · rintro (h | h)
        · exact absurd h (hn d)
        · subst h; exact ⟨rfl, hc⟩
      · rintro ⟨rfl, _⟩; exact .inr rfl
    · simp only [List.mem_append, h3 k d hk, sameKey_kS e]
      simp [e]
theorem gath_drop {f : ByteArray → Option Int} {left : Lit → Bool} {l : List (ByteArray × Int)} (h : Gath f left l) {x : ByteArray} (hx : okS x) (hl : left (kS x) = true) (hf : f x = some 0) : Gath f (fun z => left z && !z.sameKey (kS x)) l := by
  obtain ⟨h1, h2, h3⟩ := h
  refine ⟨h1, h2, fun k d hk => ?_⟩
  by_cases e : k = x
  · subst e
    simp [h3 k d hk, hf, hl]
    rintro rfl h; exact absurd rfl h
  · simp only [h3 k d hk, sameKey_kS e]
    simp
end Go.Proofs.YtddghaoejnbkaaaGreatDoor

/- Contracts and lemmas for the proofs of this seat; each theorem states its own conditions. -/
namespace Go.Proofs.YtddghaoejnbkaaaGreatDoor
open Go.RowKit Go.Shelf Go.Lib Go.Sort
/-! sort.Slice at pairs -/
def encP (p : ByteArray × Int) : List Value := [.string p.1, .int .i64 p.2]
def ltP (a b : ByteArray × Int) : Bool := blt a.1 b.1
theorem swo_ltP : SWO ltP := ⟨fun _ => blt_irrefl _, fun _ _ _ h k => blt_trans h k, fun x y z h k => by
  cases hx : ltP x z with
  | false => rfl
  | true =>
    unfold ltP at h k hx
    rcases blt_of_not h with e | e
    · rw [e] at hx; rw [hx] at k; cases k
    · have := blt_trans e hx; rw [this] at k; cases k⟩
theorem flat_cP (d : Array (ByteArray × Int)) : (flatK encP 2 d).toList = cP d.toList := by
  apply List.ext_getElem?
  intro t
  by_cases ht : t < d.size * 2
  · have h := get_flatK encP 2 d t ht
    have hs : t < (flatK encP 2 d).size := by rw [size_flatK]; exact ht
    rw [getElem!_pos _ t hs] at h
    rw [List.getElem?_eq_getElem (by simpa using hs), Array.getElem_toList, h]
    have hq : t / 2 < d.toList.length := by simp; omega
    have hd : d[t / 2]! = d.toList[t / 2] := by rw [getElem!_pos d (t / 2) (by simpa using hq)]; simp
    rw [hd]
    obtain ⟨c0, c1⟩ := cP_at d.toList (t / 2) hq
    generalize hu : t / 2 = u at *
    rcases Nat.mod_two_eq_zero_or_one t with h0 | h0
    · obtain rfl : t = u * 2 := by omega
      rw [c0, h0]; simp [encP]
    · obtain rfl : t = u * 2 + 1 := by omega
      rw [c1, h0]; simp [encP]
  · rw [List.getElem?_eq_none (by simp; omega), List.getElem?_eq_none (by rw [cP_len]; simp; omega)]
theorem row_put {w : World} {g : Nat} {e : TypeId} {cur : List Value} (h : RowB w g e cur) (F : Array Value) (hF : F.size ≤ cur.length) : RowB (putRow id w g 0 F) g e (F.toList ++ cur.drop F.size) := by
  unfold RowB at *
  unfold putRow mapBlock
  simp only [Array.getElem?_modify, h, if_true, Option.map_some, onCells]
  congr 2
  apply Array.ext_getElem?
  intro k
  simp only [putCells, Array.getElem?_mapIdx, List.getElem?_toArray, List.getElem?_append, Array.length_toList, List.getElem?_drop, Array.getElem?_toList]
  by_cases hk : k < F.size
  · rw [if_pos hk, List.getElem?_eq_getElem (by omega)]
    simp [hk]
  · rw [if_neg hk, show F.size + (k - F.size) = k by omega]
    cases cur[k]? with
    | none => rfl
    | some u => simp [hk]
theorem put_other (w : World) (g : Nat) (F : Array Value) {k : Nat} (hk : k ≠ g) : (putRow id w g 0 F).heap[k]? = w.heap[k]? := by
  unfold putRow mapBlock
  simp [Array.getElem?_modify, Ne.symm hk]
theorem put_size (w : World) (g : Nat) (F : Array Value) : (putRow id w g 0 F).heap.size = w.heap.size := by
  unfold putRow mapBlock
  simp
theorem put_grown (w : World) (g : Nat) (F : Array Value) (n : Nat) (os : Array Obj) : w.grownBy (grow (putRow id (Sort.ahead w n) g 0 F) os) (some g) := by
  refine ⟨rfl, rfl, rfl, ?_, fun k hk hne => ?_⟩
  · rw [size_grow, put_size]; exact Nat.le_add_right _ _
  · have hk' : k < (putRow id (Sort.ahead w n) g 0 F).heap.size := by rw [put_size]; exact hk
    rw [heap_grow_old _ _ hk', put_other _ _ _ (fun e => hne (by rw [e]))]
    rfl
theorem grow_ext (w : World) (os : Array Obj) : Ext w (grow w os) := ⟨rfl, rfl, rfl, by rw [size_grow]; exact Nat.le_add_right _ _, fun _ hk => heap_grow_old _ _ hk⟩
theorem holds_row {w : World} {g : Nat} {e : TypeId} {cur : List Value} (h : RowB w g e cur) (d : Array (ByteArray × Int)) (ht : cur.take (d.size * 2) = cP d.toList) (hl : d.size * 2 ≤ cur.length) : HoldsK encP 2 w g 0 d := by
  intro j hj
  rw [size_flatK] at hj
  have hs : j < (flatK encP 2 d).size := by rw [size_flatK]; exact hj
  have e1 : (cP d.toList)[j]? = some ((flatK encP 2 d)[j]!) := by
    rw [← flat_cP, getElem!_pos _ j hs, List.getElem?_eq_getElem (by simpa using hs)]; simp
  rw [← ht, List.getElem?_take, if_pos hj] at e1
  refine ⟨by rw [Nat.zero_add]; exact h.cell e1, ?_⟩
  unfold RowB at h
  simp [World.frozen?, h]
noncomputable def slTI : TypeInfo := (Tryz.prog.info? 36).get (by kernel_rfl)
noncomputable def slTE : TypeInfo := (Tryz.prog.info? 62).get (by kernel_rfl)
theorem slK (n : Nat) (h2 : 2 ≤ n) : Lib.swapperK n slTE 25 = 9 := by
  have a : slTE.hasPointers = true := by kernel_rfl
  have b : slTE.bytes = 24 := by kernel_rfl
  have c : (n == 0) = false := by simp; omega
  have d : (n == 1) = false := by simp; omega
  simp [Lib.swapperK, a, b, c, d]
set_option maxHeartbeats 2000000 in
theorem listLess (blk off c Bs size : Nat) (W : World) (G : Nat → ByteArray) (hs : W.cell? ⟨Bs, 0, none⟩ = some (.slice (some ⟨blk, off, none⟩) size c))
    (hc : ∀ t, t < size → W.cell? ⟨blk, off + t * 2, none⟩ = some (.string (G t))) (i j : Nat) (hi : i < size) (hj : j < size) (_hsz : size < 4611686018427387904) :
    Calls Tryz.prog 113 #[.int .i64 i, .int .i64 j, .pointer (some ⟨Bs, 0, none⟩)] W fun e w' => e = .returned (.bool (blt (G i) (G j))) ∧ ∃ q, w' = W.drewN q := by
  have ci := hc i hi
  have cj := hc j hj
  clear hc
  go_enter Tryz.func113, Tryz.ntmps113
  go_wp2
  go_quiet (fail)
  go_wp2
  go_ret
  exact ⟨rfl, nq, rfl⟩
theorem sortP_two (blk c Bs : Nat) (d : Array (ByteArray × Int)) (h2 : 2 ≤ d.size) (hsz : d.size < 4611686018427387904) (w : World) (hH : HoldsK encP 2 w blk 0 d) (hblk : blk < w.heap.size)
    (hBs : w.cell? ⟨Bs, 0, none⟩ = some (.slice (some ⟨blk, 0, none⟩) d.size c)) (hB1 : Bs < w.heap.size) (hB2 : Bs ≠ blk) :
    Calls Tryz.prog 112 #[.iface 36 (.slice (some ⟨blk, 0, none⟩) d.size c), .func (.func 113) #[] #[.pointer (some ⟨Bs, 0, none⟩)]] w fun e w' =>
      e = .returned (.tuple #[]) ∧ ∃ d' n os, PermIn 0 d.size d d' ∧ SortedIn ltP 0 d.size d' ∧ w' = grow (putRowK encP 2 (Sort.ahead w n) blk 0 d') os := by
  have hless : LessReadsK Tryz.prog 113 #[.pointer (some ⟨Bs, 0, none⟩)] encP 2 ltP blk 0 d.size w := by
    intro m os dk hs i j hi hj
    have e : sortWorldK encP 2 w blk 0 m dk os = putRowK encP 2 (grow (Sort.ahead w m) os) blk 0 dk := by
      unfold sortWorldK; rw [putRowK_grow _ _ (Sort.ahead w m) _ blk 0 _ hblk]
    have hHg : HoldsK encP 2 (grow (Sort.ahead w m) os) blk 0 d := holdsK_grow _ _ _ _ blk 0 d hblk (holdsK_ahead _ _ _ _ _ _ _ hH)
    refine listLess blk 0 c Bs d.size _ (fun t => dk[t]!.1) ?_ (fun t ht => ?_) i j hi hj (by omega)
    · rw [e, cell?_putRowK_other _ _ _ blk 0 dk _ (by exact hB2), cell?_grow _ _ _ (by exact hB1)]; exact hBs
    · rw [e]; exact ((holdsK_putRowK _ _ _ blk 0 d dk hHg hs).cell (i := t) (c := 0) (by omega) (by omega)).1
  exact Any.sort_Slice_cells_sorted laysGg6 36 62 slTI slTE (by kernel_rfl) (by kernel_rfl) (by kernel_rfl) (by kernel_rfl) 25 (fun _ => by kernel_rfl) encP 2 (fun _ => rfl) (by kernel_rfl) (fun _ => by kernel_rfl)
    (fun x v hv => by simp [encP] at hv; rcases hv with rfl | rfl <;> rfl) ltP swo_ltP 113 _
    (enters_of Tryz.func113 (by kernel_rfl) rfl) blk 0 c d h2 hsz 197 (by rw [slK _ h2]; kernel_rfl) false
    (fun args W => run_callFunc_extern Tryz.func197 (by kernel_rfl) (by kernel_rfl) (by kernel_rfl) (e := Extern.ReflectliteSwapper.swap false) (by kernel_rfl) args W) w hless hH hblk
theorem sortP_any (B c Bs : Nat) (a : Option Addr) (l : Prs) (w : World) (h : w.ownsRow B 62 2 (.slice a l.length c) l.length (cP l)) (hn : l.length < 1000000000)
    (hBs : w.cell? ⟨Bs, 0, none⟩ = some (.slice a l.length c)) (hne : (Value.slice a l.length c).ownBlock ≠ some Bs) :
    Calls Tryz.prog 112 #[.iface 36 (.slice a l.length c), .func (.func 113) #[] #[.pointer (some ⟨Bs, 0, none⟩)]] w fun e w' =>
      e = .returned (.tuple #[]) ∧ ∃ l' : Prs, l'.length = l.length ∧ l'.Perm l ∧ l'.Pairwise (fun p q => blt q.1 p.1 = false) ∧ w'.ownsRow B 62 2 (.slice a l.length c) l.length (cP l') ∧ w.grownBy w' (Value.slice a l.length c).ownBlock := by
  by_cases h2 : 2 ≤ l.length
  · obtain ⟨g, cur, rfl, h3, h4, hrow, h5, h6, h7, h8⟩ := own_row h (by omega)
    have hB1 := World.block_lt_of_cell? w _ hBs
    have hB2 : Bs ≠ g := fun e => hne (by simp [Value.ownBlock, e])
    have hH := holds_row hrow l.toArray (by simpa using h8) (by simp; omega)
    refine (sortP_two g c Bs l.toArray (by simpa using h2) (by simp; omega) w hH h4 (by simpa using hBs) hB1 hB2).mono ?_
    rintro e w' ⟨rfl, d', n, os, ⟨p1, p2, p3⟩, hso, rfl⟩
    have hds : d'.size = l.length := by simpa using p1
    refine ⟨rfl, d'.toList, by simpa using hds, ?_, ?_, ?_, put_grown _ _ _ _ _⟩
    · have e1 : d'.extract 0 l.toArray.size = d' := by rw [List.size_toArray, ← hds]; exact Array.extract_size
      have e2 : l.toArray.extract 0 l.toArray.size = l.toArray := Array.extract_size
      rw [e1, e2] at p3
      simpa using p3
    · rw [List.pairwise_iff_getElem]
      intro i j hi hj hij
      have := hso i j (Nat.zero_le _) hij (by simpa [hds] using hj)
      rw [getElem!_pos d' i (by simpa using hi), getElem!_pos d' j (by simpa using hj)] at this
      exact this
    · have hF : (flatK encP 2 d').size ≤ cur.length := by rw [size_flatK, hds]; omega
      have hr := row_put (w := Sort.ahead w n) (e := 62) (cur := cur) hrow (flatK encP 2 d') hF
      have hr' : RowB (grow (putRowK encP 2 (Sort.ahead w n) g 0 d') os) g 62 ((flatK encP 2 d').toList ++ cur.drop (flatK encP 2 d').size) := by
        unfold RowB at hr ⊢
        rw [heap_grow_old _ _ (by exact (Array.getElem?_eq_some_iff.1 hr).1)]
        exact hr
      refine own_of_row hr' h3 h5 h6 ?_ ?_ ?_
      · simp only [List.length_append, Array.length_toList, List.length_drop]; omega
      · rw [cP_len]; simp [hds]
      · rw [List.take_left' (by simp [hds]), flat_cP]
  · have key : ∀ f, Tryz.prog.funcs.findIdx? (·.name == "internal/reflectlite" ++ ".Swapper$" ++ toString (Lib.swapperK l.length slTE 25)) = some f → Calls Tryz.prog 112 #[.iface 36 (.slice a l.length c), .func (.func 113) #[] #[.pointer (some ⟨Bs, 0, none⟩)]] w fun e w' => e = .returned (.tuple #[]) ∧ ∃ os, w' = grow w os :=
      fun f hf => Any.sort_Slice_tiny laysGg6 36 62 slTI slTE (by kernel_rfl) (by kernel_rfl) (by kernel_rfl) (by kernel_rfl) 25 (fun _ => by kernel_rfl) a l.length c (by omega) f hf _ _ _ w
    have hk : ∃ f, Tryz.prog.funcs.findIdx? (·.name == "internal/reflectlite" ++ ".Swapper$" ++ toString (Lib.swapperK l.length slTE 25)) = some f := by
      rcases (show l.length = 0 ∨ l.length = 1 by omega) with e | e
      · rw [e]; exact ⟨189, by kernel_rfl⟩
      · rw [e]; exact ⟨190, by kernel_rfl⟩
    obtain ⟨f, hf⟩ := hk
    refine (key f hf).mono ?_
    rintro e w' ⟨rfl, os, rfl⟩
    have E := grow_ext w os
    refine ⟨rfl, l, rfl, List.Perm.refl _, ?_, own_ext h E, ⟨E.os, E.tape, E.output, E.size', fun k hk _ => Below.block E k hk⟩⟩
    rcases l with _ | ⟨p, _ | ⟨q, l⟩⟩
    · exact List.Pairwise.nil
    · simp
    · simp at h2
/-- what was gathered, in order -/
theorem gath_end {f : ByteArray → Option Int} {left : Lit → Bool} {l l' : Prs} (hG : Gath f left l) (hl : ∀ k, left k = false) (hp : l'.Perm l) (hs : l'.Pairwise (fun p q => blt q.1 p.1 = false)) (hF : ∀ k a, f k = some a → okS k) :
    srtP l' ∧ nzP l' ∧ ∀ k, valP l' k = (f k).getD 0 := by
  obtain ⟨h1, h2, h3⟩ := hG
  have hmem : ∀ p, p ∈ l' ↔ f p.1 = some p.2 ∧ p.2 ≠ 0 := fun p => by
    rw [hp.mem_iff]
    constructor
    · intro h
      have := (h3 p.1 p.2 (h2 p h)).1 h
      exact ⟨this.1, this.2.1⟩
    · rintro ⟨e, e2⟩
      exact (h3 p.1 p.2 (hF _ _ e)).2 ⟨e, e2, hl _⟩
  have hnd : (l'.map (·.1)).Nodup := (hp.map (·.1)).nodup_iff.2 h1
  have hsrt : srtP l' := by
    rw [List.Nodup, List.pairwise_map] at hnd
    have := List.Pairwise.and hnd hs
    refine this.imp ?_
    rintro p q ⟨a, b⟩
    rcases blt_of_not b with e | e
    · exact absurd e.symm a
    · exact e
  have hnz : nzP l' := fun p hp' => ((hmem p).1 hp').2
  refine ⟨hsrt, hnz, fun k => ?_⟩
  by_cases hv : valP l' k = 0
  · rw [hv]
    cases hf : f k with
    | none => rfl
    | some c =>
      by_cases hc : c = 0
      · subst hc; rfl
      · have := (mem_valP hsrt hnz).1 ((hmem (k, c)).2 ⟨hf, hc⟩)
        rw [hv] at this
        exact absurd this.1.symm hc
  · have := (hmem _).1 (valP_ne hv)
    rw [this.1]; rfl
end Go.Proofs.YtddghaoejnbkaaaGreatDoor
