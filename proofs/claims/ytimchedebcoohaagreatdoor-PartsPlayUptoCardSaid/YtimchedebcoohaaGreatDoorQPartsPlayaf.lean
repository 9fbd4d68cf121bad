/- Contracts and lemmas for the proof of PartsPlay; each theorem states its own conditions. -/
import Derived.Test.YtimchedebcoohaaGreatDoorQPartsPlayab
import Derived.Maps.Own
import Derived.Maps.OwnOps
import Derived.Maps.RangeWalk
import Derived.Maps.Views
set_option linter.unusedVariables false
set_option linter.unusedSimpArgs false
/- Contracts and lemmas for the proofs of this seat; each theorem states its own conditions. -/
namespace Go.Proofs.YtimchedebcoohaaGreatDoor
open Go.RowKit Go.Maps
/-! maps of one's own, as plain functions -/
abbrev DU := DataW Unit
def kS (s : ByteArray) : Lit := .string s.data.toList
def kI (n : Int) : Lit := .int .i64 n
def dI (n : Int) : DU := .lit (.int .i64 n)
def dB (b : Bool) : DU := .lit (.bool b)
def okS (s : ByteArray) : Prop := s.size ≤ maxLen
def okI (n : Int) : Prop := (Lit.int .i64 n).wf = true
theorem kS_inj {a b : ByteArray} (h : kS a = kS b) : a = b := by
  unfold kS at h
  injection h with h
  exact toList_inj (by rw [toList_data, toList_data, h])
theorem kI_inj {a b : Int} (h : kI a = kI b) : a = b := by
  unfold kI at h; injection h
theorem dI_inj {a b : Int} (h : dI a = dI b) : a = b := by
  unfold dI at h; injection h with h; injection h
theorem dB_inj {a b : Bool} (h : dB a = dB b) : a = b := by
  unfold dB at h; injection h with h; injection h
theorem kS_is (s : ByteArray) : WideAt.IsKeyLit (kS s) := trivial
theorem kI_is (s : Int) : WideAt.IsKeyLit (kI s) := trivial
/-- D holds what f says -/
def MapF {κ α : Type} (kl : κ → Lit) (ok : κ → Prop) (vd : α → DU) (D : DU) (f : κ → Option α) : Prop :=
  _root_.Go.Maps.IsMap D ∧ (∀ k a, f k = some a → ok k) ∧ ∀ k, ok k → (f k = none → has D (kl k) = false) ∧ ∀ a, f k = some a → has D (kl k) = true ∧ ∀ z, D.atKey (kl k) z = vd a
section
variable {κ α : Type} {kl : κ → Lit} {ok : κ → Prop} {vd : α → DU} {D : DU} {f : κ → Option α}
theorem MapF.empty : MapF kl ok vd (.map []) (fun _ => none) := ⟨isMap_empty, ⟨fun _ _ h => (by simp at h), fun _ _ => ⟨fun _ => rfl, fun _ h => (by simp at h)⟩⟩⟩
theorem MapF.put [DecidableEq κ] (h : MapF kl ok vd D f) (inj : ∀ {x y}, kl x = kl y → x = y) (is : ∀ x, WideAt.IsKeyLit (kl x)) {k : κ} (hk : ok k) (a : α) : MapF kl ok vd (D.put (kl k) (vd a)) (fun x => if x = k then some a else f x) := by
  obtain ⟨h1, h2, h3⟩ := h
  refine ⟨h1.put _ _, fun x b hb => ?_, fun x hx => ?_⟩
  · dsimp only at hb
    split at hb
    · rename_i e; subst e; exact hk
    · exact h2 x b hb
  · dsimp only
    by_cases e : x = k
    · subst e
      rw [if_pos rfl]
      refine ⟨fun q => (by cases q), fun b hb => ?_⟩
      injection hb with hb; subst hb
      exact ⟨has_put_same h1 (is _) _, fun z => atKey_put_same h1 (is _) _ z⟩
    · rw [if_neg e]
      have hne : kl x ≠ kl k := fun q => e (inj q)
      refine ⟨fun q => ?_, fun b hb => ?_⟩
      · rw [has_put_other hne]; exact (h3 x hx).1 q
      · obtain ⟨q1, q2⟩ := (h3 x hx).2 b hb
        exact ⟨by rw [has_put_other hne]; exact q1, fun z => by rw [atKey_put_other hne]; exact q2 z⟩
theorem MapF.del [DecidableEq κ] (h : MapF kl ok vd D f) (inj : ∀ {x y}, kl x = kl y → x = y) (k : κ) : MapF kl ok vd (D.del (kl k)) (fun x => if x = k then none else f x) := by
  obtain ⟨h1, h2, h3⟩ := h
  refine ⟨h1.del _, fun x b hb => ?_, fun x hx => ?_⟩
  · dsimp only at hb
    split at hb
    · cases hb
    · exact h2 x b hb
  · dsimp only
    by_cases e : x = k
    · subst e
      rw [if_pos rfl]
      exact ⟨fun _ => has_del_same, fun b hb => (by cases hb)⟩
    · rw [if_neg e]
      have hne : kl x ≠ kl k := fun q => e (inj q)
      refine ⟨fun q => ?_, fun b hb => ?_⟩
      · rw [has_del_other hne]; exact (h3 x hx).1 q
      · obtain ⟨q1, q2⟩ := (h3 x hx).2 b hb
        exact ⟨by rw [has_del_other hne]; exact q1, fun z => by rw [atKey_del_other hne]; exact q2 z⟩
theorem MapF.look (h : MapF kl ok vd D f) (vinj : ∀ {x y}, vd x = vd y → x = y) {k : κ} (hk : ok k) {c z : α} (e : D.atKey (kl k) (vd z) = vd c) : c = (f k).getD z := by
  obtain ⟨h1, h2, h3⟩ := h
  cases hf : f k with
  | none =>
    rw [atKey_of_not_has ((h3 k hk).1 hf)] at e
    exact (vinj e).symm
  | some b =>
    rw [((h3 k hk).2 b hf).2] at e
    exact (vinj e).symm
theorem MapF.get (h : MapF kl ok vd D f) (vinj : ∀ {x y}, vd x = vd y → x = y) {k : κ} (hk : ok k) {c : α} (e : ∀ z, D.atKey (kl k) z = vd c) : f k = some c := by
  obtain ⟨h1, h2, h3⟩ := h
  have hh := has_true_of_atKey e
  cases hf : f k with
  | none => rw [(h3 k hk).1 hf] at hh; cases hh
  | some b =>
    have := ((h3 k hk).2 b hf).2 (.map [])
    rw [e] at this
    rw [vinj this]
theorem MapF.has (h : MapF kl ok vd D f) {k : κ} (hk : ok k) : Maps.has D (kl k) = (f k).isSome := by
  obtain ⟨h1, h2, h3⟩ := h
  cases hf : f k with
  | none => exact (h3 k hk).1 hf
  | some b => exact ((h3 k hk).2 b hf).1
end
theorem keyOf_string_inv {P : Program} {k : TypeId} (hk : P.underlying k = some .string) {key : Value} {kl : Lit} (h : Go.keyOf P k key = some kl) : ∃ x, key = .string x ∧ kl = kS x ∧ okS x := by
  cases key <;> simp [Go.keyOf, hk, mapKey] at h
  obtain ⟨h1, rfl⟩ := h
  exact ⟨_, rfl, rfl, h1⟩
theorem plainElem_bool_inv {P : Program} {e : TypeId} (he : P.underlying e = some .bool) {v : Value} {z : DU × List MemPlace} (h : plainElem P e v = some z) : ∃ a, v = .bool a ∧ z = (dB a, []) := by
  unfold plainElem at h
  rw [he] at h
  cases v <;> simp at h
  exact ⟨_, rfl, h.symm⟩
theorem own_size {P : Program} {k : TypeId} {R : Value → Option (DU × List MemPlace)} {w : World} {b n : Nat} {D : DU} (h : w.ownsMap P k R b n D) : size D ≤ n := by
  obtain ⟨es, clock, hb, F, hs, rfl⟩ := h
  rw [size_eq, length_sorted]
  simpa using hs
theorem ownsMap_ext {P : Program} {k : TypeId} {R : Value → Option (DU × List MemPlace)} {w w' : World} {b n : Nat} {D : DU} (h : w.ownsMap P k R b n D) (k' : Ext w w') : w'.ownsMap P k R b n D := by
  obtain ⟨es, clock, hb, rest⟩ := h
  exact ⟨es, clock, k'.heap hb, rest⟩
theorem ranges_ext {P : Program} {k : TypeId} {R : Value → Option (DU × List MemPlace)} {w w' : World} {b r n : Nat} {D : DU} {left : Lit → Bool} {cnt : Nat} (h : w.ranges P k R b r n D left cnt) (k' : Ext w w') : w'.ranges P k R b r n D left cnt := by
  have hb := h.owns.lt
  have hr := h.lt
  exact h.kept (row := none) ⟨k'.os, k'.tape, k'.output, k'.size', fun j hj _ => Below.block k' j hj⟩ (by simp) (by simp)
section
variable {P : Program} (w : World) {ops : Array Oper} {rest : List Oper} {o : Oper} {a : Act} {Q : Exit → Act → World → Prop}
/-- the step of a loop over a map of texts to numbers -/
theorem wpList_next_si (hg : o.guard = none) (it : Operand) (hop : o.op = Op.next it false) (k e : TypeId) (K : Keyed P k) (hk : P.underlying k = some .string) (he : P.underlying e = some (.int .i64))
    (b r n : Nat) (D : DU) (f : ByteArray → Option Int) (hF : MapF kS okS dI D f) (left : Lit → Bool) (cnt : Nat) (hit : a.eval it = .pointer (some ⟨r, 0, none⟩)) (h : w.ranges P k (plainElem P e) b r n D left cnt)
    (hDone : (∀ kl, left kl = false) → wpList P ops Q rest (a.put o.dst (.tuple #[.bool false])) w)
    (hMore : ∀ (x : ByteArray) (c : Int) (w' : World) (cnt' : Nat), okS x → okI c → left (kS x) = true → f x = some c → w'.ranges P k (plainElem P e) b r n D (fun z => left z && !z.sameKey (kS x)) cnt' → cnt' < cnt →
      w.grownBy w' (some r) → w'.heap.size = w.heap.size → (Instr.entry (.pointer (some ⟨r, 0, none⟩))).run P w' = .ok (.tuple #[.string x, .int .i64 c]) w' → wpList P ops Q rest (a.put o.dst (.tuple #[.bool true, .string x, .int .i64 c])) w') :
    wpList P ops Q (o :: rest) a w :=
  wpList_next_ranges w hg it hop k K (plainElem P e) Value.string (Value.int .i64) (fun key kl hkey => by obtain ⟨x, rfl, _⟩ := keyOf_string_inv hk hkey; exact ⟨x, rfl⟩) (fun v y hv => by obtain ⟨c, rfl, _⟩ := plainElem_int_inv he hv; exact ⟨c, rfl⟩)
    b r n D left cnt hit h (fun _ => hDone) (fun x c kl y w' cnt' hkey hlk hv hat hrg hlt hgr hsz hen => by
      obtain ⟨x', ex, rfl, hwx⟩ := keyOf_string_inv hk hkey
      cases ex
      obtain ⟨c', ec, rfl, hwc⟩ := plainElem_int_inv he hv
      cases ec
      exact hMore x c w' cnt' hwx hwc hlk (hF.get dI_inj hwx hat) hrg hlt hgr hsz hen)
/-- the step of a loop over a map of texts to truths -/
theorem wpList_next_sb (hg : o.guard = none) (it : Operand) (hop : o.op = Op.next it false) (k e : TypeId) (K : Keyed P k) (hk : P.underlying k = some .string) (he : P.underlying e = some .bool)
    (b r n : Nat) (D : DU) (f : ByteArray → Option Bool) (hF : MapF kS okS dB D f) (left : Lit → Bool) (cnt : Nat) (hit : a.eval it = .pointer (some ⟨r, 0, none⟩)) (h : w.ranges P k (plainElem P e) b r n D left cnt)
    (hDone : (∀ kl, left kl = false) → wpList P ops Q rest (a.put o.dst (.tuple #[.bool false])) w)
    (hMore : ∀ (x : ByteArray) (c : Bool) (w' : World) (cnt' : Nat), okS x → left (kS x) = true → f x = some c → w'.ranges P k (plainElem P e) b r n D (fun z => left z && !z.sameKey (kS x)) cnt' → cnt' < cnt →
      w.grownBy w' (some r) → w'.heap.size = w.heap.size → (Instr.entry (.pointer (some ⟨r, 0, none⟩))).run P w' = .ok (.tuple #[.string x, .bool c]) w' → wpList P ops Q rest (a.put o.dst (.tuple #[.bool true, .string x, .bool c])) w') :
    wpList P ops Q (o :: rest) a w :=
  wpList_next_ranges w hg it hop k K (plainElem P e) Value.string Value.bool (fun key kl hkey => by obtain ⟨x, rfl, _⟩ := keyOf_string_inv hk hkey; exact ⟨x, rfl⟩) (fun v y hv => by obtain ⟨c, rfl, _⟩ := plainElem_bool_inv he hv; exact ⟨c, rfl⟩)
    b r n D left cnt hit h (fun _ => hDone) (fun x c kl y w' cnt' hkey hlk hv hat hrg hlt hgr hsz hen => by
      obtain ⟨x', ex, rfl, hwx⟩ := keyOf_string_inv hk hkey
      cases ex
      obtain ⟨c', ec, rfl⟩ := plainElem_bool_inv he hv
      cases ec
      exact hMore x c w' cnt' hwx hlk (hF.get dB_inj hwx hat) hrg hlt hgr hsz hen)
end
/-! what a loop over a map has gathered -/
/-- the pairs gathered of f so far -/
def Gath (f : ByteArray → Option Int) (left : Lit → Bool) (l : List (ByteArray × Int)) : Prop :=
  (l.map (·.1)).Nodup ∧ (∀ p ∈ l, okS p.1) ∧ ∀ k c, okS k → ((k, c) ∈ l ↔ f k = some c ∧ c ≠ 0 ∧ left (kS k) = false)
theorem sameKey_kS {a b : ByteArray} (h : a ≠ b) : (kS a).sameKey (kS b) = false := sameKey_ne fun e => h (kS_inj e)
theorem sameKey_self (a : ByteArray) : (kS a).sameKey (kS a) = true := by simp [kS, Lit.sameKey]
theorem gath_start {D : DU} {f : ByteArray → Option Int} (hF : MapF kS okS dI D f) : Gath f (has D) [] := by
  refine ⟨List.nodup_nil, by simp, fun k c hk => ?_⟩
  rw [hF.has hk]
  simp
  intro h; simp [h]
theorem gath_keep {f : ByteArray → Option Int} {left : Lit → Bool} {l : List (ByteArray × Int)} (h : Gath f left l) {x : ByteArray} {c : Int} (hx : okS x) (hl : left (kS x) = true) (hf : f x = some c) (hc : c ≠ 0) : Gath f (fun z => left z && !z.sameKey (kS x)) (l ++ [(x, c)]) := by
  obtain ⟨h1, h2, h3⟩ := h
  have hn : ∀ d, (x, d) ∉ l := fun d hd => by have := ((h3 x d hx).1 hd).2.2; rw [hl] at this; cases this
  refine ⟨?_, fun p hp => ?_, fun k d hk => ?_⟩
  · rw [List.map_append, List.nodup_append]
    refine ⟨h1, by simp, fun a ha b hb => ?_⟩
    simp at hb; subst hb
    rintro rfl
    obtain ⟨p, hp, e⟩ := List.mem_map.1 ha
    exact hn p.2 (by rw [← e]; exact hp)
  · rcases List.mem_append.1 hp with hp | hp
    · exact h2 p hp
    · simp at hp; subst hp; exact hx
  · by_cases e : k = x
    · subst e
      simp [sameKey_self, hf]
      constructor
      · rintro (h | h)
        · exact absurd h (hn d)
        · subst h; exact ⟨rfl, hc⟩
      · rintro ⟨rfl, _⟩; exact .inr rfl
    · simp only [List.mem_append, h3 k d hk, sameKey_kS e]
      simp [e]
theorem gath_drop {f : ByteArray → Option Int} {left : Lit → Bool} {l : List (ByteArray × Int)} (h : Gath f left l) {x : ByteArray} (hx : okS x) (hl : left (kS x) = true) (hf : f x = some 0) : Gath f (fun z => left z && !z.sameKey (kS x)) l := by
  obtain ⟨h1, h2, h3⟩ := h
  refine ⟨h1, h2, fun k d hk => ?_⟩
  by_cases e : k = x
  · subst e
    simp [h3 k d hk, hf, hl]
    rintro rfl h; exact absurd rfl h
  · simp only [h3 k d hk, sameKey_kS e]
    simp
end Go.Proofs.YtimchedebcoohaaGreatDoor

/- Contracts and lemmas for the proofs of this seat; each theorem states its own conditions. -/
namespace Go.Proofs.YtimchedebcoohaaGreatDoor
open Go.RowKit Go.Maps
/-! maps of texts to numbers: m[k] -/
/-- what is there, 0 if nothing is -/
def atF (f : ByteArray → Option Int) (k : ByteArray) : Int := (f k).getD 0
section
variable {P : Program} (w : World) {ops : Array Oper} {rest : List Oper} {o : Oper} {a : Act} {Q : Exit → Act → World → Prop}
theorem wpList_lookup_mi (hg : o.guard = none) (m x : Operand) (t : TypeId) (hop : o.op = Op.lookup t m x false)
    (k e : TypeId) (K : Keyed P k) (ht : P.underlying t = some (.map k e)) (he : P.underlying e = some (.int .i64)) (hz : (zeroValue e).run P w = .ok (.int .i64 0) w) (b n : Nat) (D : DU) (f : ByteArray → Option Int) (hF : MapF kS okS dI D f)
    (hm : a.eval m = .map (some b)) (hown : w.ownsMap P k (plainElem P e) b n D) (key : Value) (kk : ByteArray) (hkk : okS kk) (hx : a.eval x = key) (hkey : Go.keyOf P k key = some (kS kk))
    (hK : wpList P ops Q rest (a.put o.dst (.int .i64 (atF f kk))) w) : wpList P ops Q (o :: rest) a w :=
  wpList_lookup_own_int w hg m x t hop k e .i64 K ht he hz b n D hm hown key _ hx hkey fun c hat _ => by
    have := hF.look dI_inj hkk hat
    subst this; exact hK
theorem wpList_lookup_mig (hg : Region.wanted o (yielded ops a.tmps) = true) (m x : Operand) (t : TypeId) (hop : o.op = Op.lookup t m x false)
    (k e : TypeId) (K : Keyed P k) (ht : P.underlying t = some (.map k e)) (he : P.underlying e = some (.int .i64)) (hz : (zeroValue e).run P w = .ok (.int .i64 0) w) (b n : Nat) (D : DU) (f : ByteArray → Option Int) (hF : MapF kS okS dI D f)
    (hm : a.eval m = .map (some b)) (hown : w.ownsMap P k (plainElem P e) b n D) (key : Value) (kk : ByteArray) (hkk : okS kk) (hx : a.eval x = key) (hkey : Go.keyOf P k key = some (kS kk))
    (hK : wpList P ops Q rest (a.put o.dst (.int .i64 (atF f kk))) w) : wpList P ops Q (o :: rest) a w := by
  refine wpList_step fun K' hK' => ?_
  rw [if_pos hg]
  obtain ⟨c, hrun, hat, hwc⟩ := hown.lookup_int K ht he hz hkey
  have := hF.look dI_inj hkk hat
  subst this
  unfold Oper.wp
  simp [execOp, hop, hm, hx, hrun, Result.andThen]
  exact hK' _ _ hK
end
end Go.Proofs.YtimchedebcoohaaGreatDoor
