/- Contracts and lemmas for the proof of PartsPlay; each theorem states its own conditions. -/
import Derived.Test.YtimchedebcoohaaGreatDoorQPartsPlaybt
import Derived.Test.YtimchedebcoohaaGreatDoorQPartsPlayau
import Derived.Test.YtimchedebcoohaaGreatDoorQPartsPlayar
import Derived.Test.YtimchedebcoohaaGreatDoorQPartsPlaybo
import Derived.Test.YtimchedebcoohaaGreatDoorQPartsPlayat
import Derived.Test.YtimchedebcoohaaGreatDoorQPartsPlayao
import Derived.Test.YtimchedebcoohaaGreatDoorQPartsPlayak
import Derived.BigQuiet
set_option linter.unusedVariables false
set_option linter.unusedSimpArgs false
/- Contracts and lemmas for the proofs of this seat; each theorem states its own conditions. -/
namespace Go.Proofs.YtimchedebcoohaaGreatDoor
open Go.RowKit Go.Maps
/-! the document's Serial -/
/-- whether each may be done -/
def serO (v : Vls) : List Ops → List Bool
  | [] => []
  | d :: ds => okV v d :: serO (stepV v d) ds
theorem serV_app (v : Vls) (a b : List Ops) : serV v (a ++ b) = serV (serV v a) b ∧ serO v (a ++ b) = serO v a ++ serO (serV v a) b := by
  induction a generalizing v with
  | nil => exact ⟨rfl, rfl⟩
  | cons d a ih => simp only [List.cons_append, serV, serO, (ih _).1, (ih _).2]; simp
theorem serV_take {v : Vls} {D : List Ops} {k : Nat} (hk : k < D.length) : serV v (D.take (k + 1)) = stepV (serV v (D.take k)) D[k] ∧ serO v (D.take (k + 1)) = serO v (D.take k) ++ [okV (serV v (D.take k)) D[k]] := by
  rw [List.take_succ_eq_append_getElem hk]
  obtain ⟨a, b⟩ := serV_app v (D.take k) [D[k]]
  exact ⟨by rw [a]; rfl, by rw [b]; rfl⟩
theorem serO_len (v : Vls) (D : List Ops) : (serO v D).length = D.length := by
  induction D generalizing v with
  | nil => rfl
  | cons d D ih => simp [serO, ih]
/-- the same of stores -/
theorem serv_val {D : List Ops} (hd : ∀ d ∈ D, DeedOk d) : ∀ {l : Prs}, StoreOk l → valP (serS l D) = serV (valP l) D ∧ serB l D = serO (valP l) D := by
  induction D with
  | nil => intro l h; exact ⟨rfl, rfl⟩
  | cons d D ih =>
    intro l h
    obtain ⟨a, b, c⟩ := run_val h (hd d (by simp)).ops
    obtain ⟨e, g⟩ := ih (fun q hq => hd q (by simp [hq])) a
    exact ⟨by rw [serS, serV, e, b], by rw [serB, serO, g, b, c]⟩
/-- a map's block is no row's -/
theorem map_row_ne {P : Program} {k : TypeId} {R : Value → Option (DU × List MemPlace)} {w : World} {b n : Nat} {D : DU} (h : w.ownsMap P k R b n D) {B e sz n' : Nat} {v : Value} {xs : List Value} (h' : w.ownsRow B e sz v n' xs) : some b ≠ v.ownBlock := by
  obtain ⟨es, clock, hb, _⟩ := h
  rcases h'.2 with ⟨rfl, _⟩ | ⟨g, cap, cur, rfl, _, hg, _⟩
  · simp [Value.ownBlock]
  · intro q
    simp [Value.ownBlock] at q
    subst q
    rw [hb] at hg
    cases hg
end Go.Proofs.YtimchedebcoohaaGreatDoor

/- Contracts and lemmas for the proofs of this seat; each theorem states its own conditions. -/
namespace Go.Proofs.YtimchedebcoohaaGreatDoor
open Go.RowKit
/-! deed.Run, deed.Serial at whatever is handed in -/
theorem run_all (v vd : Value) (l : Prs) (d : Ops) (w : World) (hv : Seg w v 2 l.length (cP l)) (hvd : Seg w vd 4 d.length (cO d)) (hk : ∀ p ∈ l, p.1.size ≤ 9223372036854775807) (hd : opsSm d) (hlen : l.length ≤ 998000) :
    Calls Tryz.prog 42 #[v, .agg #[vd]] w fun e w' => ∃ v' L ok, e = .returned (.tuple #[v', .bool ok, .int .i64 (runE l d)]) ∧ w'.ownsRow w.heap.size 55 2 v' L.length (cP L) ∧ (runE l d = 0 → L = runS l d ∧ ok = runB l d) ∧ (runE l d ≠ 0 → L = [] ∧ ok = false) ∧ Ext w w' := by
  by_cases h : runE l d = 0
  · have hs : storeErr l = 0 := by
      by_cases q : storeErr l = 0
      · exact q
      · unfold runE at h; rw [if_pos q] at h; exact h
    have hde : deedE d = 0 := by unfold runE at h; rw [if_neg (by simp [hs])] at h; exact h
    refine (run_ok v vd l d w hv hvd (store_ok hs) (deed_ok hde) (fun o ho => (hd o ho).2) hlen).mono ?_
    rintro e w' ⟨v', rfl, ho, E⟩
    exact ⟨v', _, _, by rw [h], ho, fun _ => ⟨rfl, rfl⟩, fun q => absurd h q, E⟩
  · refine (run_bad v vd l d w hv hvd hk hd h).mono ?_
    rintro e w' ⟨rfl, E⟩
    exact ⟨_, [], false, rfl, World.ownsRow_nil _ _ _ _, fun q => absurd q h, fun _ => ⟨rfl, rfl⟩, E⟩
def serE (l : Prs) (D : List Ops) : Int := if storeErr l ≠ 0 then storeErr l else deedsE D
end Go.Proofs.YtimchedebcoohaaGreatDoor

/- Contracts and lemmas for the proofs of this seat; each theorem states its own conditions. -/
namespace Go.Proofs.YtimchedebcoohaaGreatDoor
open Go.RowKit Go.Maps
/-! StoreJoins: whatever is handed in -/
theorem take_ok {b : Prs} (h : StoreOk b) (k : Nat) : StoreOk (b.take k) :=
  ⟨fun p hp => h.key p (List.mem_of_mem_take hp), fun p hp => h.val p (List.mem_of_mem_take hp), List.Pairwise.sublist (List.take_sublist k b) h.srt⟩
theorem take_no {b : Prs} (h : StoreOk b) {k : Nat} (hk : k < b.length) : valP (b.take k) b[k].1 = 0 := by
  refine valP_none fun p hp e => ?_
  obtain ⟨i, hi, rfl⟩ := List.mem_iff_getElem.1 hp
  rw [List.length_take] at hi
  rw [List.getElem_take] at e
  have := List.pairwise_iff_getElem.1 h.srt i k (by omega) hk (by omega)
  rw [e, blt_irrefl] at this; cases this
theorem join_at {a b : Prs} (ha : StoreOk a) (hb : StoreOk b) {k : Nat} (hk : k < b.length) : valP (joinP a (b.take k)) b[k].1 = valP a b[k].1 := by
  rw [val_join ha.srt (take_ok hb k).srt (take_ok hb k).nz, take_no hb hk]; simp
/-- whose store may not be -/
def wantE (a b : Prs) : Int := if storeErr a ≠ 0 then storeErr a else storeErr b
/-- what is wanted, and what the map holds, once k pairs have come -/
def WantI (a b : Prs) (k : Nat) (f : ByteArray → Option Int) (e : Int) : Prop :=
  (wantE a b ≠ 0 ∧ e = wantE a b) ∨ (wantE a b = 0 ∧ ((e = 0 ∧ apartTo a b k ∧ ∀ x, (f x).getD 0 = valP (joinP a (b.take k)) x) ∨ (e = 5 ∧ apartB a b = false)))
theorem wantE_zero {a b : Prs} (h : wantE a b = 0) : StoreOk a ∧ StoreOk b := by
  unfold wantE at h
  by_cases ha : storeErr a = 0
  · rw [if_neg (by simp [ha])] at h; exact ⟨store_ok ha, store_ok h⟩
  · rw [if_pos ha] at h; exact absurd h ha
theorem want_end {a b : Prs} {f : ByteArray → Option Int} {e : Int} (h : WantI a b b.length f e) : e = joinE a b ∧ (e = 0 → StoreOk a ∧ StoreOk b ∧ ∀ x, (f x).getD 0 = valP (joinP a b) x) := by
  rcases h with ⟨h1, h2⟩ | ⟨h1, h2⟩
  · refine ⟨?_, fun he => absurd (he ▸ h2.symm) h1⟩
    rw [h2]
    unfold wantE joinE at *
    by_cases ha : storeErr a = 0
    · rw [if_neg (by simp [ha])] at h1 ⊢
      rw [if_neg (by simp [ha]), if_pos h1]
    · rw [if_pos ha, if_pos ha]
  · obtain ⟨oa, ob⟩ := wantE_zero h1
    have e1 : joinE a b = if apartB a b then 0 else 5 := by
      unfold joinE
      rw [if_neg (by simp [storeErr_ok oa]), if_neg (by simp [storeErr_ok ob])]
    rcases h2 with ⟨rfl, h3, h4⟩ | ⟨rfl, h3⟩
    · rw [List.take_length] at h4
      exact ⟨by rw [e1, apartTo_all h3 rfl]; rfl, fun _ => ⟨oa, ob, h4⟩⟩
    · exact ⟨by rw [e1, h3]; rfl, fun h => absurd h (by omega)⟩
theorem of_val {a : Prs} (ha : StoreOk a) : ∀ k, k ≤ a.length → ∀ x, (ofF a k x).getD 0 = valP (a.take k) x
  | 0, _, x => by simp [ofF, valP]
  | k + 1, h, x => by
    have ih := of_val ha k (by omega) x
    rw [ofF_step a (show k < a.length by omega)]
    have ht : a.take (k + 1) = a.take k ++ [a[k]'(by omega)] := List.take_succ_eq_append_getElem (by omega)
    dsimp only
    by_cases e : x = (a[k]'(by omega)).1
    · rw [if_pos e]
      have hm : a[k]'(by omega) ∈ a.take (k + 1) := by rw [ht]; exact List.mem_append_right _ (List.mem_singleton.2 rfl)
      rw [e, valP_mem (take_ok ha (k + 1)).srt hm]; rfl
    · rw [if_neg e, ih]
      by_cases hz : valP (a.take k) x = 0
      · rw [hz]
        refine (valP_none fun p hp ep => ?_).symm
        rw [ht] at hp
        rcases List.mem_append.1 hp with hp | hp
        · rw [← ep, valP_mem (take_ok ha k).srt hp] at hz
          exact (ha.val p (List.mem_of_mem_take hp)).1 hz
        · simp at hp; subst hp; exact e ep.symm
      · by_cases hex : ∃ p ∈ a.take k, p.1 = x
        · obtain ⟨p, hp, rfl⟩ := hex
          have hp2 : p ∈ a.take (k + 1) := by rw [ht]; exact List.mem_append_left _ hp
          rw [valP_mem (take_ok ha k).srt hp, valP_mem (take_ok ha (k + 1)).srt hp2]
        · exact absurd (valP_none fun p hp ep => hex ⟨p, hp, ep⟩) hz
theorem want_start (a b : Prs) : WantI a b 0 (ofF a a.length) (wantE a b) := by
  by_cases h : wantE a b = 0
  · obtain ⟨oa, ob⟩ := wantE_zero h
    refine .inr ⟨h, .inl ⟨h, apartTo_zero a b, fun x => ?_⟩⟩
    rw [of_val oa a.length (Nat.le_refl _) x, List.take_length, List.take_zero, join_nil]
  · exact .inl ⟨h, rfl⟩
/-- one pair more -/
theorem want_idle {a b : Prs} {k : Nat} {f : ByteArray → Option Int} {e : Int} (h : WantI a b k f e) (he : e ≠ 0) : WantI a b (k + 1) f e := by
  rcases h with h | ⟨h1, ⟨h2, _⟩ | h2⟩
  · exact .inl h
  · exact absurd h2 he
  · exact .inr ⟨h1, .inr h2⟩
theorem want_hit {a b : Prs} {k : Nat} {f : ByteArray → Option Int} (h : WantI a b k f 0) (hk : k < b.length) (hv : (f b[k].1).getD 0 ≠ 0) : WantI a b (k + 1) f 5 := by
  rcases h with ⟨h1, h2⟩ | ⟨h1, ⟨_, h3, h4⟩ | ⟨h2, _⟩⟩
  · exact absurd h2.symm h1
  · obtain ⟨oa, ob⟩ := wantE_zero h1
    refine .inr ⟨h1, .inr ⟨rfl, apart_hit hk ?_⟩⟩
    rw [h4, join_at oa ob hk] at hv; exact hv
  · omega
theorem want_put {a b : Prs} {k : Nat} {f : ByteArray → Option Int} (h : WantI a b k f 0) (hk : k < b.length) (hv : (f b[k].1).getD 0 = 0) : WantI a b (k + 1) (fun x => if x = b[k].1 then some b[k].2 else f x) 0 := by
  rcases h with ⟨h1, h2⟩ | ⟨h1, ⟨_, h3, h4⟩ | ⟨h2, _⟩⟩
  · exact absurd h2.symm h1
  · obtain ⟨oa, ob⟩ := wantE_zero h1
    rw [h4, join_at oa ob hk] at hv
    refine .inr ⟨h1, .inl ⟨rfl, apartTo_succ h3 hk hv, fun x => ?_⟩⟩
    rw [join_step hk, val_with (join_okS oa (take_ok ob k)).srt]
    dsimp only
    by_cases e : x = b[k].1
    · rw [if_pos e, if_pos e.symm]; rfl
    · rw [if_neg e, if_neg (fun q => e q.symm), h4]
  · omega
def jl1 : Prs := [((⟨#[98]⟩ : ByteArray), (1 : Int))]
def jl2 : Prs := [((⟨#[97]⟩ : ByteArray), (2 : Int))]
theorem jl_lit : storeErr jl1 = 0 ∧ storeErr jl2 = 0 ∧ apartB jl1 jl2 = true ∧ joinP jl1 jl2 = [((⟨#[97]⟩ : ByteArray), (2 : Int)), ((⟨#[98]⟩ : ByteArray), (1 : Int))] := by decide +kernel
end Go.Proofs.YtimchedebcoohaaGreatDoor

/- Contracts and lemmas for the proofs of this seat; each theorem states its own conditions. -/
namespace Go.Proofs.YtimchedebcoohaaGreatDoor
open Go.RowKit Go.Maps
/-! DeedRuns: whatever is handed in -/
def opA : GOp := ⟨1, ⟨#[97]⟩, ⟨#[]⟩, 5⟩
theorem opA_ok : DeedOk [opA] := deed_ok (by decide +kernel)
theorem runA : runS [] [opA] = [(⟨#[97]⟩, 5)] ∧ runB [] [opA] = true := by decide +kernel
theorem okNil : StoreOk [] := store_ok (by decide +kernel)
theorem of_FV {l : Prs} (h : StoreOk l) : FV (ofF l l.length) := fun x c hc => by
  have e := of_val h l.length (Nat.le_refl _) x
  rw [hc, List.take_length] at e
  have e' : c = valP l x := e
  rw [e']
  exact valB_iff.2 (val_bd h x)
theorem of_atF {l : Prs} (h : StoreOk l) : atF (ofF l l.length) = valP l := funext fun x => by
  have e := of_val h l.length (Nat.le_refl _) x
  rw [List.take_length] at e
  exact e
end Go.Proofs.YtimchedebcoohaaGreatDoor

/- Contracts and lemmas for the proofs of this seat; each theorem states its own conditions. -/
namespace Go.Proofs.YtimchedebcoohaaGreatDoor
open Go.RowKit
/-! slices.Concat of two, of three -/
theorem seg_n {w : World} {b : Nat} {us : List Value} {t : TypeId} (h : w.heap[b]? = some (.cells us.toArray t (0, 0))) (hl : us.length ≤ 1000) : Seg w (.slice (some ⟨b, 0, none⟩) us.length us.length) 1 us.length us :=
  seg_blk (xs := us) h (by simp) (Nat.le_refl _) (by unfold maxLen; omega)
theorem concat2S (b : Nat) (u v : Value) (x y : List ByteArray) (w : World) (h : w.heap[b]? = some (.cells #[u, v] 22 (0, 0))) (hu : Seg w u 1 x.length (cS x)) (hv : Seg w v 1 y.length (cS y)) (hn : x.length + y.length ≤ 1000000000) :
    Calls Tryz.prog 20 #[.slice (some ⟨b, 0, none⟩) 2 2] w fun e w' => ∃ v', e = .returned v' ∧ w'.ownsRow w.heap.size 9 1 v' (x ++ y).length (cS (x ++ y)) ∧ Ext w w' := by
  have := concat_Str _ [u, v] [(x.length, cS x), (y.length, cS y)] w (seg_n (us := [u, v]) h (by simp)) (Nat.le_refl _) (Nat.le_refl _) (fun i a p ha hp => by
    match i, ha, hp with
    | 0, ha, hp => simp at ha hp; subst ha; subst hp; exact hu
    | 1, ha, hp => simp at ha hp; subst ha; subst hp; exact hv) (by intro p hp; simp at hp; rcases hp with rfl | rfl <;> exact cS_one _) (by simp [totN]; omega)
  have e1 : totN [(x.length, cS x), (y.length, cS y)] = (x ++ y).length := by simp [totN]
  have e2 : totC [(x.length, cS x), (y.length, cS y)] = cS (x ++ y) := by simp [totC, cS]
  rw [e1, e2] at this
  exact this
theorem concat3S (b : Nat) (u v s : Value) (x y z : List ByteArray) (w : World) (h : w.heap[b]? = some (.cells #[u, v, s] 22 (0, 0))) (hu : Seg w u 1 x.length (cS x)) (hv : Seg w v 1 y.length (cS y)) (hs : Seg w s 1 z.length (cS z)) (hn : x.length + y.length + z.length ≤ 1000000000) :
    Calls Tryz.prog 20 #[.slice (some ⟨b, 0, none⟩) 3 3] w fun e w' => ∃ v', e = .returned v' ∧ w'.ownsRow w.heap.size 9 1 v' (x ++ y ++ z).length (cS (x ++ y ++ z)) ∧ Ext w w' := by
  have := concat_Str _ [u, v, s] [(x.length, cS x), (y.length, cS y), (z.length, cS z)] w (seg_n (us := [u, v, s]) h (by simp)) (Nat.le_refl _) (Nat.le_refl _) (fun i a p ha hp => by
    match i, ha, hp with
    | 0, ha, hp => simp at ha hp; subst ha; subst hp; exact hu
    | 1, ha, hp => simp at ha hp; subst ha; subst hp; exact hv
    | 2, ha, hp => simp at ha hp; subst ha; subst hp; exact hs) (by intro p hp; simp at hp; rcases hp with rfl | rfl | rfl <;> exact cS_one _) (by simp [totN]; omega)
  have e1 : totN [(x.length, cS x), (y.length, cS y), (z.length, cS z)] = (x ++ y ++ z).length := by simp [totN]
  have e2 : totC [(x.length, cS x), (y.length, cS y), (z.length, cS z)] = cS (x ++ y ++ z) := by simp [totC, cS]
  rw [e1, e2] at this
  exact this
/-- parts of a slice -/
theorem seg_take1 {w : World} {b off c n k : Nat} {xs : List Value} (h : Seg w (.slice (some ⟨b, off, none⟩) n c) 1 n xs) (hk : k ≤ n) : Seg w (.slice (some ⟨b, off, none⟩) k c) 1 k (xs.take k) := by
  obtain ⟨h0, a, cap, e, h1, h2, h3⟩ := h
  injection e with e1 e2 e3
  subst e1; subst e3
  refine ⟨by rw [List.length_take]; omega, _, _, rfl, by omega, h2, fun hk0 => ⟨b, off, rfl, fun j u hu => ?_⟩⟩
  obtain ⟨b', off', e, hc⟩ := h3 (by omega)
  injection e with e; injection e with e1 e2
  subst e1; subst e2
  rw [List.getElem?_take] at hu
  split at hu
  · exact hc j u hu
  · cases hu
theorem seg_drop1 {w : World} {b off c n k : Nat} {xs : List Value} (h : Seg w (.slice (some ⟨b, off, none⟩) n c) 1 n xs) (hk : k ≤ n) : Seg w (.slice (some ⟨b, off + k, none⟩) (n - k) (c - k)) 1 (n - k) (xs.drop k) := by
  obtain ⟨h0, a, cap, e, h1, h2, h3⟩ := h
  injection e with e1 e2 e3
  subst e1; subst e3
  refine ⟨by rw [List.length_drop]; omega, _, _, rfl, by omega, by omega, fun hk0 => ⟨b, off + k, rfl, fun j u hu => ?_⟩⟩
  obtain ⟨b', off', e, hc⟩ := h3 (by omega)
  injection e with e; injection e with e1 e2
  subst e1; subst e2
  rw [List.getElem?_drop] at hu
  rw [Nat.add_assoc]
  exact hc (k + j) u hu
end Go.Proofs.YtimchedebcoohaaGreatDoor

/- Contracts and lemmas for the proofs of this seat; each theorem states its own conditions. -/
namespace Go.Proofs.YtimchedebcoohaaGreatDoor
open Go.RowKit
/-! the document's Plain -/
theorem pl_take (C : List ByteArray) (O : List Int) (k : Nat) : ∀ j, j ≤ k → pl (C.take k) (O.take (k + 1)) j = pl C O j
  | 0, _ => by simp [pl, List.getD, List.getElem?_take]
  | j + 1, h => by
    have ih := pl_take C O k j (by omega)
    have e1 : (O.take (k + 1)).getD (j + 1) 0 = O.getD (j + 1) 0 := by simp [List.getD, List.getElem?_take, show j + 1 < k + 1 by omega]
    have e2 : kAt (C.take k) j = kAt C j := by simp [kAt, List.getD, List.getElem?_take, show j < k by omega]
    simp only [pl, ih, e1, e2]
theorem cS_take (l : List ByteArray) (k : Nat) : (cS l).take k = cS (l.take k) := by simp [cS]
theorem cI_take (l : List Int) (k : Nat) : (cI l).take k = cI (l.take k) := by simp [cI]
theorem cS_drop (l : List ByteArray) (k : Nat) : (cS l).drop k = cS (l.drop k) := by simp [cS]
theorem cI_drop (l : List Int) (k : Nat) : (cI l).drop k = cI (l.drop k) := by simp [cI]
theorem seg_at0 {w : World} {a : Option Addr} {n c : Nat} {xs : List Value} (h : Seg w (.slice a n c) 1 n xs) (hn : 0 < n) : ∃ b off, a = some ⟨b, off, none⟩ := by
  obtain ⟨b, off, e, _⟩ := seg_cells h hn
  exact ⟨b, off, e⟩
def SegStr (l : List ByteArray) (v : Value) (w : World) : Prop := Seg w v 1 l.length (cS l)
def SegInt (l : List Int) (v : Value) (w : World) : Prop := Seg w v 1 l.length (cI l)
/-- a cell of another kind may be written -/
theorem seg_set_kind {w : World} {v : Value} {n : Nat} {xs : List Value} {bX : Nat} {cs : Array Value} {t : TypeId} {fr : Nat × Nat} (h : Seg w v 1 n xs) (hb : w.heap[bX]? = some (.cells cs t fr)) (hne : ∀ u ∈ xs, u ∉ cs.toList) (i : Nat) (z : Value) : Seg (w.setCell ⟨bX, i, none⟩ z) v 1 n xs := by
  obtain ⟨h0, a, c, h1, h2, h3, h4⟩ := h
  refine ⟨h0, a, c, h1, h2, h3, fun hn => ?_⟩
  obtain ⟨b, off, h5, h6⟩ := h4 hn
  refine ⟨b, off, h5, fun j u hu => ?_⟩
  have hc := h6 j u hu
  refine cell_set_far hc fun e => ?_
  simp only at e
  subst e
  have : cs[off + j]? = some u := by simpa [World.cell?, hb] using hc
  exact hne u (List.mem_of_getElem? hu) (by rw [← Array.getElem?_toList] at this; exact List.mem_of_getElem? this)
theorem cS_kind {l : List ByteArray} {a b : Option Addr} {n c m d : Nat} : ∀ u ∈ cS l, u ∉ (#[Value.slice a n c, Value.slice b m d] : Array Value).toList := by
  intro u hu hm
  simp [cS] at hu
  obtain ⟨s, _, rfl⟩ := hu
  simp at hm
theorem cI_kind {l : List Int} {a b : Option Addr} {n c m d : Nat} : ∀ u ∈ cI l, u ∉ (#[Value.slice a n c, Value.slice b m d] : Array Value).toList := by
  intro u hu hm
  simp [cI] at hu
  obtain ⟨s, _, rfl⟩ := hu
  simp at hm
theorem map_set2 {w : World} {bX : Nat} {t : TypeId} {C : List ByteArray} {O : List Int} {c o : Value} {x0 x1 : Option Addr} {n0 c0 n1 c1 m0 d0 m1 d1 : Nat} {y0 y1 : Option Addr} (h : IsMap w (.agg #[c, o]) C O) (hb : w.heap[bX]? = some (.cells #[.slice x0 n0 c0, .slice x1 n1 c1] t (0, 0))) :
    IsMap ((w.setCell ⟨bX, 0, none⟩ (.slice y0 m0 d0)).setCell ⟨bX, 1, none⟩ (.slice y1 m1 d1)) (.agg #[c, o]) C O := by
  obtain ⟨c', o', e, h1, h2⟩ := h
  injection e with e; injection e with e; injection e with e1 e; injection e with e2 _
  subst e1; subst e2
  exact ⟨_, _, rfl, seg_set_kind (seg_set_kind h1 hb cS_kind 0 _) (blk2_set0 hb _) cS_kind 1 _, seg_set_kind (seg_set_kind h2 hb cI_kind 0 _) (blk2_set0 hb _) cI_kind 1 _⟩
end Go.Proofs.YtimchedebcoohaaGreatDoor
