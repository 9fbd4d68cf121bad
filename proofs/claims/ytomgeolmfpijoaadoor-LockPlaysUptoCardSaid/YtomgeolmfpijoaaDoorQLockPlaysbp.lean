/- Contracts and lemmas for the proof of LockPlays; each theorem states its own conditions. -/
import Derived.Test.YtomgeolmfpijoaaDoorQLockPlaysbo
import Derived.Test.YtomgeolmfpijoaaDoorQLockPlaysay
import Derived.Test.YtomgeolmfpijoaaDoorQLockPlaysbl
import Derived.Test.YtomgeolmfpijoaaDoorQLockPlaysbm
import Derived.Test.YtomgeolmfpijoaaDoorQLockPlaysaz
import Derived.Test.YtomgeolmfpijoaaDoorQLockPlaysbe
set_option linter.unusedVariables false
set_option linter.unusedSimpArgs false
/- Contracts and lemmas for the proofs of this seat; each theorem states its own conditions. -/
namespace Go.Proofs.YtomgeolmfpijoaaDoor
open Go.RowKit Go.Maps
/-! writing beside a lock table -/
/-- a row of one's own of another element may be written -/
theorem LockSt.beside {w w' : World} {B bt bk bd : Nat} {A : List Ops} {g : Nat → Bool} {F : ByteArray → Option SV} {G : Int → Option SV} (h : LockSt w B bt bk bd A g F G) {e b : Nat} {cs : Array Value} {fr : Nat × Nat} (hb : w.heap[b]? = some (.cells cs e fr)) (h1 : e ≠ 152) (h2 : e ≠ 148) (h3 : e ≠ 9)
    (hg : w.grownBy w' (some b)) : LockSt w' B bt bk bd A g F G where
  hBt := h.hBt
  hBk := h.hBk
  hBd := h.hBd
  ne := h.ne
  box := by
    have hx := h.box
    rw [hg.block bt (Array.getElem?_eq_some_iff.1 hx).1 (fun e' => by
      injection e' with e'; subst e'; rw [hx] at hb; injection hb with hb; injection hb with _ hb; exact h2 hb.symm)]
    exact hx
  km := by
    obtain ⟨n, D, a, q⟩ := h.km
    refine ⟨n, D, a.kept hg (fun e' => ?_), q⟩
    obtain ⟨es, clock, hm, _⟩ := a
    injection e' with e'; subst e'; rw [hm] at hb; cases hb
  dm := by
    obtain ⟨n, D, a, q⟩ := h.dm
    refine ⟨n, D, a.kept hg (fun e' => ?_), q⟩
    obtain ⟨es, clock, hm, _⟩ := a
    injection e' with e'; subst e'; rw [hm] at hb; cases hb
  keys := fun k => kept_ne hg (h.keys k) (own_ne (h.keys k) hb (fun q => h1 q.symm))
  apart := h.apart
  rows := fun n a b => by obtain ⟨s, e, o⟩ := h.rows n a b; exact ⟨s, e, kept_ne hg o (own_ne o hb (fun q => h3 q.symm))⟩
  nones := h.nones
  later := h.later
  few := h.few
  dok := h.dok
theorem LockSt.beside' {w w' : World} {B bt bk bd : Nat} {A : List Ops} {g : Nat → Bool} {F : ByteArray → Option SV} {G : Int → Option SV} (h : LockSt w B bt bk bd A g F G) {B' e sz n : Nat} {v : Value} {xs : List Value} (ho : w.ownsRow B' e sz v n xs) (h1 : e ≠ 152) (h2 : e ≠ 148) (h3 : e ≠ 9)
    (hg : w.grownBy w' v.ownBlock) : LockSt w' B bt bk bd A g F G := by
  rcases ho.2 with ⟨rfl, _⟩ | ⟨b, cap, cur, rfl, _, hb, _⟩
  · exact h.ext (ext_of_grown' hg)
  · exact h.beside hb h1 h2 h3 hg
end Go.Proofs.YtomgeolmfpijoaaDoor

/- Contracts and lemmas for the proofs of this seat; each theorem states its own conditions. -/
namespace Go.Proofs.YtomgeolmfpijoaaDoor
open Go.RowKit
/-! make([]int, n), make([]bool, n); stores into such rows -/
theorem made_one (z : Value) (hz : z.cells = #[z]) (n : Nat) : (madeCells z.cells (n * 1)).toList = List.replicate n z := by
  apply List.ext_getElem
  · simp [madeCells]
  · intro i h1 h2
    simp [madeCells, hz, Nat.mod_one]
section
variable (w : World) {ops : Array Oper} {rest : List Oper} {o : Oper} {a : Act} {Q : Exit → Act → World → Prop}
theorem wpList_make_int (hg : o.guard = none) (l c : Operand) (hop : o.op = Op.makeSlice 22 l c) (n : Nat) (hl : a.eval l = .int .i64 n) (hc : a.eval c = .int .i64 n) (hn : n ≤ 1000000)
    (hK : ∀ v' w', w'.ownsRow w.heap.size 3 1 v' n (cI (List.replicate n 0)) → (∃ c, v' = .slice (some ⟨w.heap.size, 0, none⟩) n c) → Ext w w' → wpList Tryd.prog ops Q rest (a.put o.dst v') w') : wpList Tryd.prog ops Q (o :: rest) a w := by
  obtain ⟨i, i1, i2, i3, i4⟩ := info_parts (P := Tryd.prog) (e := 3) (z := .int .i64 0) (size := 1) (bytes := 8) (by kernel_rfl)
  refine wpList_make_full w hg l c 22 hop w.heap.size 3 i (.int .i64 0) 1 Tryd.underlying22 i1 i2 i3 .i64 .i64 n n n hl hc rfl rfl (by rw [i4]; omega) (by unfold maxLen; omega) (Nat.le_refl _) fun w' h1 h2 => ?_
  rw [made_one _ rfl] at h1
  refine hK _ w' ?_ ⟨_, rfl⟩ ((Ext.refl w).grown h2 (by simp))
  have : cI (List.replicate n 0) = List.replicate n (.int .i64 0) := by simp [cI]
  rw [this]; exact h1
theorem wpList_make_bool (hg : o.guard = none) (l c : Operand) (hop : o.op = Op.makeSlice 72 l c) (n : Nat) (hl : a.eval l = .int .i64 n) (hc : a.eval c = .int .i64 n) (hn : n ≤ 1000000)
    (hK : ∀ v' w', w'.ownsRow w.heap.size 4 1 v' n (cB (List.replicate n false)) → (∃ c, v' = .slice (some ⟨w.heap.size, 0, none⟩) n c) → Ext w w' → wpList Tryd.prog ops Q rest (a.put o.dst v') w') : wpList Tryd.prog ops Q (o :: rest) a w := by
  obtain ⟨i, i1, i2, i3, i4⟩ := info_parts (P := Tryd.prog) (e := 4) (z := .bool false) (size := 1) (bytes := 1) (by kernel_rfl)
  refine wpList_make_full w hg l c 72 hop w.heap.size 4 i (.bool false) 1 Tryd.underlying72 i1 i2 i3 .i64 .i64 n n n hl hc rfl rfl (by rw [i4]; omega) (by unfold maxLen; omega) (Nat.le_refl _) fun w' h1 h2 => ?_
  rw [made_one _ rfl] at h1
  refine hK _ w' ?_ ⟨_, rfl⟩ ((Ext.refl w).grown h2 (by simp))
  have : cB (List.replicate n false) = List.replicate n (.bool false) := by simp [cB]
  rw [this]; exact h1
end
theorem cI_set (l : List Int) (i : Nat) (x : Int) : (cI l).set i (.int .i64 x) = cI (l.set i x) := by simp [cI, List.map_set]
theorem cB_set (l : List Bool) (i : Nat) (x : Bool) : (cB l).set i (.bool x) = cB (l.set i x) := by simp [cB, List.map_set]
theorem own_int {w : World} {B n c g : Nat} {l : List Int} (h : w.ownsRow B 3 1 (.slice (some ⟨g, 0, none⟩) n c) n (cI l)) {i : Nat} (hi : i < l.length) : w.cell? ⟨g, i, none⟩ = some (.int .i64 (l.getD i 0)) ∧ w.frozen? ⟨g, i, none⟩ = false := by
  have hl : l.length = n := by have := h.1; simpa [cI] using this
  obtain ⟨_, _, he, _, _, _, hc⟩ := seg_cells (own_seg h) (by omega)
  injection he with he; injection he with he1 he2
  subst he1; subst he2
  have := hc i (.int .i64 (l.getD i 0)) (by simp [cI, hi])
  rw [Nat.zero_add] at this
  exact ⟨this, own_free h i⟩
theorem own_bool {w : World} {B n c g : Nat} {l : List Bool} (h : w.ownsRow B 4 1 (.slice (some ⟨g, 0, none⟩) n c) n (cB l)) {i : Nat} (hi : i < l.length) : w.cell? ⟨g, i, none⟩ = some (.bool (l.getD i false)) ∧ w.frozen? ⟨g, i, none⟩ = false := by
  have hl : l.length = n := by have := h.1; simpa [cB] using this
  obtain ⟨_, _, he, _, _, _, hc⟩ := seg_cells (own_seg h) (by omega)
  injection he with he; injection he with he1 he2
  subst he1; subst he2
  have := hc i (.bool (l.getD i false)) (by simp [cB, hi])
  rw [Nat.zero_add] at this
  exact ⟨this, own_free h i⟩
theorem own_int_set {w : World} {B n c g : Nat} {l : List Int} (h : w.ownsRow B 3 1 (.slice (some ⟨g, 0, none⟩) n c) n (cI l)) {i : Nat} (hi : i < l.length) (x : Int) : (w.setCell ⟨g, i, none⟩ (.int .i64 x)).ownsRow B 3 1 (.slice (some ⟨g, 0, none⟩) n c) n (cI (l.set i x)) := by
  rw [← cI_set]; exact own_cell_set h (by simpa [cI] using hi) _
theorem own_bool_set {w : World} {B n c g : Nat} {l : List Bool} (h : w.ownsRow B 4 1 (.slice (some ⟨g, 0, none⟩) n c) n (cB l)) {i : Nat} (hi : i < l.length) (x : Bool) : (w.setCell ⟨g, i, none⟩ (.bool x)).ownsRow B 4 1 (.slice (some ⟨g, 0, none⟩) n c) n (cB (l.set i x)) := by
  rw [← cB_set]; exact own_cell_set h (by simpa [cB] using hi) _
theorem own_form_g {w : World} {B e sz n : Nat} {v : Value} {xs : List Value} (h : w.ownsRow B e sz v n xs) (hn : 0 < n) : ∃ g c, v = .slice (some ⟨g, 0, none⟩) n c ∧ B ≤ g ∧ g < w.heap.size := by
  rcases h.2 with ⟨_, h0⟩ | ⟨g, cap, cur, rfl, hb, hg, _⟩
  · omega
  · exact ⟨g, cap, rfl, hb, (Array.getElem?_eq_some_iff.1 hg).1⟩
end Go.Proofs.YtomgeolmfpijoaaDoor

/- Contracts and lemmas for the proofs of this seat; each theorem states its own conditions. -/
namespace Go.Proofs.YtomgeolmfpijoaaDoor
open Go.RowKit Go.Maps
/-! LockPlays: the document's table beside the lock table -/
theorem LockSt.keep {w w' : World} {B bt bk bd : Nat} {A : List Ops} {g : Nat → Bool} {F : ByteArray → Option SV} {G : Int → Option SV} (h : LockSt w B bt bk bd A g F G)
    (hm : ∀ (i : Nat) (es : Array MapEntry) (cl : Nat), w.heap[i]? = some (Obj.map es cl) → w'.heap[i]? = some (Obj.map es cl)) (hc : ∀ (i : Nat) (cs : Array Value) (e : TypeId), e = 152 ∨ e = 148 ∨ e = 9 → w.heap[i]? = some (Obj.cells cs e (0, 0)) → w'.heap[i]? = some (Obj.cells cs e (0, 0))) : LockSt w' B bt bk bd A g F G where
  hBt := h.hBt
  hBk := h.hBk
  hBd := h.hBd
  ne := h.ne
  box := hc _ _ _ (.inr (.inl rfl)) h.box
  km := by
    obtain ⟨n, D, ⟨es, clock, hb, rest⟩, q⟩ := h.km
    exact ⟨n, D, ⟨es, clock, hm _ _ _ hb, rest⟩, q⟩
  dm := by
    obtain ⟨n, D, ⟨es, clock, hb, rest⟩, q⟩ := h.dm
    exact ⟨n, D, ⟨es, clock, hm _ _ _ hb, rest⟩, q⟩
  keys := fun k => by
    obtain ⟨q0, q⟩ := h.keys k
    refine ⟨q0, ?_⟩
    rcases q with q | ⟨b, cap, cur, q1, q2, q3, q4⟩
    · exact .inl q
    · exact .inr ⟨b, cap, cur, q1, q2, hc _ _ _ (.inl rfl) q3, q4⟩
  apart := h.apart
  rows := fun n a b => by
    obtain ⟨s, e, q0, q⟩ := h.rows n a b
    refine ⟨s, e, q0, ?_⟩
    rcases q with q | ⟨b, cap, cur, q1, q2, q3, q4⟩
    · exact .inl q
    · exact .inr ⟨b, cap, cur, q1, q2, hc _ _ _ (.inr (.inr rfl)) q3, q4⟩
  nones := h.nones
  later := h.later
  few := h.few
  dok := h.dok
/-- two appends beside it -/
theorem LockSt.gf2 {w w' : World} {B bt bk bd : Nat} {A : List Ops} {g : Nat → Bool} {F : ByteArray → Option SV} {G : Int → Option SV} (h : LockSt w B bt bk bd A g F G) {r u : Value} {n m : Nat} {ns ms : List Value} (hF : GF (G2 r n ns u m ms) w w')
    {B1 B2 n1 n2 : Nat} {xs ys : List Value} (hr : w.ownsRow B1 46 1 r n1 xs) (hu : w.ownsRow B2 4 1 u n2 ys) : LockSt w' B bt bk bd A g F G := by
  have off : ∀ (i : Nat) (o : Obj), w.heap[i]? = some o → (∀ cs : Array Value, o ≠ .cells cs 46 (0, 0)) → (∀ cs : Array Value, o ≠ .cells cs 4 (0, 0)) → w'.heap[i]? = some o := fun i o ho h1 h2 => by
    refine gf_heap hF ho ?_
    unfold G2
    have q1 : r.ownBlock ≠ some i := fun e => by
      rcases hr.2 with ⟨rfl, _⟩ | ⟨b, cap, cur, rfl, _, hb, _⟩
      · simp [Value.ownBlock] at e
      · simp [Value.ownBlock] at e; subst e; rw [ho] at hb; injection hb with hb; exact h1 _ hb
    have q2 : u.ownBlock ≠ some i := fun e => by
      rcases hu.2 with ⟨rfl, _⟩ | ⟨b, cap, cur, rfl, _, hb, _⟩
      · simp [Value.ownBlock] at e
      · simp [Value.ownBlock] at e; subst e; rw [ho] at hb; injection hb with hb; exact h2 _ hb
    rw [if_neg q1, if_neg q2]
  refine h.keep (fun i es cl hi => off i _ hi (fun cs e => by cases e) (fun cs e => by cases e)) (fun i cs e he hi => off i _ hi (fun cs' q => ?_) (fun cs' q => ?_))
  · injection q with _ q _; subst q; revert he; decide
  · injection q with _ q _; subst q; revert he; decide
structure PlT (w wr : World) (mb : Nat) (A : List Ops) (g : Nat → Bool) (aD : Option Addr) (cD : Nat) (aG : Option Addr) (cG : Nat) (us : List Value) : Prop where
  box : wr.heap[mb]? = some (.cells #[.slice aD A.length cD, .slice aG A.length cG] 74 (0, 0))
  new : w.heap.size ≤ mb
  ul : us.length = A.length
  rD : wr.ownsRow w.heap.size 46 1 (.slice aD A.length cD) A.length us
  sD : ∀ (i : Nat) (u : Value) (d : Ops), us[i]? = some u → A[i]? = some d → Seg w u 4 d.length (cO d)
  rG : wr.ownsRow w.heap.size 4 1 (.slice aG A.length cG) A.length (cB (goneB g A.length))
  E : Ext w wr
theorem PlT.ext {w wr w' : World} {mb : Nat} {A : List Ops} {g : Nat → Bool} {aD aG : Option Addr} {cD cG : Nat} {us : List Value} (h : PlT w wr mb A g aD cD aG cG us) (E : Ext wr w') : PlT w w' mb A g aD cD aG cG us :=
  ⟨E.heap h.box, h.new, h.ul, own_ext h.rD E, h.sD, own_ext h.rG E, h.E.trans E⟩
theorem PlT.tab {w wr : World} {mb : Nat} {A : List Ops} {g : Nat → Bool} {aD aG : Option Addr} {cD cG : Nat} {us : List Value} (h : PlT w wr mb A g aD cD aG cG us) : RTab wr mb A g aD cD aG cG := by
  have b := blk2 h.box
  refine ⟨b.1, b.2.1, ⟨us, h.ul, by have := own_seg h.rD; rw [← h.ul] at this; rw [← h.ul]; exact this, fun i u d hu hd => (h.sD i u d hu hd).ext h.E⟩, own_seg h.rG⟩
/-- a turn of the lock table leaves it -/
theorem PlT.tfr {w wr w' : World} {mb : Nat} {A : List Ops} {g : Nat → Bool} {aD aG : Option Addr} {cD cG : Nat} {us : List Value} (h : PlT w wr mb A g aD cD aG cG us) {B bt bk bd : Nat} {A' : List Ops} {g' : Nat → Bool} {F : ByteArray → Option SV} {G : Int → Option SV}
    (hl : LockSt wr B bt bk bd A' g' F G) (T : TFr B bt bk bd wr w') (hB : w.heap.size ≤ B) : PlT w w' mb A g aD cD aG cG us :=
  ⟨T.heapG hl.g h.box (by decide) (by decide), h.new, h.ul, T.own hl h.rD (by decide) (by decide), h.sD, T.own hl h.rG (by decide) (by decide), T.low h.E hB⟩
theorem goneB_set (g : Nat → Bool) {n s : Nat} : (cB (goneB g n)).set s (.bool true) = cB (goneB (goneW g s) n) := by
  apply List.ext_getElem?
  intro i
  rw [List.getElem?_set]
  by_cases e : s = i
  · subst e
    rw [if_pos rfl]
    by_cases hi : s < n
    · simp [cB, goneB, hi, goneW]
    · simp [cB, goneB, hi]
  · rw [if_neg e]
    by_cases hi : i < n
    · simp [cB, goneB, hi, goneW, fun q => e (Eq.symm q)]
      intro q; exact absurd q.symm e
    · simp [cB, goneB, hi]
/-- one goes -/
theorem PlT.gone {w wr : World} {mb b : Nat} {A : List Ops} {g : Nat → Bool} {aD : Option Addr} {cD cG : Nat} {us : List Value} (h : PlT w wr mb A g aD cD (some ⟨b, 0, none⟩) cG us) {s : Nat} (hs : s < A.length) :
    (∃ z, wr.cell? ⟨b, s, none⟩ = some z) ∧ wr.frozen? ⟨b, s, none⟩ = false ∧ PlT w (wr.setCell ⟨b, s, none⟩ (.bool true)) mb A (goneW g s) aD cD (some ⟨b, 0, none⟩) cG us ∧ w.heap.size ≤ b := by
  have hl : (cB (goneB g A.length)).length = A.length := by simp [cB, goneB]
  have hs' : s < (cB (goneB g A.length)).length := by omega
  have ge := own_ge h.rG b rfl
  refine ⟨own_cell_at h.rG hs', own_free h.rG s, ⟨?_, h.new, h.ul, own_set_other h.rD ?_ _, h.sD, ?_, h.E.setCell ge _⟩, ge⟩
  · refine heap_set_far h.box fun e => ?_
    obtain ⟨cur, hc⟩ := own_heap h.rG
    have := h.box
    simp only at e
    rw [e, hc] at this
    injection this with this; injection this with _ this _
    revert this; decide
  · rcases own_own_ne h.rD h.rG (by decide) with e | e
    · rw [e]; simp
    · exact e
  · have := own_cell_set h.rG hs' (.bool true)
    rw [goneB_set] at this
    exact this
theorem g2_off {r u : Value} {n m k : Nat} {ns ms : List Value} (h1 : r.ownBlock ≠ some k) (h2 : u.ownBlock ≠ some k) : G2 r n ns u m ms k = none := by simp [G2, h1, h2]
theorem PlT.app {w wr w9 : World} {mb : Nat} {A : List Ops} {g : Nat → Bool} {aD aG a8 a14 : Option Addr} {cD cG c8 c14 : Nat} {us : List Value} {u : Value} {p : Ops} (h : PlT w wr mb A g aD cD aG cG us) (hg0 : g A.length = false)
    (hF : GF (G2 (.slice aD A.length cD) A.length [u] (.slice aG A.length cG) A.length [.bool false]) wr w9)
    (o8 : w9.ownsRow w.heap.size 46 1 (.slice a8 (A.length + 1) c8) (A.length + 1) (us ++ [u])) (o14 : w9.ownsRow w.heap.size 4 1 (.slice a14 (A.length + 1) c14) (A.length + 1) (cB (goneB g A.length) ++ [.bool false])) (sp : Seg w u 4 p.length (cO p)) :
    (∃ z, w9.cell? ⟨mb, 0, none⟩ = some z) ∧ w9.frozen? ⟨mb, 0, none⟩ = false ∧ (∃ z, (w9.setCell ⟨mb, 0, none⟩ (.slice a8 (A.length + 1) c8)).cell? ⟨mb, 1, none⟩ = some z) ∧ (w9.setCell ⟨mb, 0, none⟩ (.slice a8 (A.length + 1) c8)).frozen? ⟨mb, 1, none⟩ = false ∧
    PlT w ((w9.setCell ⟨mb, 0, none⟩ (.slice a8 (A.length + 1) c8)).setCell ⟨mb, 1, none⟩ (.slice a14 (A.length + 1) c14)) mb (A ++ [p]) g a8 c8 a14 c14 (us ++ [u]) := by
  have hl : (A ++ [p]).length = A.length + 1 := by simp
  have n1 := own_ne h.rD h.box (by decide)
  have n2 := own_ne h.rG h.box (by decide)
  have gx := gf_heap hF h.box (g2_off n1 n2)
  have q1 := own_ne o8 gx (by decide)
  have q2 := own_ne o14 gx (by decide)
  have b0 := blk2 gx
  have b1 := blk2 (blk2_set0 gx (.slice a8 (A.length + 1) c8))
  have EF : Ext w w9 := ext_of_gf h.E hF (g2_low (own_ge h.rD) (own_ge h.rG))
  refine ⟨⟨_, b0.1⟩, b0.2.2.1, ⟨_, b1.2.1⟩, b1.2.2.2, ⟨?_, h.new, by simp [h.ul], ?_, fun i v d hv hd => ?_, ?_, (EF.setCell h.new _).setCell h.new _⟩⟩
  · rw [hl]; exact blk2_set2 gx
  · rw [hl]; exact own_set_other (own_set_other o8 q1 _) q1 _
  · rcases Nat.lt_or_ge i us.length with hi | hi
    · rw [List.getElem?_append_left hi] at hv
      rw [List.getElem?_append_left (by have := h.ul; omega)] at hd
      exact h.sD i v d hv hd
    · rw [List.getElem?_append_right hi] at hv
      have hul := h.ul
      rw [List.getElem?_append_right (by omega)] at hd
      have : i - us.length = 0 := by have := (List.getElem?_eq_some_iff.1 hv).1; simp at this; omega
      rw [this] at hv; rw [← hul, this] at hd
      simp at hv hd; subst hv; subst hd; exact sp
  · rw [hl]
    have e : cB (goneB g (A.length + 1)) = cB (goneB g A.length) ++ [.bool false] := by
      rw [goneB, List.range_succ, List.map_append, cB, List.map_append]
      simp [goneB, cB, hg0]
    rw [e]
    exact own_set_other (own_set_other o14 q2 _) q2 _
end Go.Proofs.YtomgeolmfpijoaaDoor
