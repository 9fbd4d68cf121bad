/- Contracts and lemmas for the proof of ShardSays; each theorem states its own conditions. -/
import Derived.Test.YtghemmmkbpfdhaaDoorQShardSaysau
import Derived.Test.YtghemmmkbpfdhaaDoorQShardSaysas
import Derived.Test.YtghemmmkbpfdhaaDoorQShardSaysap
import Derived.Test.YtghemmmkbpfdhaaDoorQShardSaysad
set_option linter.unusedVariables false
set_option linter.unusedSimpArgs false
/- Contracts and lemmas for the proofs of this seat; each theorem states its own conditions. -/
namespace Go.Proofs.YtghemmmkbpfdhaaDoor
open Go.RowKit Go.Shelf
/-- strings compared -/
def cmpB (a b : ByteArray) : Int := if blt a b then -1 else if a = b then 0 else 1
theorem cmpL : ∀ x y : List UInt8, Lib.compareBytes x y = if Op.bytesLess x y then -1 else if x = y then 0 else 1
  | [], [] => rfl
  | [], _ :: _ => rfl
  | _ :: _, [] => by simp [Lib.compareBytes, Op.bytesLess]
  | a :: x, b :: y => by
    have ih := cmpL x y
    simp only [Lib.compareBytes, Op.bytesLess]
    by_cases h1 : a < b
    · simp [h1]
    · by_cases h2 : b < a
      · have hne : a ≠ b := by rintro rfl; exact h1 h2
        simp [h1, h2, hne]
      · have he : a = b := by
          rw [u8_lt] at h1 h2
          exact u8_eq.2 (by omega)
        subst he
        simp [ih, UInt8.lt_irrefl]
theorem cmp_eq (a b : ByteArray) : Lib.compareBytes a.data.toList b.data.toList = cmpB a b := by
  rw [cmpL, ← toList_data, ← toList_data]
  unfold cmpB blt
  have : (a.toList = b.toList) = (a = b) := propext ⟨toList_inj, fun h => by rw [h]⟩
  simp only [this]
theorem cmpB_lt {a b : ByteArray} (h : blt a b = true) : cmpB a b = -1 := by simp [cmpB, h]
theorem cmpB_ge {a b : ByteArray} (h : blt a b = false) : 0 ≤ cmpB a b := by
  unfold cmpB; rw [if_neg (by simp [h])]; split <;> decide
theorem cmpB_zero {a b : ByteArray} (h : blt a b = false) : (cmpB a b == 0) = (a.toList == b.toList) := by
  by_cases e : a = b
  · subst e; simp [cmpB, h]
  · have : (a.toList == b.toList) = false := by
      simp; exact fun h => e (toList_inj h)
    rw [this]; simp [cmpB, h, e]
theorem hit_lt {ks : List ByteArray} {t : ByteArray} {i : Nat} (h : hitS ks t i = true) : i < ks.length := by
  simp only [hitS, Bool.and_eq_true, decide_eq_true_eq] at h; exact h.1
end Go.Proofs.YtghemmmkbpfdhaaDoor

/- Contracts and lemmas for the proofs of this seat; each theorem states its own conditions. -/
namespace Go.Proofs.YtghemmmkbpfdhaaDoor
open Go.RowKit
theorem cP_take (l : Prs) (n : Nat) : (cP l).take (n * 2) = cP (l.take n) := by
  induction l generalizing n with
  | nil => simp [cP]
  | cons p l ih =>
    cases n with
    | zero => simp [cP]
    | succ n =>
      have := ih n
      rw [show (n + 1) * 2 = n * 2 + 1 + 1 from by omega]
      simpa [cP] using this
theorem cP_drop (l : Prs) (n : Nat) : (cP l).drop (n * 2) = cP (l.drop n) := by
  induction l generalizing n with
  | nil => simp [cP]
  | cons p l ih =>
    cases n with
    | zero => simp [cP]
    | succ n =>
      have := ih n
      rw [show (n + 1) * 2 = n * 2 + 1 + 1 from by omega]
      simpa [cP] using this
theorem cP_app (l m : Prs) : cP (l ++ m) = cP l ++ cP m := by simp [cP]
theorem infoP : (Tryd.prog.info? 77).map (fun i => (i.zero, i.size, i.bytes)) = some (some (.agg #[.string ⟨#[]⟩, .int .i64 0]), 2, 24) := by kernel_rfl
theorem zeroP (w : World) : (zeroValue 77).run Tryd.prog w = .ok (.agg #[.string ⟨#[]⟩, .int .i64 0]) w := by kernel_rfl
theorem zeroPc (n : Nat) : ∀ v ∈ (Builtin.zeroCells (Value.agg #[.string ⟨#[]⟩, .int .i64 0]).cells n).toList, v.oneCell' = true := by
  intro v hv
  have hc : (Value.agg #[.string ⟨#[]⟩, .int .i64 0]).cells = #[.string ⟨#[]⟩, .int .i64 0] := by kernel_rfl
  rw [hc] at hv
  simp only [Builtin.zeroCells, Array.toList_map, List.mem_map] at hv
  obtain ⟨i, _, rfl⟩ := hv
  have h2 : i % 2 = 0 ∨ i % 2 = 1 := by omega
  rcases h2 with h2 | h2 <;> simp [h2, Value.oneCell']
end Go.Proofs.YtghemmmkbpfdhaaDoor

/- Contracts and lemmas for the proofs of this seat; each theorem states its own conditions. -/
namespace Go.Proofs.YtghemmmkbpfdhaaDoor
open Go.RowKit
theorem ins_rowB {cur P X D : List Value} {i n : Nat} (hP : cur.take (i * 2) = P) (hi : i ≤ n) (hX : X.length = 2) (hD : D.length = (n - i) * 2) (hc : (n + 1) * 2 ≤ cur.length) :
    (spl (spl cur (i * 2) X) ((i + 1) * 2) D).take ((n + 1) * 2) = P ++ X ++ D := by
  have h1 := spl_take (cur := cur) (vs := X) (o := i * 2) (by omega)
  have hl := spl_len (cur := cur) (vs := X) (o := i * 2) (by omega)
  have h2 := spl_take (cur := spl cur (i * 2) X) (vs := D) (o := (i + 1) * 2) (by omega)
  rw [show (i + 1) * 2 + D.length = (n + 1) * 2 from by omega] at h2
  rw [show i * 2 + X.length = (i + 1) * 2 from by omega] at h1
  rw [h2, h1, hP]
theorem ins_rowC {cur P X D : List Value} {i n : Nat} (hP : cur.take (i * 2) = P) (hi : i ≤ n) (hX : X.length = 2) (hD : D.length = (n - i) * 2) (hc : (n + 1) * 2 ≤ cur.length) :
    (spl (spl cur ((i + 1) * 2) D) (i * 2) X).take ((n + 1) * 2) = P ++ X ++ D := by
  have hlo := spl_take_lo (cur := cur) (vs := D) (o := (i + 1) * 2) (m := i * 2) (by omega) (by omega)
  have hdr : (spl cur ((i + 1) * 2) D).drop (i * 2 + X.length) = D ++ cur.drop ((i + 1) * 2 + D.length) := by
    have hl : (cur.take ((i + 1) * 2)).length = i * 2 + X.length := by rw [List.length_take]; omega
    unfold spl
    rw [← hl, List.append_assoc, List.drop_left]
  have hPl : P.length = i * 2 := by rw [← hP, List.length_take]; omega
  rw [show spl (spl cur ((i + 1) * 2) D) (i * 2) X = (spl cur ((i + 1) * 2) D).take (i * 2) ++ X ++ (spl cur ((i + 1) * 2) D).drop (i * 2 + X.length) from rfl, hdr, hlo, hP, ← List.append_assoc]
  have : (P ++ X ++ D).length = (n + 1) * 2 := by simp only [List.length_append]; omega
  rw [← this, List.take_left]
theorem seg_vb {w : World} {vb : Nat} {k : ByteArray} {n : Int} (h : w.heap[vb]? = some (.cells #[.string k, .int .i64 n] 77 (0, 0))) : ∀ j u, ([Value.string k, .int .i64 n])[j]? = some u → w.cell? ((⟨vb, 0, none⟩ : Addr).add j) = some u := by
  intro j u hu
  rw [addr_add, Nat.zero_add]
  match j, hu with
  | 0, hu => simp at hu; subst hu; simp [World.cell?, h]
  | 1, hu => simp at hu; subst hu; simp [World.cell?, h]
theorem kv_one (k : ByteArray) (n : Int) : ∀ v ∈ [Value.string k, .int .i64 n], v.oneCell' = true := by
  intro v hv; simp at hv; rcases hv with rfl | rfl <;> rfl
end Go.Proofs.YtghemmmkbpfdhaaDoor

/- Contracts and lemmas for the proofs of this seat; each theorem states its own conditions. -/
namespace Go.Proofs.YtghemmmkbpfdhaaDoor
open Go.RowKit
theorem cP_set (l : Prs) (i : Nat) (hi : i < l.length) (n : Int) : (cP l).set (i * 2 + 1) (.int .i64 n) = cP (l.take i ++ [(l[i].1, n)] ++ l.drop (i + 1)) := by
  induction l generalizing i with
  | nil => simp at hi
  | cons p l ih =>
    cases i with
    | zero => simp [cP]
    | succ i =>
      have := ih i (by simpa using hi)
      rw [show (i + 1) * 2 + 1 = i * 2 + 1 + 1 + 1 from by omega]
      simp only [cP, List.flatMap_cons, List.cons_append, List.nil_append, List.set_cons_succ, List.take_succ_cons, List.getElem_cons_succ, List.drop_succ_cons] at this ⊢
      rw [this]
theorem own_store {w : World} {B c : Nat} {a : Option Addr} {l : Prs} (h : w.ownsRow B 77 2 (.slice a l.length c) l.length (cP l)) (i : Nat) (hi : i < l.length) (n : Int) :
    ∃ g, a = some ⟨g, 0, none⟩ ∧ B ≤ g ∧ g < w.heap.size ∧ l.length ≤ c ∧ c ≤ maxLen ∧ (∃ u, w.cell? ⟨g, i * 2 + 1, none⟩ = some u) ∧ w.frozen? ⟨g, i * 2 + 1, none⟩ = false ∧
      (w.setCell ⟨g, i * 2 + 1, none⟩ (.int .i64 n)).ownsRow B 77 2 (.slice (some ⟨g, 0, none⟩) l.length c) l.length (cP (l.take i ++ [(l[i].1, n)] ++ l.drop (i + 1))) := by
  obtain ⟨g, cur, rfl, h1, h2, h3, h4, h5, h6, h7⟩ := own_row h (by omega)
  have hlt : i * 2 + 1 < cur.length := by omega
  have hset : w.setCell ⟨g, i * 2 + 1, none⟩ (.int .i64 n) = w.setRow g (cur.set (i * 2 + 1) (.int .i64 n)).toArray := by
    rw [setCell_eq_setRow w g (i * 2 + 1) cur.toArray 77 (0, 0) _ h3]; simp
  refine ⟨g, rfl, h1, h2, h4, h5, ⟨cur[i * 2 + 1], h3.cell (by simp [hlt])⟩, by unfold RowB at h3; simp [World.frozen?, h3], ?_⟩
  rw [hset]
  refine own_of_row (h3.set _) h1 h4 h5 (by simpa using h6) ?_ ?_
  · rw [cP_len, List.length_append, List.length_append, List.length_take, List.length_drop]; simp; omega
  · rw [← cP_set l i hi, List.take_set, h7]
end Go.Proofs.YtghemmmkbpfdhaaDoor

/- Contracts and lemmas for the proofs of this seat; each theorem states its own conditions. -/
namespace Go.Proofs.YtghemmmkbpfdhaaDoor
open Go.RowKit
def getE (l : Prs) (key : ByteArray) : Int := if storeErr l ≠ 0 then storeErr l else if keyB key then 0 else 3
def getV (l : Prs) (key : ByteArray) : Int := if storeErr l = 0 ∧ keyB key = true then valP l key else 0
def putE (l : Prs) (key : ByteArray) (n : Int) : Int := if storeErr l ≠ 0 then storeErr l else if keyB key = false then 3 else if valB n then 0 else 1
end Go.Proofs.YtghemmmkbpfdhaaDoor

/- Contracts and lemmas for the proofs of this seat; each theorem states its own conditions. -/
namespace Go.Proofs.YtghemmmkbpfdhaaDoor
open Go.RowKit
/-! Scan, Total -/
def inB (f t : ByteArray) (p : ByteArray × Int) : Bool := !(blt p.1 f) && (t.toList.isEmpty || blt p.1 t)
def scanP (l : Prs) (f t : ByteArray) : Prs := l.filter (inB f t)
theorem scan_step {l : Prs} {f t : ByteArray} {k : Nat} (hk : k < l.length) : scanP (l.take (k + 1)) f t = scanP (l.take k) f t ++ (if inB f t l[k] then [l[k]] else []) := by
  unfold scanP
  rw [List.take_succ_eq_append_getElem hk, List.filter_append]
  congr 1
  rw [List.filter_cons]; rfl
theorem scan_len (l : Prs) (f t : ByteArray) (k : Nat) : (scanP (l.take k) f t).length ≤ k := by
  have := List.length_filter_le (inB f t) (l.take k)
  rw [List.length_take] at this
  unfold scanP; omega
theorem cP_one1 (p : ByteArray × Int) : cP [p] = [.string p.1, .int .i64 p.2] := by simp [cP]
/-- the total, as Go adds it -/
def totTo : Prs → Int
  | [] => 0
  | p :: l => p.2 + totTo l
theorem tot_app (l m : Prs) : totTo (l ++ m) = totTo l + totTo m := by
  induction l with
  | nil => simp [totTo]
  | cons p l ih => simp only [List.cons_append, totTo, ih]; omega
theorem tot_step {l : Prs} {k : Nat} (hk : k < l.length) : totTo (l.take (k + 1)) = totTo (l.take k) + l[k].2 := by
  rw [List.take_succ_eq_append_getElem hk, tot_app]; simp [totTo]
theorem tot_bd {l : Prs} (h : ∀ p ∈ l, -1000000000 ≤ p.2 ∧ p.2 ≤ 1000000000) : ∀ k, k ≤ l.length → -1000000000 * (k : Int) ≤ totTo (l.take k) ∧ totTo (l.take k) ≤ 1000000000 * (k : Int)
  | 0, _ => by simp [totTo]
  | k + 1, hk => by
    have ih := tot_bd h k (by omega)
    have := h l[k] (List.getElem_mem (by omega))
    rw [tot_step (by omega)]
    omega
def totE (l : Prs) : Int := storeErr l
end Go.Proofs.YtghemmmkbpfdhaaDoor
