/- Contracts and lemmas for the proof of PartsWho; each theorem states its own conditions. -/
import Derived.Test.YtijcckhkofkenaaGreatQPartsWhoam
set_option linter.unusedVariables false
set_option linter.unusedSimpArgs false
/- Contracts and lemmas for the proofs of this seat; each theorem states its own conditions. -/
namespace Go.Proofs.YtijcckhkofkenaaGreat
open Go.RowKit
theorem insP_any (B c : Nat) (a : Option Addr) (l : Prs) (i : Nat) (k : ByteArray) (n : Int) (vb : Nat) (w : World) (h : w.ownsRow B 33 2 (.slice a l.length c) l.length (cP l)) (hB : B ≤ w.heap.size) (hi : i ≤ l.length)
    (hv : w.heap[vb]? = some (.cells #[.string k, .int .i64 n] 33 (0, 0))) (hne : (Value.slice a l.length c).ownBlock ≠ some vb) (hlen : l.length ≤ 1000000) :
    Calls Tryz.prog 89 #[.slice a l.length c, .int .i64 i, .slice (some ⟨vb, 0, none⟩) 1 1] w fun e w' =>
      ∃ v', e = .returned v' ∧ Seg w' v' 2 (l.length + 1) (cP (l.take i ++ [(k, n)] ++ l.drop i)) ∧ Below B w w' := by
  by_cases hil : i < l.length
  · obtain ⟨g, cur, rfl, h1, h2, h3, h4, h5, h6, h7⟩ := own_row h (by omega)
    have hg : vb ≠ g := fun e => hne (by simp [Value.ownBlock, e])
    by_cases hr : l.length + 1 ≤ c
    · exact insP_room B c g l i k n vb w cur h3 h1 hr h5 h6 h7 hil hv hg hB hlen
    · exact insP_grow B c g l i k n vb w cur h3 h4 (by omega) h5 h6 h7 hil hv hB hlen
  · obtain rfl : i = l.length := by omega
    have := insP_end B c a l k n vb w h hB hv hlen
    rw [List.take_of_length_le (Nat.le_refl _), List.drop_of_length_le (Nat.le_refl _), List.append_nil]
    exact this
theorem cP_set (l : Prs) (i : Nat) (hi : i < l.length) (n : Int) : (cP l).set (i * 2 + 1) (.int .i64 n) = cP (l.take i ++ [(l[i].1, n)] ++ l.drop (i + 1)) := by
  induction l generalizing i with
  | nil => simp at hi
  | cons p l ih =>
    cases i with
    | zero => simp [cP]
    | succ i =>
      have := ih i (by simpa using hi)
      rw [show (i + 1) * 2 + 1 = i * 2 + 1 + 1 + 1 from by omega]
      simp only [cP, List.flatMap_cons, List.cons_append, List.nil_append, List.set_cons_succ, List.take_succ_cons, List.getElem_cons_succ, List.drop_succ_cons] at this ⊢
      rw [this]
theorem own_store {w : World} {B c : Nat} {a : Option Addr} {l : Prs} (h : w.ownsRow B 33 2 (.slice a l.length c) l.length (cP l)) (i : Nat) (hi : i < l.length) (n : Int) :
    ∃ g, a = some ⟨g, 0, none⟩ ∧ B ≤ g ∧ g < w.heap.size ∧ l.length ≤ c ∧ c ≤ maxLen ∧ (∃ u, w.cell? ⟨g, i * 2 + 1, none⟩ = some u) ∧ w.frozen? ⟨g, i * 2 + 1, none⟩ = false ∧
      (w.setCell ⟨g, i * 2 + 1, none⟩ (.int .i64 n)).ownsRow B 33 2 (.slice (some ⟨g, 0, none⟩) l.length c) l.length (cP (l.take i ++ [(l[i].1, n)] ++ l.drop (i + 1))) := by
  obtain ⟨g, cur, rfl, h1, h2, h3, h4, h5, h6, h7⟩ := own_row h (by omega)
  have hlt : i * 2 + 1 < cur.length := by omega
  have hset : w.setCell ⟨g, i * 2 + 1, none⟩ (.int .i64 n) = w.setRow g (cur.set (i * 2 + 1) (.int .i64 n)).toArray := by
    rw [setCell_eq_setRow w g (i * 2 + 1) cur.toArray 33 (0, 0) _ h3]; simp
  refine ⟨g, rfl, h1, h2, h4, h5, ⟨cur[i * 2 + 1], h3.cell (by simp [hlt])⟩, by unfold RowB at h3; simp [World.frozen?, h3], ?_⟩
  rw [hset]
  refine own_of_row (h3.set _) h1 h4 h5 (by simpa using h6) ?_ ?_
  · rw [cP_len, List.length_append, List.length_append, List.length_take, List.length_drop]; simp; omega
  · rw [← cP_set l i hi, List.take_set, h7]
set_option maxRecDepth 100000 in
set_option maxHeartbeats 1000000 in
theorem with_any (v : Value) (l : Prs) (key : ByteArray) (n : Int) (w : World) (hv : Seg w v 2 l.length (cP l)) (hs : srtP l) (hlen : l.length ≤ 1000000) :
    Calls Tryz.prog 63 #[v, .string key, .int .i64 n] w fun e w' => ∃ v', e = .returned v' ∧ w'.ownsRow w.heap.size 33 2 v' (withP l key n).length (cP (withP l key n)) ∧ Ext w w' := by
  go_enter Tryz.func63, Tryz.ntmps63
  go_wp2_with fail
  refine (sfind_any _ l key _ hv hs (by omega)).mono ?_
  rintro e w1 ⟨i, hc, rfl, E1⟩
  have hw := with_cut (n := n) hs hc
  have hi := hc.1
  have HC := hid hc
  clear hc
  go_wp2_with fail
  refine (clone_Pair _ _ _ _ (hv.ext E1) (cP_one _) (by omega)).mono ?_
  rintro e w2 ⟨a, c, rfl, ho, E2⟩
  cases hh : hitS (keysP l) key i with
  | true =>
    have hil := hit_lt hh
    rw [keysP_len] at hil
    have hk : l[i].1 = key := by
      rw [hitS_eq (by rw [keysP_len]; exact hil), keysP_get] at hh
      exact toList_inj (by simpa using hh)
    have HW := hid (hw.1 hh)
    have HK := hid hk
    clear hw hk
    by_cases hn : n = 0
    · have hn' : (n == 0) = true := by simp [hn]
      have HN := hid hn
      clear hn
      obtain ⟨g, cur, rfl, h1, h2, h3, h4, h5, h6, h7⟩ := own_row ho (by omega)
      go_wp2_with fail
      refine (delP_any w1.heap.size c g l i _ cur h3 h1 h4 h5 h6 h7 hil hlen).mono ?_
      rintro e w3 ⟨v3, rfl, hsg, hB3⟩
      go_wp2_with fail
      refine (clone_Pair _ _ _ _ hsg (cP_one _) (by omega)).mono ?_
      rintro e w4 ⟨a4, c4, rfl, ho4, E4⟩
      go_wp2
      go_ret
      have hE : withP l key n = l.take i ++ l.drop (i + 1) := by rw [HW.out, if_pos HN.out, List.append_nil]
      have hL : (withP l key n).length = l.length - 1 := by rw [hE, List.length_append, List.length_take, List.length_drop]; omega
      have hE3 : Ext w1 w3 := Below.trans E2 hB3
      refine ⟨_, rfl, ?_, E1.trans (hE3.trans E4)⟩
      rw [hL, hE]
      exact own_base ho4 (by have := E1.size'; have := hE3.size'; omega)
    · have hn' : (n == 0) = false := by simp [hn]
      have HN := hid hn
      clear hn
      obtain ⟨g, rfl, h1, h2, h3, h4, ⟨u, h5⟩, h6, h7⟩ := own_store ho i hil n
      unfold maxLen at h4
      have q1 : (0 : Int) ≤ (i : Int) := by omega
      have q2 : (i : Int) < (l.length : Int) := by omega
      have hE3 := E2.setCell (p := ⟨g, i * 2 + 1, none⟩) h1 (.int .i64 n)
      go_wp2
      go_ret
      have hE : withP l key n = l.take i ++ [(l[i].1, n)] ++ l.drop (i + 1) := by rw [HW.out, if_neg HN.out, HK.out]
      have hL : (withP l key n).length = l.length := by rw [hE]; simp; omega
      refine ⟨_, rfl, ?_, E1.trans hE3⟩
      rw [hL, hE]
      exact own_base h7 (by have := E1.size'; omega)
  | false =>
    have HW := hid (hw.2 hh)
    clear hw
    by_cases hn : n = 0
    · have hn' : (n == 0) = true := by simp [hn]
      have HN := hid hn
      clear hn
      go_wp2
      go_ret
      have hE : withP l key n = l := by rw [HW.out, if_pos HN.out, List.append_nil, List.take_append_drop]
      refine ⟨_, rfl, ?_, E1.trans E2⟩
      rw [hE]
      exact own_base ho (by have := E1.size'; omega)
    · have hn' : (n == 0) = false := by simp [hn]
      have HN := hid hn
      clear hn
      have hvb := heap_alloc_new w2 (.cells #[.string key, .int .i64 n] 33)
      have hlt := ho.lt
      go_wp2_with fail
      refine (insP_any w1.heap.size c a l i key n w2.heap.size _ (ho.alloc _) (by have := E2.size'; simp; omega) hi hvb (fun e => by have := (hlt _ e).2; omega) hlen).mono ?_
      rintro e w3 ⟨v3, rfl, hsg, hB3⟩
      go_wp2_with fail
      refine (clone_Pair _ _ _ _ hsg (cP_one _) (by omega)).mono ?_
      rintro e w4 ⟨a4, c4, rfl, ho4, E4⟩
      go_wp2
      go_ret
      have hE : withP l key n = l.take i ++ [(key, n)] ++ l.drop i := by rw [HW.out, if_neg HN.out]
      have hL : (withP l key n).length = l.length + 1 := by rw [hE]; simp; omega
      have hE3 : Ext w1 w3 := Below.trans (E2.alloc _) hB3
      refine ⟨_, rfl, ?_, E1.trans (hE3.trans E4)⟩
      rw [hL, hE]
      exact own_base ho4 (by have := E1.size'; have := hE3.size'; omega)
end Go.Proofs.YtijcckhkofkenaaGreat

/- Contracts and lemmas for the proofs of this seat; each theorem states its own conditions. -/
namespace Go.Proofs.YtijcckhkofkenaaGreat
open Go.RowKit
def getE (l : Prs) (key : ByteArray) : Int := if storeErr l ≠ 0 then storeErr l else if keyB key then 0 else 3
def getV (l : Prs) (key : ByteArray) : Int := if storeErr l = 0 ∧ keyB key = true then valP l key else 0
def putE (l : Prs) (key : ByteArray) (n : Int) : Int := if storeErr l ≠ 0 then storeErr l else if keyB key = false then 3 else if valB n then 0 else 1
set_option maxRecDepth 10000 in
theorem put_bad (v : Value) (l : Prs) (key : ByteArray) (n : Int) (w : World) (hv : Seg w v 2 l.length (cP l)) (hk : ∀ p ∈ l, p.1.size ≤ 9223372036854775807) (hks : key.size ≤ 9223372036854775807) (hp : putE l key n ≠ 0) :
    Calls Tryz.prog 15 #[v, .string key, .int .i64 n] w fun e w' => e = .returned (.tuple #[.slice none 0 0, .int .i64 (putE l key n)]) ∧ Ext w w' := by
  by_cases he : storeErr l = 0
  · have q : (storeErr l != 0) = false := by simp [he]
    have HE := hid he
    clear he
    cases hkb : keyB key with
    | true =>
      have hvb : valB n = false := by
        cases h : valB n with
        | false => rfl
        | true => simp [putE, HE.out, hkb, h] at hp
      have HG := hid (show putE l key n = 1 by simp [putE, HE.out, hkb, hvb])
      clear hp
      go_enter Tryz.func15, Tryz.ntmps15
      go_wp2_with fail
      refine (scheck_any _ l _ hv hk).mono ?_
      rintro e w1 ⟨rfl, E1⟩
      go_wp2_with fail
      refine (key_any _ _ hks).mono ?_
      rintro e w' ⟨rfl, rfl⟩
      go_wp2_with fail
      refine (value_any _ _).mono ?_
      rintro e w' ⟨rfl, rfl⟩
      go_wp2
      go_ret2
      exact ⟨rT2 rfl (vI HG.out.symm), E1⟩
    | false =>
      have HG := hid (show putE l key n = 3 by simp [putE, HE.out, hkb])
      clear hp
      go_enter Tryz.func15, Tryz.ntmps15
      go_wp2_with fail
      refine (scheck_any _ l _ hv hk).mono ?_
      rintro e w1 ⟨rfl, E1⟩
      go_wp2_with fail
      refine (key_any _ _ hks).mono ?_
      rintro e w' ⟨rfl, rfl⟩
      go_wp2
      go_ret2
      exact ⟨rT2 rfl (vI HG.out.symm), E1⟩
  · have q : (storeErr l != 0) = true := by simp [he]
    have HG := hid (show putE l key n = storeErr l by simp [putE, he])
    clear he hp
    go_enter Tryz.func15, Tryz.ntmps15
    go_wp2_with fail
    refine (scheck_any _ l _ hv hk).mono ?_
    rintro e w1 ⟨rfl, E1⟩
    go_wp2
    go_ret2
    exact ⟨rT2 rfl (vI HG.out.symm), E1⟩
set_option maxRecDepth 10000 in
theorem put_ok (v : Value) (l : Prs) (key : ByteArray) (n : Int) (w : World) (hv : Seg w v 2 l.length (cP l)) (hk : ∀ p ∈ l, p.1.size ≤ 9223372036854775807) (hks : key.size ≤ 9223372036854775807) (hlen : l.length ≤ 1000000)
    (ok : StoreOk l) (hkb : keyB key = true) (hvb : valB n = true) :
    Calls Tryz.prog 15 #[v, .string key, .int .i64 n] w fun e w' => ∃ v', e = .returned (.tuple #[v', .int .i64 0]) ∧ w'.ownsRow w.heap.size 33 2 v' (withP l key n).length (cP (withP l key n)) ∧ Ext w w' := by
  have hs := ok.srt
  have q : (storeErr l != 0) = false := by simp [storeErr_ok ok]
  go_enter Tryz.func15, Tryz.ntmps15
  go_wp2_with fail
  refine (scheck_any _ l _ hv hk).mono ?_
  rintro e w1 ⟨rfl, E1⟩
  go_wp2_with fail
  refine (key_any _ _ hks).mono ?_
  rintro e w' ⟨rfl, rfl⟩
  go_wp2_with fail
  refine (value_any _ _).mono ?_
  rintro e w' ⟨rfl, rfl⟩
  go_wp2_with fail
  refine (with_any _ l key n _ (hv.ext E1) hs hlen).mono ?_
  rintro e w2 ⟨v', rfl, ho, E2⟩
  go_wp2
  go_ret2
  exact ⟨_, rfl, own_base ho E1.size', E1.trans E2⟩
end Go.Proofs.YtijcckhkofkenaaGreat

/- Contracts and lemmas for the proofs of this seat; each theorem states its own conditions. -/
namespace Go.Proofs.YtijcckhkofkenaaGreat
open Go.RowKit
/-! Scan, Total -/
def inB (f t : ByteArray) (p : ByteArray × Int) : Bool := !(blt p.1 f) && (t.toList.isEmpty || blt p.1 t)
def scanP (l : Prs) (f t : ByteArray) : Prs := l.filter (inB f t)
theorem scan_step {l : Prs} {f t : ByteArray} {k : Nat} (hk : k < l.length) : scanP (l.take (k + 1)) f t = scanP (l.take k) f t ++ (if inB f t l[k] then [l[k]] else []) := by
  unfold scanP
  rw [List.take_succ_eq_append_getElem hk, List.filter_append]
  congr 1
  rw [List.filter_cons]; rfl
theorem scan_len (l : Prs) (f t : ByteArray) (k : Nat) : (scanP (l.take k) f t).length ≤ k := by
  have := List.length_filter_le (inB f t) (l.take k)
  rw [List.length_take] at this
  unfold scanP; omega
theorem cP_one1 (p : ByteArray × Int) : cP [p] = [.string p.1, .int .i64 p.2] := by simp [cP]
set_option maxRecDepth 10000 in
set_option maxHeartbeats 1000000 in
theorem scan_ok (v : Value) (l : Prs) (f t : ByteArray) (w : World) (hv : Seg w v 2 l.length (cP l)) (hk : ∀ p ∈ l, p.1.size ≤ 9223372036854775807) (hlen : l.length ≤ 1000000000) (he : storeErr l = 0) :
    Calls Tryz.prog 18 #[v, .string f, .string t] w fun e w' => ∃ v', e = .returned (.tuple #[v', .int .i64 0]) ∧ w'.ownsRow w.heap.size 33 2 v' (scanP l f t).length (cP (scanP l f t)) ∧ Ext w w' := by
  obtain ⟨h0, a, cap, rfl, h1, h2, h3⟩ := hv
  have hv : Seg w (.slice a l.length cap) 2 l.length (cP l) := ⟨h0, a, cap, rfl, h1, h2, h3⟩
  unfold maxLen at h2
  have q : (storeErr l != 0) = false := by simp [he]
  have HE := hid he
  clear he
  go_enter Tryz.func18, Tryz.ntmps18
  go_wp2_with fail
  refine (scheck_any _ l _ hv hk).mono ?_
  rintro e w1 ⟨rfl, E1⟩
  have hz := E1.size'
  go_wp2_with fail
  go_loopw [9, 11, 19] (fun o _ i wr => ∃ k : Nat, k ≤ l.length ∧ i = .int .i64 k ∧ wr.ownsRow w1.heap.size 33 2 o (scanP (l.take k) f t).length (cP (scanP (l.take k) f t)) ∧ Ext w1 wr) (fun _ _ i _ => l.length - (intOf i).toNat)
  case atStart => exact ⟨0, Nat.zero_le _, rfl, World.ownsRow_nil _ _ _ _, Ext.refl _⟩
  case round =>
    obtain ⟨k, hkl, rfl, ho, E⟩ := hrel
    by_cases hlt : k < l.length
    · obtain ⟨b, off, rfl, hc⟩ := h3 (by omega)
      have c := seg_pair hc hlt
      have c0 := E.cell (E1.cell c.1)
      have c1 := E.cell (E1.cell c.2)
      have hst := scan_step (f := f) (t := t) hlt
      have hsl := scan_len l f t k
      have hsz := E.size'
      clear hc h3 c
      have hin : inB f t l[k] = true ∨ inB f t l[k] = false := by cases inB f t l[k] <;> simp
      have hE2 := ((Ext.refl wr).alloc (.cells #[.string l[k].1, .int .i64 l[k].2] 33)).alloc (.cells #[.string l[k].1, .int .i64 l[k].2] 33)
      have hb2 := heap_2 wr (.cells #[.string l[k].1, .int .i64 l[k].2] 33) (.cells #[.string l[k].1, .int .i64 l[k].2] 33)
      have hsv : Seg ((wr.alloc (.cells #[.string l[k].1, .int .i64 l[k].2] 33)).alloc (.cells #[.string l[k].1, .int .i64 l[k].2] 33)) (.slice (some ⟨wr.heap.size + 1, 0, none⟩) 1 1) 2 1 [.string l[k].1, .int .i64 l[k].2] :=
        ⟨rfl, _, _, rfl, Nat.le_refl _, by simp [maxLen], fun _ => ⟨wr.heap.size + 1, 0, rfl, fun j u hu => by have := seg_vb hb2 j u hu; rwa [addr_add] at this⟩⟩
      have hge := own_ge ho
      have hB : w1.heap.size ≤ ((wr.alloc (.cells #[.string l[k].1, .int .i64 l[k].2] 33)).alloc (.cells #[.string l[k].1, .int .i64 l[k].2] 33)).heap.size := by simp; omega
      obtain ⟨ao, co, rfl⟩ := own_form ho
      have HST := hid hst
      clear hst
      rcases hin with hin | hin
      · have HIN := hid hin
        have hin' := hin
        simp only [inB, Bool.and_eq_true, Bool.or_eq_true, Bool.not_eq_true'] at hin'
        clear hin
        obtain ⟨g1, g2⟩ := hin'
        have g1' : Op.bytesLess l[k].1.toList f.toList = false := g1
        by_cases hte : t.toList = []
        · have hte' : (t.toList.isEmpty) = true := by simp [hte]
          go_wp2_with (first | (at_builtin; refine (wpList_app rfl _ _ 22 rfl w1.heap.size 33 (.agg #[.string ⟨#[]⟩, .int .i64 0]) 2 24 Tryz.underlying22 infoP rfl (by decide) _ (scanP (l.take k) f t).length (cP (scanP (l.take k) f t)) rfl ((ho.alloc _).alloc _) (.slice (some ⟨wr.heap.size + 1, 0, none⟩) 1 1) 1 [.string l[k].1, .int .i64 l[k].2] rfl hsv (kv_one _ _) (by omega) (by unfold maxLen; omega) hB ?_); intro v' w4 ho' hg))
          go_roundw
          case rel => exact ⟨k + 1, by omega, by go_num, by rw [HST.out, if_pos HIN.out, cP_app, cP_one1, List.length_append]; exact ho', (E.trans hE2).grown hg (fun j e => hge j e)⟩
          case measure => simp [intOf]; omega
        · have hte' : (t.toList.isEmpty) = false := by simp [hte]
          have g2' : Op.bytesLess l[k].1.toList t.toList = true := by rcases g2 with g2 | g2; (rw [hte'] at g2; cases g2); exact g2
          go_wp2_with (first | (at_builtin; refine (wpList_app rfl _ _ 22 rfl w1.heap.size 33 (.agg #[.string ⟨#[]⟩, .int .i64 0]) 2 24 Tryz.underlying22 infoP rfl (by decide) _ (scanP (l.take k) f t).length (cP (scanP (l.take k) f t)) rfl ((ho.alloc _).alloc _) (.slice (some ⟨wr.heap.size + 1, 0, none⟩) 1 1) 1 [.string l[k].1, .int .i64 l[k].2] rfl hsv (kv_one _ _) (by omega) (by unfold maxLen; omega) hB ?_); intro v' w4 ho' hg))
          go_roundw
          case rel => exact ⟨k + 1, by omega, by go_num, by rw [HST.out, if_pos HIN.out, cP_app, cP_one1, List.length_append]; exact ho', (E.trans hE2).grown hg (fun j e => hge j e)⟩
          case measure => simp [intOf]; omega
      · have HIN := hid hin
        have hin' := hin
        clear hin
        cases g1 : blt l[k].1 f with
        | true =>
          have g1' : Op.bytesLess l[k].1.toList f.toList = true := g1
          clear hin'
          go_wp2
          go_roundw
          case rel => exact ⟨k + 1, by omega, by go_num, by rw [HST.out, if_neg (by rw [HIN.out]; simp), List.append_nil]; exact ho.alloc _, E.alloc _⟩
          case measure => simp [intOf]; omega
        | false =>
          have g1' : Op.bytesLess l[k].1.toList f.toList = false := g1
          have g2 : t.toList.isEmpty = false ∧ blt l[k].1 t = false := by simpa [inB, g1] using hin'
          have hte' := g2.1
          have hte : ¬ t.toList = [] := by simpa using g2.1
          have g2' : Op.bytesLess l[k].1.toList t.toList = false := g2.2
          clear hin' g2
          go_wp2
          go_roundw
          case rel => exact ⟨k + 1, by omega, by go_num, by rw [HST.out, if_neg (by rw [HIN.out]; simp), List.append_nil]; exact ho.alloc _, E.alloc _⟩
          case measure => simp [intOf]; omega
    · obtain rfl : k = l.length := by omega
      go_wp2
      go_ret2
      refine ⟨_, rfl, ?_, E1.trans E⟩
      rw [List.take_of_length_le (Nat.le_refl _)] at ho
      exact own_base ho hz
set_option maxRecDepth 10000 in
theorem scan_bad (v : Value) (l : Prs) (f t : ByteArray) (w : World) (hv : Seg w v 2 l.length (cP l)) (hk : ∀ p ∈ l, p.1.size ≤ 9223372036854775807) (he : storeErr l ≠ 0) :
    Calls Tryz.prog 18 #[v, .string f, .string t] w fun e w' => e = .returned (.tuple #[.slice none 0 0, .int .i64 (storeErr l)]) ∧ Ext w w' := by
  have q : (storeErr l != 0) = true := by simp [he]
  clear he
  go_enter Tryz.func18, Tryz.ntmps18
  go_wp2_with fail
  refine (scheck_any _ l _ hv hk).mono ?_
  rintro e w1 ⟨rfl, E1⟩
  go_wp2
  go_ret2
  exact ⟨rfl, E1⟩
/-- the total, as Go adds it -/
def totTo : Prs → Int
  | [] => 0
  | p :: l => p.2 + totTo l
theorem tot_app (l m : Prs) : totTo (l ++ m) = totTo l + totTo m := by
  induction l with
  | nil => simp [totTo]
  | cons p l ih => simp only [List.cons_append, totTo, ih]; omega
theorem tot_step {l : Prs} {k : Nat} (hk : k < l.length) : totTo (l.take (k + 1)) = totTo (l.take k) + l[k].2 := by
  rw [List.take_succ_eq_append_getElem hk, tot_app]; simp [totTo]
theorem tot_bd {l : Prs} (h : ∀ p ∈ l, -1000000000 ≤ p.2 ∧ p.2 ≤ 1000000000) : ∀ k, k ≤ l.length → -1000000000 * (k : Int) ≤ totTo (l.take k) ∧ totTo (l.take k) ≤ 1000000000 * (k : Int)
  | 0, _ => by simp [totTo]
  | k + 1, hk => by
    have ih := tot_bd h k (by omega)
    have := h l[k] (List.getElem_mem (by omega))
    rw [tot_step (by omega)]
    omega
def totE (l : Prs) : Int := storeErr l
end Go.Proofs.YtijcckhkofkenaaGreat
