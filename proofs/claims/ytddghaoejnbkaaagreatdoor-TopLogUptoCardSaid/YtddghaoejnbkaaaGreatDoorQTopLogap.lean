/- Contracts and lemmas for the proof of TopLog; each theorem states its own conditions. -/
import Derived.Test.YtddghaoejnbkaaaGreatDoorQTopLogao
import Derived.Test.YtddghaoejnbkaaaGreatDoorQTopLogal
import Derived.Test.YtddghaoejnbkaaaGreatDoorQTopLogai
import Derived.Test.YtddghaoejnbkaaaGreatDoorQTopLogak
import Derived.Test.YtddghaoejnbkaaaGreatDoorQTopLogaa
import Derived.Test.YtddghaoejnbkaaaGreatDoorQTopLogad
import Derived.OpenShut
import Derived.Test.YtddghaoejnbkaaaGreatDoorQTopLogag
set_option linter.unusedVariables false
set_option linter.unusedSimpArgs false
/- Contracts and lemmas for the proofs of this seat; each theorem states its own conditions. -/
namespace Go.Proofs.YtddghaoejnbkaaaGreatDoor
open Go.RowKit
theorem insP_any (B c : Nat) (a : Option Addr) (l : Prs) (i : Nat) (k : ByteArray) (n : Int) (vb : Nat) (w : World) (h : w.ownsRow B 62 2 (.slice a l.length c) l.length (cP l)) (hB : B ≤ w.heap.size) (hi : i ≤ l.length)
    (hv : w.heap[vb]? = some (.cells #[.string k, .int .i64 n] 62 (0, 0))) (hne : (Value.slice a l.length c).ownBlock ≠ some vb) (hlen : l.length ≤ 1000000) :
    Calls Tryz.prog 171 #[.slice a l.length c, .int .i64 i, .slice (some ⟨vb, 0, none⟩) 1 1] w fun e w' =>
      ∃ v', e = .returned v' ∧ Seg w' v' 2 (l.length + 1) (cP (l.take i ++ [(k, n)] ++ l.drop i)) ∧ Below B w w' := by
  by_cases hil : i < l.length
  · obtain ⟨g, cur, rfl, h1, h2, h3, h4, h5, h6, h7⟩ := own_row h (by omega)
    have hg : vb ≠ g := fun e => hne (by simp [Value.ownBlock, e])
    by_cases hr : l.length + 1 ≤ c
    · exact insP_room B c g l i k n vb w cur h3 h1 hr h5 h6 h7 hil hv hg hB hlen
    · exact insP_grow B c g l i k n vb w cur h3 h4 (by omega) h5 h6 h7 hil hv hB hlen
  · obtain rfl : i = l.length := by omega
    have := insP_end B c a l k n vb w h hB hv hlen
    rw [List.take_of_length_le (Nat.le_refl _), List.drop_of_length_le (Nat.le_refl _), List.append_nil]
    exact this
theorem cP_set (l : Prs) (i : Nat) (hi : i < l.length) (n : Int) : (cP l).set (i * 2 + 1) (.int .i64 n) = cP (l.take i ++ [(l[i].1, n)] ++ l.drop (i + 1)) := by
  induction l generalizing i with
  | nil => simp at hi
  | cons p l ih =>
    cases i with
    | zero => simp [cP]
    | succ i =>
      have := ih i (by simpa using hi)
      rw [show (i + 1) * 2 + 1 = i * 2 + 1 + 1 + 1 from by omega]
      simp only [cP, List.flatMap_cons, List.cons_append, List.nil_append, List.set_cons_succ, List.take_succ_cons, List.getElem_cons_succ, List.drop_succ_cons] at this ⊢
      rw [this]
theorem own_store {w : World} {B c : Nat} {a : Option Addr} {l : Prs} (h : w.ownsRow B 62 2 (.slice a l.length c) l.length (cP l)) (i : Nat) (hi : i < l.length) (n : Int) :
    ∃ g, a = some ⟨g, 0, none⟩ ∧ B ≤ g ∧ g < w.heap.size ∧ l.length ≤ c ∧ c ≤ maxLen ∧ (∃ u, w.cell? ⟨g, i * 2 + 1, none⟩ = some u) ∧ w.frozen? ⟨g, i * 2 + 1, none⟩ = false ∧
      (w.setCell ⟨g, i * 2 + 1, none⟩ (.int .i64 n)).ownsRow B 62 2 (.slice (some ⟨g, 0, none⟩) l.length c) l.length (cP (l.take i ++ [(l[i].1, n)] ++ l.drop (i + 1))) := by
  obtain ⟨g, cur, rfl, h1, h2, h3, h4, h5, h6, h7⟩ := own_row h (by omega)
  have hlt : i * 2 + 1 < cur.length := by omega
  have hset : w.setCell ⟨g, i * 2 + 1, none⟩ (.int .i64 n) = w.setRow g (cur.set (i * 2 + 1) (.int .i64 n)).toArray := by
    rw [setCell_eq_setRow w g (i * 2 + 1) cur.toArray 62 (0, 0) _ h3]; simp
  refine ⟨g, rfl, h1, h2, h4, h5, ⟨cur[i * 2 + 1], h3.cell (by simp [hlt])⟩, by unfold RowB at h3; simp [World.frozen?, h3], ?_⟩
  rw [hset]
  refine own_of_row (h3.set _) h1 h4 h5 (by simpa using h6) ?_ ?_
  · rw [cP_len, List.length_append, List.length_append, List.length_take, List.length_drop]; simp; omega
  · rw [← cP_set l i hi, List.take_set, h7]
set_option maxRecDepth 100000 in
set_option maxHeartbeats 1000000 in
theorem with_any (v : Value) (l : Prs) (key : ByteArray) (n : Int) (w : World) (hv : Seg w v 2 l.length (cP l)) (hs : srtP l) (hlen : l.length ≤ 1000000) :
    Calls Tryz.prog 133 #[v, .string key, .int .i64 n] w fun e w' => ∃ v', e = .returned v' ∧ w'.ownsRow w.heap.size 62 2 v' (withP l key n).length (cP (withP l key n)) ∧ Ext w w' := by
  go_enter Tryz.func133, Tryz.ntmps133
  go_wp2_with fail
  refine (sfind_any _ l key _ hv hs (by omega)).mono ?_
  rintro e w1 ⟨i, hc, rfl, E1⟩
  have hw := with_cut (n := n) hs hc
  have hi := hc.1
  have HC := hid hc
  clear hc
  go_wp2_with fail
  refine (clone_Pair _ _ _ _ (hv.ext E1) (cP_one _) (by omega)).mono ?_
  rintro e w2 ⟨a, c, rfl, ho, E2⟩
  cases hh : hitS (keysP l) key i with
  | true =>
    have hil := hit_lt hh
    rw [keysP_len] at hil
    have hk : l[i].1 = key := by
      rw [hitS_eq (by rw [keysP_len]; exact hil), keysP_get] at hh
      exact toList_inj (by simpa using hh)
    have HW := hid (hw.1 hh)
    have HK := hid hk
    clear hw hk
    by_cases hn : n = 0
    · have hn' : (n == 0) = true := by simp [hn]
      have HN := hid hn
      clear hn
      obtain ⟨g, cur, rfl, h1, h2, h3, h4, h5, h6, h7⟩ := own_row ho (by omega)
      go_wp2_with fail
      refine (delP_any w1.heap.size c g l i _ cur h3 h1 h4 h5 h6 h7 hil hlen).mono ?_
      rintro e w3 ⟨v3, rfl, hsg, hB3⟩
      go_wp2_with fail
      refine (clone_Pair _ _ _ _ hsg (cP_one _) (by omega)).mono ?_
      rintro e w4 ⟨a4, c4, rfl, ho4, E4⟩
      go_wp2
      go_ret
      have hE : withP l key n = l.take i ++ l.drop (i + 1) := by rw [HW.out, if_pos HN.out, List.append_nil]
      have hL : (withP l key n).length = l.length - 1 := by rw [hE, List.length_append, List.length_take, List.length_drop]; omega
      have hE3 : Ext w1 w3 := Below.trans E2 hB3
      refine ⟨_, rfl, ?_, E1.trans (hE3.trans E4)⟩
      rw [hL, hE]
      exact own_base ho4 (by have := E1.size'; have := hE3.size'; omega)
    · have hn' : (n == 0) = false := by simp [hn]
      have HN := hid hn
      clear hn
      obtain ⟨g, rfl, h1, h2, h3, h4, ⟨u, h5⟩, h6, h7⟩ := own_store ho i hil n
      unfold maxLen at h4
      have q1 : (0 : Int) ≤ (i : Int) := by omega
      have q2 : (i : Int) < (l.length : Int) := by omega
      have hE3 := E2.setCell (p := ⟨g, i * 2 + 1, none⟩) h1 (.int .i64 n)
      go_wp2
      go_ret
      have hE : withP l key n = l.take i ++ [(l[i].1, n)] ++ l.drop (i + 1) := by rw [HW.out, if_neg HN.out, HK.out]
      have hL : (withP l key n).length = l.length := by rw [hE]; simp; omega
      refine ⟨_, rfl, ?_, E1.trans hE3⟩
      rw [hL, hE]
      exact own_base h7 (by have := E1.size'; omega)
  | false =>
    have HW := hid (hw.2 hh)
    clear hw
    by_cases hn : n = 0
    · have hn' : (n == 0) = true := by simp [hn]
      have HN := hid hn
      clear hn
      go_wp2
      go_ret
      have hE : withP l key n = l := by rw [HW.out, if_pos HN.out, List.append_nil, List.take_append_drop]
      refine ⟨_, rfl, ?_, E1.trans E2⟩
      rw [hE]
      exact own_base ho (by have := E1.size'; omega)
    · have hn' : (n == 0) = false := by simp [hn]
      have HN := hid hn
      clear hn
      have hvb := heap_alloc_new w2 (.cells #[.string key, .int .i64 n] 62)
      have hlt := ho.lt
      go_wp2_with fail
      refine (insP_any w1.heap.size c a l i key n w2.heap.size _ (ho.alloc _) (by have := E2.size'; simp; omega) hi hvb (fun e => by have := (hlt _ e).2; omega) hlen).mono ?_
      rintro e w3 ⟨v3, rfl, hsg, hB3⟩
      go_wp2_with fail
      refine (clone_Pair _ _ _ _ hsg (cP_one _) (by omega)).mono ?_
      rintro e w4 ⟨a4, c4, rfl, ho4, E4⟩
      go_wp2
      go_ret
      have hE : withP l key n = l.take i ++ [(key, n)] ++ l.drop i := by rw [HW.out, if_neg HN.out]
      have hL : (withP l key n).length = l.length + 1 := by rw [hE]; simp; omega
      have hE3 : Ext w1 w3 := Below.trans (E2.alloc _) hB3
      refine ⟨_, rfl, ?_, E1.trans (hE3.trans E4)⟩
      rw [hL, hE]
      exact own_base ho4 (by have := E1.size'; have := hE3.size'; omega)
end Go.Proofs.YtddghaoejnbkaaaGreatDoor

/- Contracts and lemmas for the proofs of this seat; each theorem states its own conditions. -/
namespace Go.Proofs.YtddghaoejnbkaaaGreatDoor
open Go.RowKit
set_option maxRecDepth 10000 in
theorem put_ok (v : Value) (l : Prs) (key : ByteArray) (n : Int) (w : World) (hv : Seg w v 2 l.length (cP l)) (hk : ∀ p ∈ l, p.1.size ≤ 9223372036854775807) (hks : key.size ≤ 9223372036854775807) (hlen : l.length ≤ 1000000)
    (ok : StoreOk l) (hkb : keyB key = true) (hvb : valB n = true) :
    Calls Tryz.prog 92 #[v, .string key, .int .i64 n] w fun e w' => ∃ v', e = .returned (.tuple #[v', .int .i64 0]) ∧ w'.ownsRow w.heap.size 62 2 v' (withP l key n).length (cP (withP l key n)) ∧ Ext w w' := by
  have hs := ok.srt
  have q : (storeErr l != 0) = false := by simp [storeErr_ok ok]
  go_enter Tryz.func92, Tryz.ntmps92
  go_wp2_with fail
  refine (scheck_any _ l _ hv hk).mono ?_
  rintro e w1 ⟨rfl, E1⟩
  go_wp2_with fail
  refine (key_any _ _ hks).mono ?_
  rintro e w' ⟨rfl, rfl⟩
  go_wp2_with fail
  refine (value_any _ _).mono ?_
  rintro e w' ⟨rfl, rfl⟩
  go_wp2_with fail
  refine (with_any _ l key n _ (hv.ext E1) hs hlen).mono ?_
  rintro e w2 ⟨v', rfl, ho, E2⟩
  go_wp2
  go_ret2
  exact ⟨_, rfl, own_base ho E1.size', E1.trans E2⟩
end Go.Proofs.YtddghaoejnbkaaaGreatDoor

/- Contracts and lemmas for the proofs of this seat; each theorem states its own conditions. -/
namespace Go.Proofs.YtddghaoejnbkaaaGreatDoor
open Go.RowKit
/-! deed.do, deed.Run -/
theorem rT3 {a a' b b' c c' : Value} (h : a = a') (h' : b = b') (h'' : c = c') : Ending.returned (.tuple #[a, b, c]) = .returned (.tuple #[a', b', c']) := by rw [h, h', h'']
theorem blk4 {w : World} {b : Nat} {x y z u : Value} {t : TypeId} (h : w.heap[b]? = some (.cells #[x, y, z, u] t (0, 0))) : w.cell? ⟨b, 0, none⟩ = some x ∧ w.cell? ⟨b, 1, none⟩ = some y ∧ w.cell? ⟨b, 2, none⟩ = some z ∧ w.cell? ⟨b, 3, none⟩ = some u := by
  simp [World.cell?, h]
set_option maxRecDepth 10000 in
set_option maxHeartbeats 1000000 in
theorem do_any (v : Value) (l : Prs) (o : GOp) (w : World) (hv : Seg w v 2 l.length (cP l)) (ok : StoreOk l) (ho : OpOk o) (hlen : l.length ≤ 999000) :
    Calls Tryz.prog 172 #[v, .agg #[.int .i64 o.kind, .string o.key, .string o.from_, .int .i64 o.n]] w fun e w' => ∃ v', e = .returned (.tuple #[v', .bool (doP l o).2]) ∧ Seg w' v' 2 (doP l o).1.length (cP (doP l o).1) ∧ Ext w w' := by
  obtain ⟨kd, key, fr, n⟩ := o
  have hs := ok.srt
  have E0 := (Ext.refl w).alloc (.cells #[.int .i64 kd, .string key, .string fr, .int .i64 n] 125)
  have hv0 := hv.ext E0
  have bk := val_bd ok key
  have bf := val_bd ok fr
  obtain ⟨a, c, rfl⟩ := seg_form hv
  have b0 := heap_alloc_new w (.cells #[.int .i64 kd, .string key, .string fr, .int .i64 n] 125)
  rcases kinds ho with h | h | h | h | h
  · dsimp only at h ⊢
    subst h
    have HD := hid (show doP l ⟨1, key, fr, n⟩ = (withP l key n, valB n) by simp [doP])
    go_enter Tryz.func172, Tryz.ntmps172
    go_wp2_with fail
    refine (sat_any _ l key _ hv0 hs (by omega)).mono ?_
    rintro e w1 ⟨rfl, E1⟩
    replace b0 := E1.heap b0
    have xw1 := blk4 b0
    generalize valP l key = m
    go_wp2_with fail
    refine (with_any _ l key n _ (hv0.ext E1) hs (by omega)).mono ?_
    rintro e w2 ⟨v', rfl, ho', E2⟩
    replace b0 := E2.heap b0
    have xw2 := blk4 b0
    go_wp2_with fail
    refine (value_any _ _).mono ?_
    rintro e w' ⟨rfl, rfl⟩
    go_wp2
    go_ret2
    exact ⟨_, rT2 rfl (vB (by rw [HD.out])), by rw [HD.out]; exact own_seg ho', (E0.trans E1).trans E2⟩
  · dsimp only at h ⊢
    subst h
    have hn : -1000000000 ≤ n ∧ n ≤ 1000000000 := ho.val (by first | (show (2 : Int) ≠ 3; decide) | (show (5 : Int) ≠ 3; decide))
    have HD := hid (show doP l ⟨2, key, fr, n⟩ = (withP l key (valP l key + n), valB (valP l key + n)) by simp [doP])
    go_enter Tryz.func172, Tryz.ntmps172
    go_wp2_with fail
    refine (sat_any _ l key _ hv0 hs (by omega)).mono ?_
    rintro e w1 ⟨rfl, E1⟩
    replace b0 := E1.heap b0
    have xw1 := blk4 b0
    generalize valP l key = m at bk HD ⊢
    go_wp2_with fail
    refine (with_any _ l key _ _ (hv0.ext E1) hs (by omega)).mono ?_
    rintro e w2 ⟨v', rfl, ho', E2⟩
    replace b0 := E2.heap b0
    have xw2 := blk4 b0
    go_wp2_with fail
    refine (value_any _ _).mono ?_
    rintro e w' ⟨rfl, rfl⟩
    go_wp2
    go_ret2
    exact ⟨_, rT2 rfl (vB (by rw [HD.out])), by rw [HD.out]; exact own_seg ho', (E0.trans E1).trans E2⟩
  · dsimp only at h ⊢
    subst h
    have HD := hid (show doP l ⟨3, key, fr, n⟩ = (withP l key (valP l fr), valB (valP l fr)) by simp [doP])
    go_enter Tryz.func172, Tryz.ntmps172
    go_wp2_with fail
    refine (sat_any _ l key _ hv0 hs (by omega)).mono ?_
    rintro e w1 ⟨rfl, E1⟩
    replace b0 := E1.heap b0
    have xw1 := blk4 b0
    generalize valP l key = m at bk
    have E1' := E0.trans E1
    go_wp2_with fail
    refine (sat_any _ l fr _ (hv0.ext E1) hs (by omega)).mono ?_
    rintro e w1 ⟨rfl, E1⟩
    replace b0 := E1.heap b0
    have xw1 := blk4 b0
    generalize valP l fr = p at bf HD ⊢
    have E1' := E1'.trans E1
    go_wp2_with fail
    refine (with_any _ l key _ _ (hv.ext E1') hs (by omega)).mono ?_
    rintro e w2 ⟨v', rfl, ho', E2⟩
    replace b0 := E2.heap b0
    have xw2 := blk4 b0
    go_wp2_with fail
    refine (value_any _ _).mono ?_
    rintro e w' ⟨rfl, rfl⟩
    go_wp2
    go_ret2
    exact ⟨_, rT2 rfl (vB (by rw [HD.out])), by rw [HD.out]; exact own_seg ho', E1'.trans E2⟩
  · dsimp only at h ⊢
    subst h
    have HD := hid (show doP l ⟨4, key, fr, n⟩ = (l, decide (n ≤ valP l key)) by simp [doP])
    go_enter Tryz.func172, Tryz.ntmps172
    go_wp2_with fail
    refine (sat_any _ l key _ hv0 hs (by omega)).mono ?_
    rintro e w1 ⟨rfl, E1⟩
    replace b0 := E1.heap b0
    have xw1 := blk4 b0
    generalize valP l key = m at bk HD ⊢
    have E1' := E0.trans E1
    go_wp2_with fail
    go_quiet (fail)
    go_wp2
    go_ret2
    exact ⟨_, rT2 rfl (vB (by rw [HD.out])), by rw [HD.out]; exact hv.ext (by (repeat (first | (with_reducible assumption) | (with_reducible exact Ext.refl _) | (with_reducible refine Ext.drew ?_) | (with_reducible refine Ext.drewN ?_ _) | (with_reducible refine Ext.alloc ?_ _) | (with_reducible refine Ext.trans ?_ (by with_reducible assumption))))), by (repeat (first | (with_reducible assumption) | (with_reducible exact Ext.refl _) | (with_reducible refine Ext.drew ?_) | (with_reducible refine Ext.drewN ?_ _) | (with_reducible refine Ext.alloc ?_ _) | (with_reducible refine Ext.trans ?_ (by with_reducible assumption))))⟩
  · dsimp only at h ⊢
    subst h
    have hn : -1000000000 ≤ n ∧ n ≤ 1000000000 := ho.val (by first | (show (2 : Int) ≠ 3; decide) | (show (5 : Int) ≠ 3; decide))
    have hn0 := ho.pos rfl
    have hne := (ho.from_ (.inr rfl)).2
    dsimp only at hn0 hne
    by_cases hlt : valP l fr < n
    · have HD := hid (show doP l ⟨5, key, fr, n⟩ = (l, false) by simp [doP, hlt])
      go_enter Tryz.func172, Tryz.ntmps172
      go_wp2_with fail
      refine (sat_any _ l key _ hv0 hs (by omega)).mono ?_
      rintro e w1 ⟨rfl, E1⟩
      replace b0 := E1.heap b0
      have xw1 := blk4 b0
      generalize valP l key = m at bk
      have E1' := E0.trans E1
      go_wp2_with fail
      refine (sat_any _ l fr _ (hv0.ext E1) hs (by omega)).mono ?_
      rintro e w2 ⟨rfl, E2⟩
      replace b0 := E2.heap b0
      have xw2 := blk4 b0
      generalize valP l fr = p at bf hlt ⊢
      have E2' := E1'.trans E2
      go_wp2
      go_ret2
      exact ⟨_, rT2 rfl (vB (by rw [HD.out])), by rw [HD.out]; exact hv.ext E2', E2'⟩
    · have HD := hid (show doP l ⟨5, key, fr, n⟩ = (withP (withP l fr (valP l fr - n)) key (valP l key + n), valB (valP l key + n)) by simp [doP, hlt])
      have hle : n ≤ valP l fr := by omega
      have hs2 := fun q => srt_with hs fr q
      have hl2 := fun q => with_len l fr q
      clear hlt
      go_enter Tryz.func172, Tryz.ntmps172
      go_wp2_with fail
      refine (sat_any _ l key _ hv0 hs (by omega)).mono ?_
      rintro e w1 ⟨rfl, E1⟩
      replace b0 := E1.heap b0
      have xw1 := blk4 b0
      generalize valP l key = m at bk HD ⊢
      have E1' := E0.trans E1
      go_wp2_with fail
      refine (sat_any _ l fr _ (hv0.ext E1) hs (by omega)).mono ?_
      rintro e w2 ⟨rfl, E2⟩
      replace b0 := E2.heap b0
      have xw2 := blk4 b0
      generalize valP l fr = p at bf hle HD ⊢
      have E2' := E1'.trans E2
      have hs3 := hs2 (p - n)
      have hl3 := hl2 (p - n)
      clear hs2 hl2
      go_wp2_with fail
      refine (with_any _ l fr _ _ (hv.ext E2') hs (by omega)).mono ?_
      rintro e w3 ⟨v', rfl, ho', E3⟩
      replace b0 := E3.heap b0
      have xw3 := blk4 b0
      generalize withP l fr (p - n) = l2 at hs3 hl3 ho' HD
      have E3' := E2'.trans E3
      go_wp2_with fail
      refine (with_any _ l2 key _ _ (own_seg ho') hs3 (by omega)).mono ?_
      rintro e w4 ⟨v2, rfl, ho2, E4⟩
      go_wp2_with fail
      refine (value_any _ _).mono ?_
      rintro e w' ⟨rfl, rfl⟩
      go_wp2
      go_ret2
      exact ⟨_, rT2 rfl (vB (by rw [HD.out])), by rw [HD.out]; exact own_seg ho2, E3'.trans E4⟩
theorem opsSm_ok {d : Ops} (hd : DeedOk d) (hf : ∀ o ∈ d, o.from_.size ≤ 9223372036854775807) : opsSm d := fun o ho => ⟨by have := (hd.ops o ho).key; simp [keyB] at this; omega, hf o ho⟩
set_option maxRecDepth 10000 in
set_option maxHeartbeats 1000000 in
theorem run_ok (v vd : Value) (l : Prs) (d : Ops) (w : World) (hv : Seg w v 2 l.length (cP l)) (hvd : Seg w vd 4 d.length (cO d)) (ok : StoreOk l) (hd : DeedOk d) (hf : ∀ o ∈ d, o.from_.size ≤ 9223372036854775807) (hlen : l.length ≤ 998000) :
    Calls Tryz.prog 135 #[v, .agg #[vd]] w fun e w' => ∃ v', e = .returned (.tuple #[v', .bool (runB l d), .int .i64 0]) ∧ w'.ownsRow w.heap.size 62 2 v' (runS l d).length (cP (runS l d)) ∧ Ext w w' := by
  have E0 := (Ext.refl w).alloc (.cells #[vd] 40)
  have b0 := heap_alloc_new w (.cells #[vd] 40)
  have hd8 := hd.hi
  have hd1 := hd.lo
  obtain ⟨h0, x, cap, rfl, h1, h2, h3⟩ := hvd
  have hvd : Seg w (.slice x d.length cap) 4 d.length (cO d) := ⟨h0, x, cap, rfl, h1, h2, h3⟩
  unfold maxLen at h2
  have hvS := hv
  go_enter Tryz.func135, Tryz.ntmps135
  go_wp2_with fail
  refine (scheck_any _ l _ (hv.ext E0) (fun p hp => by have := ok.key p hp; simp [keyB] at this; omega)).mono ?_
  rw [storeErr_ok ok]
  rintro e w1 ⟨rfl, E1⟩
  have b1 := E1.heap b0
  have c1 : w1.cell? ⟨w.heap.size, 0, none⟩ = some (.slice x d.length cap) := by simp [World.cell?, b1]
  have E1' := E0.trans E1
  clear b0
  go_wp2_with fail
  refine (dcheck_any _ d _ (hvd.ext E1') (opsSm_ok hd hf)).mono ?_
  rw [deedE_ok hd]
  rintro e w2 ⟨rfl, E2⟩
  have b2 := E2.heap b1
  have c2 : w2.cell? ⟨w.heap.size, 0, none⟩ = some (.slice x d.length cap) := by simp [World.cell?, b2]
  have E2' := E1'.trans E2
  obtain ⟨a, c, rfl⟩ := seg_form hv
  clear b1 c1 E1
  go_wp2
  go_loopw [9, 11, 12, 27] (fun o _ _ i wr => ∃ k : Nat, k ≤ d.length ∧ i = .int .i64 k ∧ (∃ l', runP l (d.take k) = some l' ∧ Seg wr o 2 l'.length (cP l')) ∧ Ext w wr) (fun _ _ _ i _ => d.length - (intOf i).toNat)
  case atStart => exact ⟨0, Nat.zero_le _, rfl, ⟨l, rfl, hv.ext E2'⟩, E2'⟩
  case round =>
    clear E2' E1' E2 b2 c2
    obtain ⟨k, hkl, rfl, ⟨l', hl', hv'⟩, E⟩ := hrel
    have hlen' := len_run hl'
    rw [List.length_take] at hlen'
    have ok' := (runP_some (opsOk_take hd.ops k) ok hl').1
    by_cases hlt : k < d.length
    · have hst := runP_step hlt hl'
      have HL := hid hl'
      clear hl'
      obtain ⟨b, off, rfl, hc⟩ := h3 (by omega)
      obtain ⟨q0, q1, q2, q3⟩ := seg_op hc hlt
      have d0 := E.cell q0
      have d1 := E.cell q1
      have d2 := E.cell q2
      have d3 := E.cell q3
      have oo := hd.ops d[k] (List.getElem_mem hlt)
      clear hc h3 q0 q1 q2 q3
      cases hr : (doP l' d[k]).2 with
      | true =>
        rw [hr, if_pos rfl] at hst
        have HST := hid hst
        clear hst
        go_wp2_with fail
        refine (do_any _ l' d[k] _ (hv'.ext (by (repeat (first | (with_reducible assumption) | (with_reducible exact Ext.refl _) | (with_reducible refine Ext.drew ?_) | (with_reducible refine Ext.drewN ?_ _) | (with_reducible refine Ext.alloc ?_ _) | (with_reducible refine Ext.trans ?_ (by with_reducible assumption)))))) ok' oo (by omega)).mono ?_
        rw [hr]
        clear hr
        rintro e w4 ⟨v4, rfl, hv4, E4⟩
        go_wp2
        go_roundw
        case rel => exact ⟨k + 1, by omega, by go_num, ⟨_, HST.out, hv4⟩, by (repeat (first | (with_reducible assumption) | (with_reducible exact Ext.refl _) | (with_reducible refine Ext.drew ?_) | (with_reducible refine Ext.drewN ?_ _) | (with_reducible refine Ext.alloc ?_ _) | (with_reducible refine Ext.trans ?_ (by with_reducible assumption))))⟩
        case measure => simp [intOf]; omega
      | false =>
        rw [hr, if_neg (by simp)] at hst
        have hno := runP_off hst
        have HB := hid (show runB l d = false by unfold runB; rw [hno]; rfl)
        have HS := hid (show runS l d = l by unfold runS; rw [hno]; rfl)
        clear hst hno
        go_wp2_with fail
        refine (do_any _ l' d[k] _ (hv'.ext (by (repeat (first | (with_reducible assumption) | (with_reducible exact Ext.refl _) | (with_reducible refine Ext.drew ?_) | (with_reducible refine Ext.drewN ?_ _) | (with_reducible refine Ext.alloc ?_ _) | (with_reducible refine Ext.trans ?_ (by with_reducible assumption)))))) ok' oo (by omega)).mono ?_
        rw [hr]
        clear hr
        rintro e w4 ⟨v4, rfl, hv4, E4⟩
        have E4' : Ext w w4 := by (repeat (first | (with_reducible assumption) | (with_reducible exact Ext.refl _) | (with_reducible refine Ext.drew ?_) | (with_reducible refine Ext.drewN ?_ _) | (with_reducible refine Ext.alloc ?_ _) | (with_reducible refine Ext.trans ?_ (by with_reducible assumption))))
        go_wp2_with fail
        refine (clone_Pair _ _ _ _ (hvS.ext E4') (cP_one _) (by omega)).mono ?_
        rintro e w5 ⟨a5, c5, rfl, ho, E5⟩
        go_wp2
        go_ret3
        exact ⟨_, rT3 rfl (vB HB.out.symm) rfl, by rw [HS.out]; exact own_base ho E4'.size', E4'.trans E5⟩
    · obtain rfl : k = d.length := by omega
      rw [List.take_of_length_le (Nat.le_refl _)] at hl'
      have HB := hid (show runB l d = true by unfold runB; rw [hl']; rfl)
      have HS := hid (show runS l d = l' by unfold runS; rw [hl']; rfl)
      clear hl' h3
      go_wp2_with fail
      refine (clone_Pair _ _ _ _ hv' (cP_one _) (by omega)).mono ?_
      rintro e w5 ⟨a5, c5, rfl, ho, E5⟩
      go_wp2
      go_ret3
      exact ⟨_, rT3 rfl (vB HB.out.symm) rfl, by rw [HS.out]; exact own_base ho E.size', E.trans E5⟩
end Go.Proofs.YtddghaoejnbkaaaGreatDoor

/- Contracts and lemmas for the proofs of this seat; each theorem states its own conditions. -/
namespace Go.Proofs.YtddghaoejnbkaaaGreatDoor
open Go.RowKit
/-! text.op, text.Deed -/
set_option maxRecDepth 10000 in
theorem top_1 (n : Int) (key fr : ByteArray) (w : World) (L : LaidT w) (hk : key.size ≤ 6) (hn : -9223372036854775808 ≤ n ∧ n ≤ 9223372036854775807) :
    Calls Tryz.prog 143 #[.agg #[.int .i64 1, .string key, .string fr, .int .i64 n]] w fun e w' => e = .returned (.string (bA (opT ⟨1, key, fr, n⟩))) ∧ Ext w w' := by
  have IT := hid (fun w' (q : Ext w w') => itoa_any n w' (L.ext q) hn.1 hn.2)
  have htk := itoa_len21 hn.1 hn.2
  rw [← bA_size] at htk
  have hres : bA (opT ⟨1, key, fr, n⟩) = key ++ ⟨#[61]⟩ ++ bA (Lib.itoa n) := by
    refine bA_eq ?_
    simp [bA_toL, opT, opTl, ByteArray.data_append]
  rw [hres]
  generalize bA (Lib.itoa n) = tk at htk IT
  have E0 := (Ext.refl w).alloc (.cells #[.int .i64 1, .string key, .string fr, .int .i64 n] 125)
  have b0 := blk4 (heap_alloc_new w (.cells #[.int .i64 1, .string key, .string fr, .int .i64 n] 125))
  have IT0 := hid (IT.out _ E0)
  clear L hn hres IT
  go_enter Tryz.func143, Tryz.ntmps143
  go_wp2_with fail
  refine (IT0.out).mono ?_
  clear IT0
  rintro e w1 ⟨rfl, E1⟩
  have HE := hid (E0.trans E1)
  have c0 := E1.cell b0.1
  have c1 := E1.cell b0.2.1
  have c2 := E1.cell b0.2.2.1
  clear b0 E0 E1
  have z1 : ¬ 9223372036854775807 < key.size + 1 := by omega
  have z2 : ¬ 9223372036854775807 < key.size + 1 + tk.size := by omega
  go_wp2
  go_ret
  exact ⟨rfl, HE.out⟩
set_option maxRecDepth 10000 in
theorem top_2 (n : Int) (key fr : ByteArray) (w : World) (L : LaidT w) (hk : key.size ≤ 6) (hn : -9223372036854775808 ≤ n ∧ n ≤ 9223372036854775807) :
    Calls Tryz.prog 143 #[.agg #[.int .i64 2, .string key, .string fr, .int .i64 n]] w fun e w' => e = .returned (.string (bA (opT ⟨2, key, fr, n⟩))) ∧ Ext w w' := by
  have IT := hid (fun w' (q : Ext w w') => itoa_any n w' (L.ext q) hn.1 hn.2)
  have htk := itoa_len21 hn.1 hn.2
  rw [← bA_size] at htk
  have hres : bA (opT ⟨2, key, fr, n⟩) = key ++ ⟨#[43]⟩ ++ bA (Lib.itoa n) := by
    refine bA_eq ?_
    simp [bA_toL, opT, opTl, ByteArray.data_append]
  rw [hres]
  generalize bA (Lib.itoa n) = tk at htk IT
  have E0 := (Ext.refl w).alloc (.cells #[.int .i64 2, .string key, .string fr, .int .i64 n] 125)
  have b0 := blk4 (heap_alloc_new w (.cells #[.int .i64 2, .string key, .string fr, .int .i64 n] 125))
  have IT0 := hid (IT.out _ E0)
  clear L hn hres IT
  go_enter Tryz.func143, Tryz.ntmps143
  go_wp2_with fail
  refine (IT0.out).mono ?_
  clear IT0
  rintro e w1 ⟨rfl, E1⟩
  have HE := hid (E0.trans E1)
  have c0 := E1.cell b0.1
  have c1 := E1.cell b0.2.1
  have c2 := E1.cell b0.2.2.1
  clear b0 E0 E1
  have z1 : ¬ 9223372036854775807 < key.size + 1 := by omega
  have z2 : ¬ 9223372036854775807 < key.size + 1 + tk.size := by omega
  go_wp2
  go_ret
  exact ⟨rfl, HE.out⟩
set_option maxRecDepth 10000 in
theorem top_3 (n : Int) (key fr : ByteArray) (w : World) (L : LaidT w) (hk : key.size ≤ 6) (hf : fr.size ≤ 6) (hn : -9223372036854775808 ≤ n ∧ n ≤ 9223372036854775807) :
    Calls Tryz.prog 143 #[.agg #[.int .i64 3, .string key, .string fr, .int .i64 n]] w fun e w' => e = .returned (.string (bA (opT ⟨3, key, fr, n⟩))) ∧ Ext w w' := by
  have IT := hid (fun w' (q : Ext w w') => itoa_any n w' (L.ext q) hn.1 hn.2)
  have htk := itoa_len21 hn.1 hn.2
  rw [← bA_size] at htk
  have hres : bA (opT ⟨3, key, fr, n⟩) = key ++ ⟨#[60]⟩ ++ fr := by
    refine bA_eq ?_
    simp [bA_toL, opT, opTl, ByteArray.data_append]
  rw [hres]
  generalize bA (Lib.itoa n) = tk at htk IT
  have E0 := (Ext.refl w).alloc (.cells #[.int .i64 3, .string key, .string fr, .int .i64 n] 125)
  have b0 := blk4 (heap_alloc_new w (.cells #[.int .i64 3, .string key, .string fr, .int .i64 n] 125))
  have IT0 := hid (IT.out _ E0)
  clear L hn hres IT
  go_enter Tryz.func143, Tryz.ntmps143
  go_wp2_with fail
  refine (IT0.out).mono ?_
  clear IT0
  rintro e w1 ⟨rfl, E1⟩
  have HE := hid (E0.trans E1)
  have c0 := E1.cell b0.1
  have c1 := E1.cell b0.2.1
  have c2 := E1.cell b0.2.2.1
  clear b0 E0 E1
  have z1 : ¬ 9223372036854775807 < key.size + 1 := by omega
  have z2 : ¬ 9223372036854775807 < key.size + 1 + fr.size := by omega
  go_wp2
  go_ret
  exact ⟨rfl, HE.out⟩
set_option maxRecDepth 10000 in
theorem top_4 (n : Int) (key fr : ByteArray) (w : World) (L : LaidT w) (hk : key.size ≤ 6) (hn : -9223372036854775808 ≤ n ∧ n ≤ 9223372036854775807) :
    Calls Tryz.prog 143 #[.agg #[.int .i64 4, .string key, .string fr, .int .i64 n]] w fun e w' => e = .returned (.string (bA (opT ⟨4, key, fr, n⟩))) ∧ Ext w w' := by
  have IT := hid (fun w' (q : Ext w w') => itoa_any n w' (L.ext q) hn.1 hn.2)
  have htk := itoa_len21 hn.1 hn.2
  rw [← bA_size] at htk
  have hres : bA (opT ⟨4, key, fr, n⟩) = key ++ ⟨#[63]⟩ ++ bA (Lib.itoa n) := by
    refine bA_eq ?_
    simp [bA_toL, opT, opTl, ByteArray.data_append]
  rw [hres]
  generalize bA (Lib.itoa n) = tk at htk IT
  have E0 := (Ext.refl w).alloc (.cells #[.int .i64 4, .string key, .string fr, .int .i64 n] 125)
  have b0 := blk4 (heap_alloc_new w (.cells #[.int .i64 4, .string key, .string fr, .int .i64 n] 125))
  have IT0 := hid (IT.out _ E0)
  clear L hn hres IT
  go_enter Tryz.func143, Tryz.ntmps143
  go_wp2_with fail
  refine (IT0.out).mono ?_
  clear IT0
  rintro e w1 ⟨rfl, E1⟩
  have HE := hid (E0.trans E1)
  have c0 := E1.cell b0.1
  have c1 := E1.cell b0.2.1
  have c2 := E1.cell b0.2.2.1
  clear b0 E0 E1
  have z1 : ¬ 9223372036854775807 < key.size + 1 := by omega
  have z2 : ¬ 9223372036854775807 < key.size + 1 + tk.size := by omega
  go_wp2
  go_ret
  exact ⟨rfl, HE.out⟩
set_option maxRecDepth 10000 in
theorem top_5 (n : Int) (key fr : ByteArray) (w : World) (L : LaidT w) (hk : key.size ≤ 6) (hf : fr.size ≤ 6) (hn : -9223372036854775808 ≤ n ∧ n ≤ 9223372036854775807) :
    Calls Tryz.prog 143 #[.agg #[.int .i64 5, .string key, .string fr, .int .i64 n]] w fun e w' => e = .returned (.string (bA (opT ⟨5, key, fr, n⟩))) ∧ Ext w w' := by
  have IT := hid (fun w' (q : Ext w w') => itoa_any n w' (L.ext q) hn.1 hn.2)
  have htk := itoa_len21 hn.1 hn.2
  rw [← bA_size] at htk
  have hres : bA (opT ⟨5, key, fr, n⟩) = key ++ ⟨#[60]⟩ ++ fr ++ ⟨#[42]⟩ ++ bA (Lib.itoa n) := by
    refine bA_eq ?_
    simp [bA_toL, opT, opTl, ByteArray.data_append]
  rw [hres]
  generalize bA (Lib.itoa n) = tk at htk IT
  have E0 := (Ext.refl w).alloc (.cells #[.int .i64 5, .string key, .string fr, .int .i64 n] 125)
  have b0 := blk4 (heap_alloc_new w (.cells #[.int .i64 5, .string key, .string fr, .int .i64 n] 125))
  have IT0 := hid (IT.out _ E0)
  clear L hn hres IT
  go_enter Tryz.func143, Tryz.ntmps143
  go_wp2_with fail
  refine (IT0.out).mono ?_
  clear IT0
  rintro e w1 ⟨rfl, E1⟩
  have HE := hid (E0.trans E1)
  have c0 := E1.cell b0.1
  have c1 := E1.cell b0.2.1
  have c2 := E1.cell b0.2.2.1
  clear b0 E0 E1
  have z1 : ¬ 9223372036854775807 < key.size + 1 := by omega
  have z2 : ¬ 9223372036854775807 < key.size + 1 + fr.size := by omega
  have z3 : ¬ 9223372036854775807 < key.size + 1 + fr.size + 1 := by omega
  have z4 : ¬ 9223372036854775807 < key.size + 1 + fr.size + 1 + tk.size := by omega
  go_wp2
  go_ret
  exact ⟨rfl, HE.out⟩
theorem top_any (o : GOp) (w : World) (L : LaidT w) (ok : OpOk o) (hn : -9223372036854775808 ≤ o.n ∧ o.n ≤ 9223372036854775807) :
    Calls Tryz.prog 143 #[.agg #[.int .i64 o.kind, .string o.key, .string o.from_, .int .i64 o.n]] w fun e w' => e = .returned (.string (bA (opT o))) ∧ Ext w w' := by
  have hk := ok.kinds
  have hs := key_size ok.key
  obtain ⟨k, key, fr, n⟩ := o
  have hf := ok.from_
  simp only at hk hs hf hn
  rcases hk with rfl | rfl | rfl | rfl | rfl
  · exact top_1 n key fr w L hs hn
  · exact top_2 n key fr w L hs hn
  · exact top_3 n key fr w L hs (key_size (hf (.inl rfl)).1) hn
  · exact top_4 n key fr w L hs hn
  · exact top_5 n key fr w L hs (key_size (hf (.inr rfl)).1) hn
end Go.Proofs.YtddghaoejnbkaaaGreatDoor

/- Contracts and lemmas for the proofs of this seat; each theorem states its own conditions. -/
namespace Go.Proofs.YtddghaoejnbkaaaGreatDoor
open Go.RowKit
theorem cell_spot {w : World} {x : Addr} {v : Value} (h : w.cell? x = some v) : x.spot = none := by
  unfold World.cell? at h
  split at h
  · rename_i hx
    cases hs : x.spot with
    | none => rfl
    | some s => simp [hs] at h
  · cases h
/-- what the shell tells of a slice of numbers, as a slice of mine -/
theorem seg_of_row {w : World} {a : Option Addr} {len cap : Nat} {zs : List Int} (h : (a = none ∧ len = 0 ∧ cap = 0 ∧ zs = []) ∨
    ∃ x, a = some x ∧ len ≤ cap ∧ cap ≤ maxLen ∧ zs.length = cap ∧ (∀ i, i < zs.length → w.cell? (x.add i) = some (.int .i64 (zs.getD i 0))) ∧ ∀ n ∈ zs, (Lit.int .i64 n).wf = true) :
    Seg w (.slice a len cap) 1 (zs.take len).length (cI (zs.take len)) ∧ (∀ z ∈ zs.take len, -9223372036854775808 ≤ z ∧ z ≤ 9223372036854775807) ∧ (zs.take len).length = len := by
  rcases h with ⟨rfl, rfl, rfl, rfl⟩ | ⟨x, rfl, h1, h2, h3, h4, h5⟩
  · exact ⟨Seg.nil _ _, by simp, rfl⟩
  · have hl : (zs.take len).length = len := by rw [List.length_take]; omega
    refine ⟨⟨by rw [cI_len]; omega, some x, cap, by rw [hl], by omega, h2, fun hn => ?_⟩, fun z hz => ?_, hl⟩
    · have hs := cell_spot (h4 0 (by omega))
      obtain ⟨b, off, sp⟩ := x
      have : sp = none := by simpa [Addr.add] using hs
      subst this
      refine ⟨b, off, rfl, fun j u hu => ?_⟩
      rw [← addr_add]
      have hj : j < (zs.take len).length := by have := (List.getElem?_eq_some_iff.1 hu).1; rw [cI_len] at this; exact this
      rw [cI_at0 _ _ hj] at hu
      injection hu with hu; subst hu
      have hj' : j < zs.length := by omega
      rw [h4 j hj']
      simp [hj']
    · have := bounds_i64 (h5 z (List.mem_of_mem_take hz))
      exact this
end Go.Proofs.YtddghaoejnbkaaaGreatDoor

/- Contracts and lemmas for the proofs of this seat; each theorem states its own conditions. -/
namespace Go.Proofs.YtddghaoejnbkaaaGreatDoor
open Go.RowKit
theorem keyOf_is (k : Int) : keyB (keyOf k) = true ∧ (keyOf k).size ≤ 9223372036854775807 := by
  have h0 := wi_lo (k := k) (n := 8) (by omega)
  have h1 := wi_hi (k := k) (n := 8) (by omega)
  have h2 : (wi k 8).toNat < keysL.length := by simp [keysL]; omega
  have h3 : ∀ k, (h : k < keysL.length) → keyB keysL[k] = true ∧ keysL[k].size ≤ 2 := by decide +kernel
  have := h3 _ h2
  unfold keyOf
  rw [kAt_eq h2]; exact ⟨this.1, by omega⟩
end Go.Proofs.YtddghaoejnbkaaaGreatDoor
