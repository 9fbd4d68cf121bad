/- Contracts and lemmas for the proof of DeedSays; each theorem states its own conditions. -/
import Derived.Test.YtijcckhkofkenaaDoorQDeedSaysav
set_option linter.unusedVariables false
set_option linter.unusedSimpArgs false
/- Contracts and lemmas for the proofs of this seat; each theorem states its own conditions. -/
namespace Go.Proofs.YtijcckhkofkenaaDoor
open Go.RowKit
def getE (l : Prs) (key : ByteArray) : Int := if storeErr l ≠ 0 then storeErr l else if keyB key then 0 else 3
def getV (l : Prs) (key : ByteArray) : Int := if storeErr l = 0 ∧ keyB key = true then valP l key else 0
set_option maxRecDepth 10000 in
theorem get_any (v : Value) (l : Prs) (key : ByteArray) (w : World) (hv : Seg w v 2 l.length (cP l)) (hk : ∀ p ∈ l, p.1.size ≤ 9223372036854775807) (hks : key.size ≤ 9223372036854775807) (hlen : l.length < 1000000000) :
    Calls Tryd.prog 79 #[v, .string key] w fun e w' => e = .returned (.tuple #[.int .i64 (getV l key), .int .i64 (getE l key)]) ∧ Ext w w' := by
  by_cases he : storeErr l = 0
  · have hs := (store_ok he).srt
    have q : (storeErr l != 0) = false := by simp [he]
    have HE := hid he
    clear he
    cases hkb : keyB key with
    | true =>
      have HV := hid (show getV l key = valP l key by simp [getV, HE.out, hkb])
      have HG := hid (show getE l key = 0 by simp [getE, HE.out, hkb])
      go_enter Tryd.func79, Tryd.ntmps79
      go_wp2_with fail
      refine (scheck_any _ l _ hv hk).mono ?_
      rintro e w1 ⟨rfl, E1⟩
      go_wp2_with fail
      refine (key_any _ _ hks).mono ?_
      rintro e w' ⟨rfl, rfl⟩
      go_wp2_with fail
      refine (sat_any _ l key _ (hv.ext E1) hs hlen).mono ?_
      rintro e w2 ⟨rfl, E2⟩
      go_wp2
      go_ret2
      exact ⟨rT2 (vI HV.out.symm) (vI HG.out.symm), E1.trans E2⟩
    | false =>
      have HV := hid (show getV l key = 0 by simp [getV, hkb])
      have HG := hid (show getE l key = 3 by simp [getE, HE.out, hkb])
      go_enter Tryd.func79, Tryd.ntmps79
      go_wp2_with fail
      refine (scheck_any _ l _ hv hk).mono ?_
      rintro e w1 ⟨rfl, E1⟩
      go_wp2_with fail
      refine (key_any _ _ hks).mono ?_
      rintro e w' ⟨rfl, rfl⟩
      go_wp2
      go_ret2
      exact ⟨rT2 (vI HV.out.symm) (vI HG.out.symm), E1⟩
  · have q : (storeErr l != 0) = true := by simp [he]
    have HV := hid (show getV l key = 0 by simp [getV, he])
    have HG := hid (show getE l key = storeErr l by simp [getE, he])
    clear he
    go_enter Tryd.func79, Tryd.ntmps79
    go_wp2_with fail
    refine (scheck_any _ l _ hv hk).mono ?_
    rintro e w1 ⟨rfl, E1⟩
    go_wp2
    go_ret2
    exact ⟨rT2 (vI HV.out.symm) (vI HG.out.symm), E1⟩
def putE (l : Prs) (key : ByteArray) (n : Int) : Int := if storeErr l ≠ 0 then storeErr l else if keyB key = false then 3 else if valB n then 0 else 1
set_option maxRecDepth 10000 in
theorem put_bad (v : Value) (l : Prs) (key : ByteArray) (n : Int) (w : World) (hv : Seg w v 2 l.length (cP l)) (hk : ∀ p ∈ l, p.1.size ≤ 9223372036854775807) (hks : key.size ≤ 9223372036854775807) (hp : putE l key n ≠ 0) :
    Calls Tryd.prog 80 #[v, .string key, .int .i64 n] w fun e w' => e = .returned (.tuple #[.slice none 0 0, .int .i64 (putE l key n)]) ∧ Ext w w' := by
  by_cases he : storeErr l = 0
  · have q : (storeErr l != 0) = false := by simp [he]
    have HE := hid he
    clear he
    cases hkb : keyB key with
    | true =>
      have hvb : valB n = false := by
        cases h : valB n with
        | false => rfl
        | true => simp [putE, HE.out, hkb, h] at hp
      have HG := hid (show putE l key n = 1 by simp [putE, HE.out, hkb, hvb])
      clear hp
      go_enter Tryd.func80, Tryd.ntmps80
      go_wp2_with fail
      refine (scheck_any _ l _ hv hk).mono ?_
      rintro e w1 ⟨rfl, E1⟩
      go_wp2_with fail
      refine (key_any _ _ hks).mono ?_
      rintro e w' ⟨rfl, rfl⟩
      go_wp2_with fail
      refine (value_any _ _).mono ?_
      rintro e w' ⟨rfl, rfl⟩
      go_wp2
      go_ret2
      exact ⟨rT2 rfl (vI HG.out.symm), E1⟩
    | false =>
      have HG := hid (show putE l key n = 3 by simp [putE, HE.out, hkb])
      clear hp
      go_enter Tryd.func80, Tryd.ntmps80
      go_wp2_with fail
      refine (scheck_any _ l _ hv hk).mono ?_
      rintro e w1 ⟨rfl, E1⟩
      go_wp2_with fail
      refine (key_any _ _ hks).mono ?_
      rintro e w' ⟨rfl, rfl⟩
      go_wp2
      go_ret2
      exact ⟨rT2 rfl (vI HG.out.symm), E1⟩
  · have q : (storeErr l != 0) = true := by simp [he]
    have HG := hid (show putE l key n = storeErr l by simp [putE, he])
    clear he hp
    go_enter Tryd.func80, Tryd.ntmps80
    go_wp2_with fail
    refine (scheck_any _ l _ hv hk).mono ?_
    rintro e w1 ⟨rfl, E1⟩
    go_wp2
    go_ret2
    exact ⟨rT2 rfl (vI HG.out.symm), E1⟩
set_option maxRecDepth 10000 in
theorem put_ok (v : Value) (l : Prs) (key : ByteArray) (n : Int) (w : World) (hv : Seg w v 2 l.length (cP l)) (hk : ∀ p ∈ l, p.1.size ≤ 9223372036854775807) (hks : key.size ≤ 9223372036854775807) (hlen : l.length ≤ 1000000)
    (ok : StoreOk l) (hkb : keyB key = true) (hvb : valB n = true) :
    Calls Tryd.prog 80 #[v, .string key, .int .i64 n] w fun e w' => ∃ v', e = .returned (.tuple #[v', .int .i64 0]) ∧ w'.ownsRow w.heap.size 107 2 v' (withP l key n).length (cP (withP l key n)) ∧ Ext w w' := by
  have hs := ok.srt
  have q : (storeErr l != 0) = false := by simp [storeErr_ok ok]
  go_enter Tryd.func80, Tryd.ntmps80
  go_wp2_with fail
  refine (scheck_any _ l _ hv hk).mono ?_
  rintro e w1 ⟨rfl, E1⟩
  go_wp2_with fail
  refine (key_any _ _ hks).mono ?_
  rintro e w' ⟨rfl, rfl⟩
  go_wp2_with fail
  refine (value_any _ _).mono ?_
  rintro e w' ⟨rfl, rfl⟩
  go_wp2_with fail
  refine (with_any _ l key n _ (hv.ext E1) hs hlen).mono ?_
  rintro e w2 ⟨v', rfl, ho, E2⟩
  go_wp2
  go_ret2
  exact ⟨_, rfl, own_base ho E1.size', E1.trans E2⟩
end Go.Proofs.YtijcckhkofkenaaDoor
