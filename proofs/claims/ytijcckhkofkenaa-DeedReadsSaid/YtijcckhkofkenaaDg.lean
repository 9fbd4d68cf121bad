/- Contracts and lemmas for the proofs of this seat; each theorem states its own conditions. -/
import Derived.Test.YtijcckhkofkenaaD7
import Derived.Test.YtijcckhkofkenaaDs
import Derived.Test.YtijcckhkofkenaaS6
namespace Go.Proofs.Ytijcckhkofkenaa
open Go.RowKit
/-! store.Get, store.Put at stores and keys that may be; a deed that may not be done -/
theorem get_ok (v : Value) (l : Prs) (key : ByteArray) (w : World) (hv : Seg w v 2 l.length (cP l)) (ok : StoreOk l) (hk : keyB key = true) (hlen : l.length < 1000000000) :
    Calls Try.prog 60 #[v, .string key] w fun e w' => e = .returned (.tuple #[.int .i64 (valP l key), .int .i64 0]) ∧ Ext w w' := by
  have h := get_any v l key w hv (store_small ok) (by have := keyB_size hk; omega) hlen
  have e1 : getV l key = valP l key := by simp [getV, storeErr_ok ok, hk]
  have e2 : getE l key = 0 := by simp [getE, storeErr_ok ok, hk]
  rw [e1, e2] at h
  exact h
theorem put_ok' (v : Value) (l : Prs) (key : ByteArray) (n : Int) (w : World) (hv : Seg w v 2 l.length (cP l)) (hlen : l.length ≤ 1000000) (ok : StoreOk l) (hkb : keyB key = true) (hn : -1000000000 ≤ n ∧ n ≤ 1000000000) :
    Calls Try.prog 59 #[v, .string key, .int .i64 n] w fun e w' => ∃ v', e = .returned (.tuple #[v', .int .i64 0]) ∧ w'.ownsRow w.heap.size 90 2 v' (withP l key n).length (cP (withP l key n)) ∧ Ext w w' :=
  put_ok v l key n w hv (store_small ok) (by have := keyB_size hkb; omega) hlen ok hkb (valB_iff.2 hn)
theorem run_off {l : Prs} {d : Ops} (h : runB l d = false) : runS l d = l := by
  unfold runB at h
  unfold runS
  cases e : runP l d with
  | none => rfl
  | some l' => rw [e] at h; cases h
theorem run_keepS {l : Prs} (h : StoreOk l) {d : Ops} (hd : DeedOk d) {k : ByteArray} (hk : valP l k ≠ valP (runS l d) k) : k ∈ wrs d := by
  refine Classical.byContradiction fun hn => hk ?_
  rw [(run_val h hd.ops).2.1]
  exact (step_keep hd.ops _ hn).symm
theorem keysL_at (k : Nat) (h : k < keysL.length) : keyB keysL[k] = true := keysL_key _ (List.getElem_mem h)
end Go.Proofs.Ytijcckhkofkenaa
