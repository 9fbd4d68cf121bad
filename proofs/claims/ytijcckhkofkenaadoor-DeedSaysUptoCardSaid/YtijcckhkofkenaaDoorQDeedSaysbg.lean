/- Contracts and lemmas for the proof of DeedSays; each theorem states its own conditions. -/
import Derived.Test.YtijcckhkofkenaaDoorQDeedSaysaa
import Derived.Laws.IdiomCopy
set_option linter.unusedVariables false
set_option linter.unusedSimpArgs false
/- Contracts and lemmas for the proofs of this seat; each theorem states its own conditions. -/
namespace Go.Proofs.YtijcckhkofkenaaDoor
open Go.RowKit
/-! Many cells written in one block -/
def putL (cur : Array Value) (o : Nat) : List Value → Array Value
  | [] => cur
  | v :: r => putL (cur.setIfInBounds o v) (o + 1) r
theorem putL_size : ∀ (vs : List Value) (cur : Array Value) (o : Nat), (putL cur o vs).size = cur.size
  | [], _, _ => rfl
  | _ :: r, cur, o => by rw [putL, putL_size r]; simp
theorem putL_eq : ∀ (vs : List Value) (cur : Array Value) (o : Nat), o + vs.length ≤ cur.size → (putL cur o vs).toList = cur.toList.take o ++ vs ++ cur.toList.drop (o + vs.length)
  | [], cur, o, _ => by simp [putL]
  | v :: r, cur, o, h => by
    simp only [List.length_cons] at h
    rw [putL, putL_eq r _ _ (by simp; omega), Array.toList_setIfInBounds, List.set_eq_take_append_cons_drop, if_pos (by simp; omega)]
    have e1 : (cur.toList.take o).length = o := by simp; omega
    have e2 : o + 1 - o = 1 := by omega
    have e3 : o + 1 + r.length - o = r.length + 1 := by omega
    rw [List.take_append, List.drop_append, e1, e2, e3, List.take_of_length_le (by omega), @List.drop_eq_nil_of_le _ (cur.toList.take o) _ (by omega)]
    simp [Nat.add_assoc, Nat.add_comm 1]
theorem setCells_heap (b : Nat) (t : TypeId) (fr : Nat × Nat) : ∀ (vs : List Value) (o : Nat) (w : World) (cur : Array Value), w.heap[b]? = some (.cells cur t fr) → (w.setCells b o vs).heap[b]? = some (.cells (putL cur o vs) t fr)
  | [], _, _, _, h => h
  | v :: r, o, w, cur, h => setCells_heap b t fr r (o + 1) _ _ (by simp [World.setCell, Array.getElem?_modify, h])
theorem ext_setCells {B b : Nat} {a : World} (hb : B ≤ b) : ∀ (vs : List Value) (o : Nat) (w : World), Below B a w → Below B a (w.setCells b o vs)
  | [], _, _, h => h
  | v :: r, o, w, h => ext_setCells hb r (o + 1) _ (Below.setCell h hb v)
theorem setCells_other {b k : Nat} (hk : k ≠ b) : ∀ (vs : List Value) (o : Nat) (w : World), (w.setCells b o vs).heap[k]? = w.heap[k]?
  | [], _, _ => rfl
  | v :: r, o, w => (setCells_other hk r (o + 1) _).trans (Below.heap_setCell _ _ _ _ (fun e => hk e))
end Go.Proofs.YtijcckhkofkenaaDoor
