/- Contracts and lemmas for the proof of ShardFind; each theorem states its own conditions. -/
import Derived.Test.YtnepdfpooobmcaaDoorQShardFindbp
import Derived.Test.YtnepdfpooobmcaaDoorQShardFindbq
import Derived.Test.YtnepdfpooobmcaaDoorQShardFindan
import Derived.Test.YtnepdfpooobmcaaDoorQShardFindbr
set_option linter.unusedVariables false
set_option linter.unusedSimpArgs false
/- Contracts and lemmas for the proofs of this seat; each theorem states its own conditions. -/
namespace Go.Proofs.YtnepdfpooobmcaaDoor
open Go.RowKit
theorem find_ok (v : Value) (C : List ByteArray) (O : List Int) (key : ByteArray) (w : World) (hv : IsMap w v C O) (ok : MapOk C O) (hk : ∀ k ∈ C, k.size ≤ 9223372036854775807) (hkb : keyB key = true) :
    Calls Tryd.prog 28 #[v, .string key] w fun e w' => e = .returned (.tuple #[.int .i64 (whose C O key), .int .i64 0]) ∧ Ext w w' := by
  have h := find_any v C O key w hv hk (by have := keyB_size hkb; omega)
  have e1 : findV C O key = whose C O key := by simp [findV, mapErr_ok ok, hkb]
  have e2 : findE C O key = 0 := by simp [findE, mapErr_ok ok, hkb]
  rw [e1, e2] at h
  exact h
end Go.Proofs.YtnepdfpooobmcaaDoor
