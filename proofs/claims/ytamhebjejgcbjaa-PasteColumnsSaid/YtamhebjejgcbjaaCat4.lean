/- Long texts, one behind the other. -/
import Derived.Test.YtamhebjejgcbjaaCat
namespace Go.Proofs.Ytamhebjejgcbjaa
open Go Go.RowKit
theorem run_cat4 (a b : Bs) (ha : a.length ≤ 1000000000) (hb : b.length ≤ 1000000000) (W : World) : (Op.stringOp .add ⟨a.toArray⟩ ⟨b.toArray⟩).run Try.prog W = .ok (strv (a ++ b)) W := by
  rw [run_string_add_sum W _ _ (by simp [ByteArray.size]; omega), ByteArray.mk_append_mk]
end Go.Proofs.Ytamhebjejgcbjaa
