/- Two texts, one behind the other. -/
import Derived.Test.YtkgmbomfkdkofaaStrm
namespace Go.Proofs.Ytkgmbomfkdkofaa
open Go Go.RowKit
theorem run_cat2 (a b : Bs) (ha : a.length ≤ 100000) (hb : b.length ≤ 100000) (W : World) : (Op.stringOp .add ⟨a.toArray⟩ ⟨b.toArray⟩).run Try.prog W = .ok (strv (a ++ b)) W := by
  rw [run_string_add_sum W _ _ (by simp [ByteArray.size]; omega), ByteArray.mk_append_mk]
end Go.Proofs.Ytkgmbomfkdkofaa
