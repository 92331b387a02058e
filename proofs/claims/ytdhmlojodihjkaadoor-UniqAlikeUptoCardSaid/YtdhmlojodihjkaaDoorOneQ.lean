/- One input. -/
import Derived.Test.YtdhmlojodihjkaaDoorChk3
import Derived.Test.YtdhmlojodihjkaaDoorReady
namespace Go.Proofs.YtdhmlojodihjkaaDoor
open Go Go.RowKit

/-- One input. -/
def only (ins : List Strm) : Strm := ins.headD ⟨[], false, 0, 0, 0⟩
theorem only_of {ins : List Strm} (h : ins.length = 1) : ins = [only ins] := by
  obtain ⟨s, rfl⟩ := List.length_eq_one_iff.1 h
  rfl
end Go.Proofs.YtdhmlojodihjkaaDoor
