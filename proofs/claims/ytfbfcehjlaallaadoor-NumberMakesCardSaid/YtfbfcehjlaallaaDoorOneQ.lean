/- One input. -/
import Derived.Test.YtfbfcehjlaallaaDoorChk2
import Derived.Test.YtfbfcehjlaallaaDoorReady
namespace Go.Proofs.YtfbfcehjlaallaaDoor
open Go Go.RowKit

/-- One input. -/
def only (ins : List Strm) : Strm := ins.headD ⟨[], false, 0, 0, 0⟩
theorem only_of {ins : List Strm} (h : ins.length = 1) : ins = [only ins] := by
  obtain ⟨s, rfl⟩ := List.length_eq_one_iff.1 h
  rfl
end Go.Proofs.YtfbfcehjlaallaaDoor
