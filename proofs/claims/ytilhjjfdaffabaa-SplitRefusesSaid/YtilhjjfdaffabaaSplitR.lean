/- split refuses what is not due. -/
import Derived.Test.YtilhjjfdaffabaaSplitK
import Derived.Test.YtilhjjfdaffabaaPoke0
namespace Go.Proofs.Ytilhjjfdaffabaa.Split
open Go Go.RowKit
def RR (_ : M.σ) : Prop := True
theorem rr : Refuse M RR := refuse_lines turnK
theorem rr0 (n : Int) : RR (s0 n) := trivial
end Go.Proofs.Ytilhjjfdaffabaa.Split
