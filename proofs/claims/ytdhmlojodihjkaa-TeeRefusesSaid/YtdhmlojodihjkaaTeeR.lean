/- tee refuses what is not due. -/
import Derived.Test.YtdhmlojodihjkaaTeeK
import Derived.Test.YtdhmlojodihjkaaPoke0
namespace Go.Proofs.Ytdhmlojodihjkaa.Tee
open Go Go.RowKit
def RR (_ : M.σ) : Prop := True
theorem rr : Refuse M RR := refuse_tee
theorem rr0 (n : Int) : RR (s0 n) := trivial
end Go.Proofs.Ytdhmlojodihjkaa.Tee
