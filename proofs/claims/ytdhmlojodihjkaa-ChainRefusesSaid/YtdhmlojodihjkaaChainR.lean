/- chain refuses what is not due. -/
import Derived.Test.YtdhmlojodihjkaaChainK
import Derived.Test.YtdhmlojodihjkaaPoke0
namespace Go.Proofs.Ytdhmlojodihjkaa.Chain
open Go Go.RowKit
def RR (s : M.σ) : Prop := s.over = true ∨ 0 ≤ s.at_
theorem rr : Refuse M RR := refuse_chain
theorem rr0 (n : Int) : RR (s0 n) := .inr (Int.le_refl 0)
end Go.Proofs.Ytdhmlojodihjkaa.Chain
