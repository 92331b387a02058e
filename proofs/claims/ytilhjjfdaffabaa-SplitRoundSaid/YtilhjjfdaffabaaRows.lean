/-
  No cell of these rows narrows 'for every input' (looked for: loops, veiled, ifaces, maps, wideKeys, modest, calm, conditions, laid).
  DERIVED. THE GIVEN ROWS OF THIS SEAT. 7 by the template 'for every input the law returns true; each argument reads behind the call as it read before'; 0 by the template 'total and deterministic' (their statements: YtilhjjfdaffabaaTotals.lean).
  GIVEN WITH THE SEED: the statements are not yours to turn. If you find one false, say at which input.
  Laid BY PROGRAM, IN A SANDBOX (cutbox-rows.mjs): the forced cells as the released guide's own fill.sh prints them over the translation a3f8f188d63174cb… (all of the seat's roots in one cut). By AI agents, Wed Nov 11 2026. No macro, syntax, notation, axiom, sorry.
-/
import Derived.Test.YtilhjjfdaffabaaChecked
import GoSem.Claim
import GoSem.ClaimJoined
import GoSem.ClaimMapViews
import Derived.JoinedTies
import Derived.KernelRfl
namespace Go.Proofs.Ytilhjjfdaffabaa
/- THE CELL 'sum', in the pinned program and in every row, IS THE sha256 OF THE DUMP (.gsa) THAT YtilhjjfdaffabaaProg.lean LOADS. Nothing in Lean hashes anything: it is a label: what it is worth is what the hold of that sum in a sandbox is worth. -/
noncomputable def Try.pinned : Pinned := { name := "ytilhjjfdaffabaa", sum := "a3f8f188d63174cb891352f62ccc43e6c55ae2736f4447de93eb7caa3e4235d5", checked := Try.checked }
namespace Rows
def none {H : Type} : Left H := { results := [], args := [] }

/-- 'penstocklaw16.SplitMakes': WHATEVER THE INPUT: true; the input reads as it did. -/
def splitMakesSpec : ChangeSpec := { name := "splitMakes", fn := fun _ => fun
  | [d] => { results := [.lit (.bool true)], args := [d] }
  | _ => none }
def splitMakesRow : OpenClaim := { program := "ytilhjjfdaffabaa", sum := "a3f8f188d63174cb891352f62ccc43e6c55ae2736f4447de93eb7caa3e4235d5", func := "penstock/penstocklaw16.SplitMakes", spec := "splitMakes", unfollowed := true, recurses := true, apart := false }
def SplitMakesSaid : Prop := splitMakesRow.holds Try.pinned (OpenSpec.ofChange splitMakesSpec)

/-- ITS FALSE NEIGHBOUR: 'it returns false'. Refute it at one input. -/
def splitMakesWrong : ChangeSpec := { name := "splitMakes", fn := fun _ => fun
  | [d] => { results := [.lit (.bool false)], args := [d] }
  | _ => none }
def SplitMakesWrongFalsely : Prop := splitMakesRow.holds Try.pinned (OpenSpec.ofChange splitMakesWrong)

/-- 'penstocklaw16.SplitMeans': WHATEVER THE INPUT: true; the input reads as it did. -/
def splitMeansSpec : ChangeSpec := { name := "splitMeans", fn := fun _ => fun
  | [d1, d2, d3] => { results := [.lit (.bool true)], args := [d1, d2, d3] }
  | _ => none }
def splitMeansRow : OpenClaim := { program := "ytilhjjfdaffabaa", sum := "a3f8f188d63174cb891352f62ccc43e6c55ae2736f4447de93eb7caa3e4235d5", func := "penstock/penstocklaw16.SplitMeans", spec := "splitMeans", unfollowed := true, recurses := true, apart := false }
def SplitMeansSaid : Prop := splitMeansRow.holds Try.pinned (OpenSpec.ofChange splitMeansSpec)

/-- ITS FALSE NEIGHBOUR: 'it returns false'. Refute it at one input. -/
def splitMeansWrong : ChangeSpec := { name := "splitMeans", fn := fun _ => fun
  | [d1, d2, d3] => { results := [.lit (.bool false)], args := [d1, d2, d3] }
  | _ => none }
def SplitMeansWrongFalsely : Prop := splitMeansRow.holds Try.pinned (OpenSpec.ofChange splitMeansWrong)

/-- 'penstocklaw16.SplitHolds': WHATEVER THE INPUT: true; the input reads as it did. -/
def splitHoldsSpec : ChangeSpec := { name := "splitHolds", fn := fun _ => fun
  | [d1, d2, d3] => { results := [.lit (.bool true)], args := [d1, d2, d3] }
  | _ => none }
def splitHoldsRow : OpenClaim := { program := "ytilhjjfdaffabaa", sum := "a3f8f188d63174cb891352f62ccc43e6c55ae2736f4447de93eb7caa3e4235d5", func := "penstock/penstocklaw16.SplitHolds", spec := "splitHolds", unfollowed := true, recurses := true, apart := false }
def SplitHoldsSaid : Prop := splitHoldsRow.holds Try.pinned (OpenSpec.ofChange splitHoldsSpec)

/-- ITS FALSE NEIGHBOUR: 'it returns false'. Refute it at one input. -/
def splitHoldsWrong : ChangeSpec := { name := "splitHolds", fn := fun _ => fun
  | [d1, d2, d3] => { results := [.lit (.bool false)], args := [d1, d2, d3] }
  | _ => none }
def SplitHoldsWrongFalsely : Prop := splitHoldsRow.holds Try.pinned (OpenSpec.ofChange splitHoldsWrong)

/-- 'penstocklaw16.SplitRefuses': WHATEVER THE INPUT: true; the input reads as it did. -/
def splitRefusesSpec : ChangeSpec := { name := "splitRefuses", fn := fun _ => fun
  | [d1, d2, d3, d4, d5] => { results := [.lit (.bool true)], args := [d1, d2, d3, d4, d5] }
  | _ => none }
def splitRefusesRow : OpenClaim := { program := "ytilhjjfdaffabaa", sum := "a3f8f188d63174cb891352f62ccc43e6c55ae2736f4447de93eb7caa3e4235d5", func := "penstock/penstocklaw16.SplitRefuses", spec := "splitRefuses", unfollowed := true, recurses := true, apart := false }
def SplitRefusesSaid : Prop := splitRefusesRow.holds Try.pinned (OpenSpec.ofChange splitRefusesSpec)

/-- ITS FALSE NEIGHBOUR: 'it returns false'. Refute it at one input. -/
def splitRefusesWrong : ChangeSpec := { name := "splitRefuses", fn := fun _ => fun
  | [d1, d2, d3, d4, d5] => { results := [.lit (.bool false)], args := [d1, d2, d3, d4, d5] }
  | _ => none }
def SplitRefusesWrongFalsely : Prop := splitRefusesRow.holds Try.pinned (OpenSpec.ofChange splitRefusesWrong)

/-- 'penstocklaw16.SplitChunks': WHATEVER THE INPUT: true; the input reads as it did. -/
def splitChunksSpec : ChangeSpec := { name := "splitChunks", fn := fun _ => fun
  | [d1, d2, d3, d4] => { results := [.lit (.bool true)], args := [d1, d2, d3, d4] }
  | _ => none }
def splitChunksRow : OpenClaim := { program := "ytilhjjfdaffabaa", sum := "a3f8f188d63174cb891352f62ccc43e6c55ae2736f4447de93eb7caa3e4235d5", func := "penstock/penstocklaw16.SplitChunks", spec := "splitChunks", unfollowed := true, recurses := true, apart := false }
def SplitChunksSaid : Prop := splitChunksRow.holds Try.pinned (OpenSpec.ofChange splitChunksSpec)

/-- ITS FALSE NEIGHBOUR: 'it returns false'. Refute it at one input. -/
def splitChunksWrong : ChangeSpec := { name := "splitChunks", fn := fun _ => fun
  | [d1, d2, d3, d4] => { results := [.lit (.bool false)], args := [d1, d2, d3, d4] }
  | _ => none }
def SplitChunksWrongFalsely : Prop := splitChunksRow.holds Try.pinned (OpenSpec.ofChange splitChunksWrong)

/-- 'penstocklaw16.SplitGrows': WHATEVER THE INPUT: true; the input reads as it did. -/
def splitGrowsSpec : ChangeSpec := { name := "splitGrows", fn := fun _ => fun
  | [d1, d2, d3, d4, d5] => { results := [.lit (.bool true)], args := [d1, d2, d3, d4, d5] }
  | _ => none }
def splitGrowsRow : OpenClaim := { program := "ytilhjjfdaffabaa", sum := "a3f8f188d63174cb891352f62ccc43e6c55ae2736f4447de93eb7caa3e4235d5", func := "penstock/penstocklaw16.SplitGrows", spec := "splitGrows", unfollowed := true, recurses := true, apart := false }
def SplitGrowsSaid : Prop := splitGrowsRow.holds Try.pinned (OpenSpec.ofChange splitGrowsSpec)

/-- ITS FALSE NEIGHBOUR: 'it returns false'. Refute it at one input. -/
def splitGrowsWrong : ChangeSpec := { name := "splitGrows", fn := fun _ => fun
  | [d1, d2, d3, d4, d5] => { results := [.lit (.bool false)], args := [d1, d2, d3, d4, d5] }
  | _ => none }
def SplitGrowsWrongFalsely : Prop := splitGrowsRow.holds Try.pinned (OpenSpec.ofChange splitGrowsWrong)

/-- 'penstocklaw16.SplitRound': WHATEVER THE INPUT: true; the input reads as it did. -/
def splitRoundSpec : ChangeSpec := { name := "splitRound", fn := fun _ => fun
  | [d1, d2, d3] => { results := [.lit (.bool true)], args := [d1, d2, d3] }
  | _ => none }
def splitRoundRow : OpenClaim := { program := "ytilhjjfdaffabaa", sum := "a3f8f188d63174cb891352f62ccc43e6c55ae2736f4447de93eb7caa3e4235d5", func := "penstock/penstocklaw16.SplitRound", spec := "splitRound", unfollowed := true, recurses := true, apart := false }
def SplitRoundSaid : Prop := splitRoundRow.holds Try.pinned (OpenSpec.ofChange splitRoundSpec)

/-- ITS FALSE NEIGHBOUR: 'it returns false'. Refute it at one input. -/
def splitRoundWrong : ChangeSpec := { name := "splitRound", fn := fun _ => fun
  | [d1, d2, d3] => { results := [.lit (.bool false)], args := [d1, d2, d3] }
  | _ => none }
def SplitRoundWrongFalsely : Prop := splitRoundRow.holds Try.pinned (OpenSpec.ofChange splitRoundWrong)

/- THE SECOND FORM. 'bulk': how many values and letters a reading holds, each counted each time it is reached (what is shared counts as often as it is met; a slice's spare places count too). A statement '..UptoSaid' is the law's where the arguments, and the package variables that the reading takes, are together of bulk at most 1048576: NARROWER than '..Said'. Prove '..Said' where nothing that the law and all that it calls make is longer than what came in: it says more and counts as full. Else prove '..UptoSaid'. A law counts once. -/
mutual
def uptoBulk {H : Type} : DataW H → Nat
  | .lit (.string bytes) => bytes.length + 1
  | .lit _ => 1
  | .nil => 1
  | .ptr d => uptoBulk d + 1
  | .slice elems spare => uptoBulkAll elems + uptoBulkAll spare + 1
  | .agg parts => uptoBulkAll parts + 1
  | .iface _ d => uptoBulk d + 1
  | .map entries => uptoBulkEntries entries + 1
  | .held _ => 1
def uptoBulkAll {H : Type} : List (DataW H) → Nat
  | [] => 0
  | d :: r => uptoBulk d + uptoBulkAll r
def uptoBulkEntries {H : Type} : List (Lit × DataW H) → Nat
  | [] => 0
  | x :: r => uptoBulkEntry x + uptoBulkEntries r
def uptoBulkEntry {H : Type} : Lit × DataW H → Nat
  | (.string bytes, d) => bytes.length + uptoBulk d + 1
  | (_, d) => uptoBulk d + 1
 end
def uptoSmall : (H : Type) → List (DataW H) → Bool := fun _ ds => decide (uptoBulkAll ds ≤ 1048576)
def OpenSpec.upto (s : _root_.Go.ChangeSpec) : _root_.Go.OpenSpec := { _root_.Go.OpenSpec.ofChange s with cond := some uptoSmall }

/-- 'penstocklaw16.SplitMakes', WHERE WHAT IT READS IS OF BULK AT MOST 1048576: true; the input reads as it did. -/
def splitMakesUptoRow : OpenClaim := { program := "ytilhjjfdaffabaa", sum := "a3f8f188d63174cb891352f62ccc43e6c55ae2736f4447de93eb7caa3e4235d5", func := "penstock/penstocklaw16.SplitMakes", spec := "splitMakes", unfollowed := true, recurses := true, apart := false, narrowed := true }
def SplitMakesUptoSaid : Prop := splitMakesUptoRow.holds Try.pinned (OpenSpec.upto splitMakesSpec)

/-- 'penstocklaw16.SplitMeans', WHERE WHAT IT READS IS OF BULK AT MOST 1048576: true; the input reads as it did. -/
def splitMeansUptoRow : OpenClaim := { program := "ytilhjjfdaffabaa", sum := "a3f8f188d63174cb891352f62ccc43e6c55ae2736f4447de93eb7caa3e4235d5", func := "penstock/penstocklaw16.SplitMeans", spec := "splitMeans", unfollowed := true, recurses := true, apart := false, narrowed := true }
def SplitMeansUptoSaid : Prop := splitMeansUptoRow.holds Try.pinned (OpenSpec.upto splitMeansSpec)

/-- 'penstocklaw16.SplitHolds', WHERE WHAT IT READS IS OF BULK AT MOST 1048576: true; the input reads as it did. -/
def splitHoldsUptoRow : OpenClaim := { program := "ytilhjjfdaffabaa", sum := "a3f8f188d63174cb891352f62ccc43e6c55ae2736f4447de93eb7caa3e4235d5", func := "penstock/penstocklaw16.SplitHolds", spec := "splitHolds", unfollowed := true, recurses := true, apart := false, narrowed := true }
def SplitHoldsUptoSaid : Prop := splitHoldsUptoRow.holds Try.pinned (OpenSpec.upto splitHoldsSpec)

/-- 'penstocklaw16.SplitRefuses', WHERE WHAT IT READS IS OF BULK AT MOST 1048576: true; the input reads as it did. -/
def splitRefusesUptoRow : OpenClaim := { program := "ytilhjjfdaffabaa", sum := "a3f8f188d63174cb891352f62ccc43e6c55ae2736f4447de93eb7caa3e4235d5", func := "penstock/penstocklaw16.SplitRefuses", spec := "splitRefuses", unfollowed := true, recurses := true, apart := false, narrowed := true }
def SplitRefusesUptoSaid : Prop := splitRefusesUptoRow.holds Try.pinned (OpenSpec.upto splitRefusesSpec)

/-- 'penstocklaw16.SplitChunks', WHERE WHAT IT READS IS OF BULK AT MOST 1048576: true; the input reads as it did. -/
def splitChunksUptoRow : OpenClaim := { program := "ytilhjjfdaffabaa", sum := "a3f8f188d63174cb891352f62ccc43e6c55ae2736f4447de93eb7caa3e4235d5", func := "penstock/penstocklaw16.SplitChunks", spec := "splitChunks", unfollowed := true, recurses := true, apart := false, narrowed := true }
def SplitChunksUptoSaid : Prop := splitChunksUptoRow.holds Try.pinned (OpenSpec.upto splitChunksSpec)

/-- 'penstocklaw16.SplitGrows', WHERE WHAT IT READS IS OF BULK AT MOST 1048576: true; the input reads as it did. -/
def splitGrowsUptoRow : OpenClaim := { program := "ytilhjjfdaffabaa", sum := "a3f8f188d63174cb891352f62ccc43e6c55ae2736f4447de93eb7caa3e4235d5", func := "penstock/penstocklaw16.SplitGrows", spec := "splitGrows", unfollowed := true, recurses := true, apart := false, narrowed := true }
def SplitGrowsUptoSaid : Prop := splitGrowsUptoRow.holds Try.pinned (OpenSpec.upto splitGrowsSpec)

/-- 'penstocklaw16.SplitRound', WHERE WHAT IT READS IS OF BULK AT MOST 1048576: true; the input reads as it did. -/
def splitRoundUptoRow : OpenClaim := { program := "ytilhjjfdaffabaa", sum := "a3f8f188d63174cb891352f62ccc43e6c55ae2736f4447de93eb7caa3e4235d5", func := "penstock/penstocklaw16.SplitRound", spec := "splitRound", unfollowed := true, recurses := true, apart := false, narrowed := true }
def SplitRoundUptoSaid : Prop := splitRoundUptoRow.holds Try.pinned (OpenSpec.upto splitRoundSpec)

end Rows
end Go.Proofs.Ytilhjjfdaffabaa
