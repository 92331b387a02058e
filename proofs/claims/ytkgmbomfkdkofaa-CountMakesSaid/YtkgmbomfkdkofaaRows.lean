/-
  No cell of these rows narrows 'for every input' (looked for: loops, veiled, ifaces, maps, wideKeys, modest, calm, conditions, laid).
  DERIVED. THE GIVEN ROWS OF THIS SEAT. 5 by the template 'for every input the law returns true; each argument reads behind the call as it read before'; 0 by the template 'total and deterministic' (their statements: YtkgmbomfkdkofaaTotals.lean).
  GIVEN WITH THE SEED: the statements are not yours to turn. If you find one false, say at which input.
  Laid BY PROGRAM, IN A SANDBOX (cutbox-rows.mjs): the forced cells as the released guide's own fill.sh prints them over the translation 3ead264234e98961… (all of the seat's roots in one cut). By AI agents, Wed Nov 11 2026. No macro, syntax, notation, axiom, sorry.
-/
import Derived.Test.YtkgmbomfkdkofaaChecked
import GoSem.Claim
import GoSem.ClaimJoined
import GoSem.ClaimMapViews
import Derived.JoinedTies
import Derived.KernelRfl
namespace Go.Proofs.Ytkgmbomfkdkofaa
/- THE CELL 'sum', in the pinned program and in every row, IS THE sha256 OF THE DUMP (.gsa) THAT YtkgmbomfkdkofaaProg.lean LOADS. Nothing in Lean hashes anything: it is a label: what it is worth is what the hold of that sum in a sandbox is worth. -/
noncomputable def Try.pinned : Pinned := { name := "ytkgmbomfkdkofaa", sum := "3ead264234e98961f4000e012237ac9647c197a52e62802de966debf90160967", checked := Try.checked }
namespace Rows
def none {H : Type} : Left H := { results := [], args := [] }

/-- 'penstocklaw10.CountMakes': WHATEVER THE INPUT: true; the input reads as it did. -/
def countMakesSpec : ChangeSpec := { name := "countMakes", fn := fun _ => fun
  | [d] => { results := [.lit (.bool true)], args := [d] }
  | _ => none }
def countMakesRow : OpenClaim := { program := "ytkgmbomfkdkofaa", sum := "3ead264234e98961f4000e012237ac9647c197a52e62802de966debf90160967", func := "penstock/penstocklaw10.CountMakes", spec := "countMakes", unfollowed := true, recurses := true, apart := false }
def CountMakesSaid : Prop := countMakesRow.holds Try.pinned (OpenSpec.ofChange countMakesSpec)

/-- ITS FALSE NEIGHBOUR: 'it returns false'. Refute it at one input. -/
def countMakesWrong : ChangeSpec := { name := "countMakes", fn := fun _ => fun
  | [d] => { results := [.lit (.bool false)], args := [d] }
  | _ => none }
def CountMakesWrongFalsely : Prop := countMakesRow.holds Try.pinned (OpenSpec.ofChange countMakesWrong)

/-- 'penstocklaw14.JoinMakes': WHATEVER THE INPUT: true; the input reads as it did. -/
def joinMakesSpec : ChangeSpec := { name := "joinMakes", fn := fun _ => fun
  | [d] => { results := [.lit (.bool true)], args := [d] }
  | _ => none }
def joinMakesRow : OpenClaim := { program := "ytkgmbomfkdkofaa", sum := "3ead264234e98961f4000e012237ac9647c197a52e62802de966debf90160967", func := "penstock/penstocklaw14.JoinMakes", spec := "joinMakes", unfollowed := true, recurses := true, apart := false }
def JoinMakesSaid : Prop := joinMakesRow.holds Try.pinned (OpenSpec.ofChange joinMakesSpec)

/-- ITS FALSE NEIGHBOUR: 'it returns false'. Refute it at one input. -/
def joinMakesWrong : ChangeSpec := { name := "joinMakes", fn := fun _ => fun
  | [d] => { results := [.lit (.bool false)], args := [d] }
  | _ => none }
def JoinMakesWrongFalsely : Prop := joinMakesRow.holds Try.pinned (OpenSpec.ofChange joinMakesWrong)

/-- 'penstocklaw14.JoinMeans': WHATEVER THE INPUT: true; the input reads as it did. -/
def joinMeansSpec : ChangeSpec := { name := "joinMeans", fn := fun _ => fun
  | [d1, d2, d3] => { results := [.lit (.bool true)], args := [d1, d2, d3] }
  | _ => none }
def joinMeansRow : OpenClaim := { program := "ytkgmbomfkdkofaa", sum := "3ead264234e98961f4000e012237ac9647c197a52e62802de966debf90160967", func := "penstock/penstocklaw14.JoinMeans", spec := "joinMeans", unfollowed := true, recurses := true, apart := false }
def JoinMeansSaid : Prop := joinMeansRow.holds Try.pinned (OpenSpec.ofChange joinMeansSpec)

/-- ITS FALSE NEIGHBOUR: 'it returns false'. Refute it at one input. -/
def joinMeansWrong : ChangeSpec := { name := "joinMeans", fn := fun _ => fun
  | [d1, d2, d3] => { results := [.lit (.bool false)], args := [d1, d2, d3] }
  | _ => none }
def JoinMeansWrongFalsely : Prop := joinMeansRow.holds Try.pinned (OpenSpec.ofChange joinMeansWrong)

/-- 'penstocklaw14.JoinRefuses': WHATEVER THE INPUT: true; the input reads as it did. -/
def joinRefusesSpec : ChangeSpec := { name := "joinRefuses", fn := fun _ => fun
  | [d1, d2, d3, d4, d5] => { results := [.lit (.bool true)], args := [d1, d2, d3, d4, d5] }
  | _ => none }
def joinRefusesRow : OpenClaim := { program := "ytkgmbomfkdkofaa", sum := "3ead264234e98961f4000e012237ac9647c197a52e62802de966debf90160967", func := "penstock/penstocklaw14.JoinRefuses", spec := "joinRefuses", unfollowed := true, recurses := true, apart := false }
def JoinRefusesSaid : Prop := joinRefusesRow.holds Try.pinned (OpenSpec.ofChange joinRefusesSpec)

/-- ITS FALSE NEIGHBOUR: 'it returns false'. Refute it at one input. -/
def joinRefusesWrong : ChangeSpec := { name := "joinRefuses", fn := fun _ => fun
  | [d1, d2, d3, d4, d5] => { results := [.lit (.bool false)], args := [d1, d2, d3, d4, d5] }
  | _ => none }
def JoinRefusesWrongFalsely : Prop := joinRefusesRow.holds Try.pinned (OpenSpec.ofChange joinRefusesWrong)

/-- 'penstocklaw14.JoinPairs': WHATEVER THE INPUT: true; the input reads as it did. -/
def joinPairsSpec : ChangeSpec := { name := "joinPairs", fn := fun _ => fun
  | [d1, d2, d3, d4, d5] => { results := [.lit (.bool true)], args := [d1, d2, d3, d4, d5] }
  | _ => none }
def joinPairsRow : OpenClaim := { program := "ytkgmbomfkdkofaa", sum := "3ead264234e98961f4000e012237ac9647c197a52e62802de966debf90160967", func := "penstock/penstocklaw14.JoinPairs", spec := "joinPairs", unfollowed := true, recurses := true, apart := false }
def JoinPairsSaid : Prop := joinPairsRow.holds Try.pinned (OpenSpec.ofChange joinPairsSpec)

/-- ITS FALSE NEIGHBOUR: 'it returns false'. Refute it at one input. -/
def joinPairsWrong : ChangeSpec := { name := "joinPairs", fn := fun _ => fun
  | [d1, d2, d3, d4, d5] => { results := [.lit (.bool false)], args := [d1, d2, d3, d4, d5] }
  | _ => none }
def JoinPairsWrongFalsely : Prop := joinPairsRow.holds Try.pinned (OpenSpec.ofChange joinPairsWrong)

/- THE SECOND FORM. 'bulk': how many values and letters a reading holds, each counted each time it is reached (what is shared counts as often as it is met; a slice's spare places count too). A statement '..UptoSaid' is the law's where the arguments, and the package variables that the reading takes, are together of bulk at most 1048576: NARROWER than '..Said'. Prove '..Said' where nothing that the law and all that it calls make is longer than what came in: it says more and counts as full. Else prove '..UptoSaid'. A law counts once. -/
mutual
def uptoBulk {H : Type} : DataW H → Nat
  | .lit (.string bytes) => bytes.length + 1
  | .lit _ => 1
  | .nil => 1
  | .ptr d => uptoBulk d + 1
  | .slice elems spare => uptoBulkAll elems + uptoBulkAll spare + 1
  | .agg parts => uptoBulkAll parts + 1
  | .iface _ d => uptoBulk d + 1
  | .map entries => uptoBulkEntries entries + 1
  | .held _ => 1
def uptoBulkAll {H : Type} : List (DataW H) → Nat
  | [] => 0
  | d :: r => uptoBulk d + uptoBulkAll r
def uptoBulkEntries {H : Type} : List (Lit × DataW H) → Nat
  | [] => 0
  | x :: r => uptoBulkEntry x + uptoBulkEntries r
def uptoBulkEntry {H : Type} : Lit × DataW H → Nat
  | (.string bytes, d) => bytes.length + uptoBulk d + 1
  | (_, d) => uptoBulk d + 1
 end
def uptoSmall : (H : Type) → List (DataW H) → Bool := fun _ ds => decide (uptoBulkAll ds ≤ 1048576)
def OpenSpec.upto (s : _root_.Go.ChangeSpec) : _root_.Go.OpenSpec := { _root_.Go.OpenSpec.ofChange s with cond := some uptoSmall }

/-- 'penstocklaw10.CountMakes', WHERE WHAT IT READS IS OF BULK AT MOST 1048576: true; the input reads as it did. -/
def countMakesUptoRow : OpenClaim := { program := "ytkgmbomfkdkofaa", sum := "3ead264234e98961f4000e012237ac9647c197a52e62802de966debf90160967", func := "penstock/penstocklaw10.CountMakes", spec := "countMakes", unfollowed := true, recurses := true, apart := false, narrowed := true }
def CountMakesUptoSaid : Prop := countMakesUptoRow.holds Try.pinned (OpenSpec.upto countMakesSpec)

/-- 'penstocklaw14.JoinMakes', WHERE WHAT IT READS IS OF BULK AT MOST 1048576: true; the input reads as it did. -/
def joinMakesUptoRow : OpenClaim := { program := "ytkgmbomfkdkofaa", sum := "3ead264234e98961f4000e012237ac9647c197a52e62802de966debf90160967", func := "penstock/penstocklaw14.JoinMakes", spec := "joinMakes", unfollowed := true, recurses := true, apart := false, narrowed := true }
def JoinMakesUptoSaid : Prop := joinMakesUptoRow.holds Try.pinned (OpenSpec.upto joinMakesSpec)

/-- 'penstocklaw14.JoinMeans', WHERE WHAT IT READS IS OF BULK AT MOST 1048576: true; the input reads as it did. -/
def joinMeansUptoRow : OpenClaim := { program := "ytkgmbomfkdkofaa", sum := "3ead264234e98961f4000e012237ac9647c197a52e62802de966debf90160967", func := "penstock/penstocklaw14.JoinMeans", spec := "joinMeans", unfollowed := true, recurses := true, apart := false, narrowed := true }
def JoinMeansUptoSaid : Prop := joinMeansUptoRow.holds Try.pinned (OpenSpec.upto joinMeansSpec)

/-- 'penstocklaw14.JoinRefuses', WHERE WHAT IT READS IS OF BULK AT MOST 1048576: true; the input reads as it did. -/
def joinRefusesUptoRow : OpenClaim := { program := "ytkgmbomfkdkofaa", sum := "3ead264234e98961f4000e012237ac9647c197a52e62802de966debf90160967", func := "penstock/penstocklaw14.JoinRefuses", spec := "joinRefuses", unfollowed := true, recurses := true, apart := false, narrowed := true }
def JoinRefusesUptoSaid : Prop := joinRefusesUptoRow.holds Try.pinned (OpenSpec.upto joinRefusesSpec)

/-- 'penstocklaw14.JoinPairs', WHERE WHAT IT READS IS OF BULK AT MOST 1048576: true; the input reads as it did. -/
def joinPairsUptoRow : OpenClaim := { program := "ytkgmbomfkdkofaa", sum := "3ead264234e98961f4000e012237ac9647c197a52e62802de966debf90160967", func := "penstock/penstocklaw14.JoinPairs", spec := "joinPairs", unfollowed := true, recurses := true, apart := false, narrowed := true }
def JoinPairsUptoSaid : Prop := joinPairsUptoRow.holds Try.pinned (OpenSpec.upto joinPairsSpec)

end Rows
end Go.Proofs.Ytkgmbomfkdkofaa
