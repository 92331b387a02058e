/-
  No cell of these rows narrows 'for every input' (looked for: loops, veiled, ifaces, maps, wideKeys, modest, calm, conditions, laid).
  DERIVED. THE GIVEN ROWS OF THIS SEAT. 6 by the template 'for every input the law returns true; each argument reads behind the call as it read before'; 0 by the template 'total and deterministic' (their statements: YtfbfcehjlaallaaTotals.lean).
  GIVEN WITH THE SEED: the statements are not yours to turn. If you find one false, say at which input.
  Laid BY PROGRAM, IN A SANDBOX (cutbox-rows.mjs): the forced cells as the released guide's own fill.sh prints them over the translation 9119cffe3622529e… (all of the seat's roots in one cut). By AI agents, Wed Nov 11 2026. No macro, syntax, notation, axiom, sorry.
-/
import Derived.Test.YtfbfcehjlaallaaChecked
import GoSem.Claim
import GoSem.ClaimJoined
import GoSem.ClaimMapViews
import Derived.JoinedTies
import Derived.KernelRfl
namespace Go.Proofs.Ytfbfcehjlaallaa
/- THE CELL 'sum', in the pinned program and in every row, IS THE sha256 OF THE DUMP (.gsa) THAT YtfbfcehjlaallaaProg.lean LOADS. Nothing in Lean hashes anything: it is a label: what it is worth is what the hold of that sum in a sandbox is worth. -/
noncomputable def Try.pinned : Pinned := { name := "ytfbfcehjlaallaa", sum := "9119cffe3622529ea19dc85a22e0596e0697114efb5fd9475388b9b103966038", checked := Try.checked }
namespace Rows
def none {H : Type} : Left H := { results := [], args := [] }

/-- 'penstocklaw10.CountMakes': WHATEVER THE INPUT: true; the input reads as it did. -/
def countMakesSpec : ChangeSpec := { name := "countMakes", fn := fun _ => fun
  | [d] => { results := [.lit (.bool true)], args := [d] }
  | _ => none }
def countMakesRow : OpenClaim := { program := "ytfbfcehjlaallaa", sum := "9119cffe3622529ea19dc85a22e0596e0697114efb5fd9475388b9b103966038", func := "penstock/penstocklaw10.CountMakes", spec := "countMakes", unfollowed := true, recurses := true, apart := false }
def CountMakesSaid : Prop := countMakesRow.holds Try.pinned (OpenSpec.ofChange countMakesSpec)

/-- ITS FALSE NEIGHBOUR: 'it returns false'. Refute it at one input. -/
def countMakesWrong : ChangeSpec := { name := "countMakes", fn := fun _ => fun
  | [d] => { results := [.lit (.bool false)], args := [d] }
  | _ => none }
def CountMakesWrongFalsely : Prop := countMakesRow.holds Try.pinned (OpenSpec.ofChange countMakesWrong)

/-- 'penstocklaw12.ChainMakes': WHATEVER THE INPUT: true; the input reads as it did. -/
def chainMakesSpec : ChangeSpec := { name := "chainMakes", fn := fun _ => fun
  | [d] => { results := [.lit (.bool true)], args := [d] }
  | _ => none }
def chainMakesRow : OpenClaim := { program := "ytfbfcehjlaallaa", sum := "9119cffe3622529ea19dc85a22e0596e0697114efb5fd9475388b9b103966038", func := "penstock/penstocklaw12.ChainMakes", spec := "chainMakes", unfollowed := true, recurses := true, apart := false }
def ChainMakesSaid : Prop := chainMakesRow.holds Try.pinned (OpenSpec.ofChange chainMakesSpec)

/-- ITS FALSE NEIGHBOUR: 'it returns false'. Refute it at one input. -/
def chainMakesWrong : ChangeSpec := { name := "chainMakes", fn := fun _ => fun
  | [d] => { results := [.lit (.bool false)], args := [d] }
  | _ => none }
def ChainMakesWrongFalsely : Prop := chainMakesRow.holds Try.pinned (OpenSpec.ofChange chainMakesWrong)

/-- 'penstocklaw13.PasteMakes': WHATEVER THE INPUT: true; the input reads as it did. -/
def pasteMakesSpec : ChangeSpec := { name := "pasteMakes", fn := fun _ => fun
  | [d] => { results := [.lit (.bool true)], args := [d] }
  | _ => none }
def pasteMakesRow : OpenClaim := { program := "ytfbfcehjlaallaa", sum := "9119cffe3622529ea19dc85a22e0596e0697114efb5fd9475388b9b103966038", func := "penstock/penstocklaw13.PasteMakes", spec := "pasteMakes", unfollowed := true, recurses := true, apart := false }
def PasteMakesSaid : Prop := pasteMakesRow.holds Try.pinned (OpenSpec.ofChange pasteMakesSpec)

/-- ITS FALSE NEIGHBOUR: 'it returns false'. Refute it at one input. -/
def pasteMakesWrong : ChangeSpec := { name := "pasteMakes", fn := fun _ => fun
  | [d] => { results := [.lit (.bool false)], args := [d] }
  | _ => none }
def PasteMakesWrongFalsely : Prop := pasteMakesRow.holds Try.pinned (OpenSpec.ofChange pasteMakesWrong)

/-- 'penstocklaw14.JoinMakes': WHATEVER THE INPUT: true; the input reads as it did. -/
def joinMakesSpec : ChangeSpec := { name := "joinMakes", fn := fun _ => fun
  | [d] => { results := [.lit (.bool true)], args := [d] }
  | _ => none }
def joinMakesRow : OpenClaim := { program := "ytfbfcehjlaallaa", sum := "9119cffe3622529ea19dc85a22e0596e0697114efb5fd9475388b9b103966038", func := "penstock/penstocklaw14.JoinMakes", spec := "joinMakes", unfollowed := true, recurses := true, apart := false }
def JoinMakesSaid : Prop := joinMakesRow.holds Try.pinned (OpenSpec.ofChange joinMakesSpec)

/-- ITS FALSE NEIGHBOUR: 'it returns false'. Refute it at one input. -/
def joinMakesWrong : ChangeSpec := { name := "joinMakes", fn := fun _ => fun
  | [d] => { results := [.lit (.bool false)], args := [d] }
  | _ => none }
def JoinMakesWrongFalsely : Prop := joinMakesRow.holds Try.pinned (OpenSpec.ofChange joinMakesWrong)

/-- 'penstocklaw15.TeeMakes': WHATEVER THE INPUT: true; the input reads as it did. -/
def teeMakesSpec : ChangeSpec := { name := "teeMakes", fn := fun _ => fun
  | [d] => { results := [.lit (.bool true)], args := [d] }
  | _ => none }
def teeMakesRow : OpenClaim := { program := "ytfbfcehjlaallaa", sum := "9119cffe3622529ea19dc85a22e0596e0697114efb5fd9475388b9b103966038", func := "penstock/penstocklaw15.TeeMakes", spec := "teeMakes", unfollowed := true, recurses := true, apart := false }
def TeeMakesSaid : Prop := teeMakesRow.holds Try.pinned (OpenSpec.ofChange teeMakesSpec)

/-- ITS FALSE NEIGHBOUR: 'it returns false'. Refute it at one input. -/
def teeMakesWrong : ChangeSpec := { name := "teeMakes", fn := fun _ => fun
  | [d] => { results := [.lit (.bool false)], args := [d] }
  | _ => none }
def TeeMakesWrongFalsely : Prop := teeMakesRow.holds Try.pinned (OpenSpec.ofChange teeMakesWrong)

/-- 'penstocklaw16.SplitMakes': WHATEVER THE INPUT: true; the input reads as it did. -/
def splitMakesSpec : ChangeSpec := { name := "splitMakes", fn := fun _ => fun
  | [d] => { results := [.lit (.bool true)], args := [d] }
  | _ => none }
def splitMakesRow : OpenClaim := { program := "ytfbfcehjlaallaa", sum := "9119cffe3622529ea19dc85a22e0596e0697114efb5fd9475388b9b103966038", func := "penstock/penstocklaw16.SplitMakes", spec := "splitMakes", unfollowed := true, recurses := true, apart := false }
def SplitMakesSaid : Prop := splitMakesRow.holds Try.pinned (OpenSpec.ofChange splitMakesSpec)

/-- ITS FALSE NEIGHBOUR: 'it returns false'. Refute it at one input. -/
def splitMakesWrong : ChangeSpec := { name := "splitMakes", fn := fun _ => fun
  | [d] => { results := [.lit (.bool false)], args := [d] }
  | _ => none }
def SplitMakesWrongFalsely : Prop := splitMakesRow.holds Try.pinned (OpenSpec.ofChange splitMakesWrong)

/- THE SECOND FORM. 'bulk': how many values and letters a reading holds, each counted each time it is reached (what is shared counts as often as it is met; a slice's spare places count too). A statement '..UptoSaid' is the law's where the arguments, and the package variables that the reading takes, are together of bulk at most 1048576: NARROWER than '..Said'. Prove '..Said' where nothing that the law and all that it calls make is longer than what came in: it says more and counts as full. Else prove '..UptoSaid'. A law counts once. -/
mutual
def uptoBulk {H : Type} : DataW H → Nat
  | .lit (.string bytes) => bytes.length + 1
  | .lit _ => 1
  | .nil => 1
  | .ptr d => uptoBulk d + 1
  | .slice elems spare => uptoBulkAll elems + uptoBulkAll spare + 1
  | .agg parts => uptoBulkAll parts + 1
  | .iface _ d => uptoBulk d + 1
  | .map entries => uptoBulkEntries entries + 1
  | .held _ => 1
def uptoBulkAll {H : Type} : List (DataW H) → Nat
  | [] => 0
  | d :: r => uptoBulk d + uptoBulkAll r
def uptoBulkEntries {H : Type} : List (Lit × DataW H) → Nat
  | [] => 0
  | x :: r => uptoBulkEntry x + uptoBulkEntries r
def uptoBulkEntry {H : Type} : Lit × DataW H → Nat
  | (.string bytes, d) => bytes.length + uptoBulk d + 1
  | (_, d) => uptoBulk d + 1
 end
def uptoSmall : (H : Type) → List (DataW H) → Bool := fun _ ds => decide (uptoBulkAll ds ≤ 1048576)
def OpenSpec.upto (s : _root_.Go.ChangeSpec) : _root_.Go.OpenSpec := { _root_.Go.OpenSpec.ofChange s with cond := some uptoSmall }

/-- 'penstocklaw10.CountMakes', WHERE WHAT IT READS IS OF BULK AT MOST 1048576: true; the input reads as it did. -/
def countMakesUptoRow : OpenClaim := { program := "ytfbfcehjlaallaa", sum := "9119cffe3622529ea19dc85a22e0596e0697114efb5fd9475388b9b103966038", func := "penstock/penstocklaw10.CountMakes", spec := "countMakes", unfollowed := true, recurses := true, apart := false, narrowed := true }
def CountMakesUptoSaid : Prop := countMakesUptoRow.holds Try.pinned (OpenSpec.upto countMakesSpec)

/-- 'penstocklaw12.ChainMakes', WHERE WHAT IT READS IS OF BULK AT MOST 1048576: true; the input reads as it did. -/
def chainMakesUptoRow : OpenClaim := { program := "ytfbfcehjlaallaa", sum := "9119cffe3622529ea19dc85a22e0596e0697114efb5fd9475388b9b103966038", func := "penstock/penstocklaw12.ChainMakes", spec := "chainMakes", unfollowed := true, recurses := true, apart := false, narrowed := true }
def ChainMakesUptoSaid : Prop := chainMakesUptoRow.holds Try.pinned (OpenSpec.upto chainMakesSpec)

/-- 'penstocklaw13.PasteMakes', WHERE WHAT IT READS IS OF BULK AT MOST 1048576: true; the input reads as it did. -/
def pasteMakesUptoRow : OpenClaim := { program := "ytfbfcehjlaallaa", sum := "9119cffe3622529ea19dc85a22e0596e0697114efb5fd9475388b9b103966038", func := "penstock/penstocklaw13.PasteMakes", spec := "pasteMakes", unfollowed := true, recurses := true, apart := false, narrowed := true }
def PasteMakesUptoSaid : Prop := pasteMakesUptoRow.holds Try.pinned (OpenSpec.upto pasteMakesSpec)

/-- 'penstocklaw14.JoinMakes', WHERE WHAT IT READS IS OF BULK AT MOST 1048576: true; the input reads as it did. -/
def joinMakesUptoRow : OpenClaim := { program := "ytfbfcehjlaallaa", sum := "9119cffe3622529ea19dc85a22e0596e0697114efb5fd9475388b9b103966038", func := "penstock/penstocklaw14.JoinMakes", spec := "joinMakes", unfollowed := true, recurses := true, apart := false, narrowed := true }
def JoinMakesUptoSaid : Prop := joinMakesUptoRow.holds Try.pinned (OpenSpec.upto joinMakesSpec)

/-- 'penstocklaw15.TeeMakes', WHERE WHAT IT READS IS OF BULK AT MOST 1048576: true; the input reads as it did. -/
def teeMakesUptoRow : OpenClaim := { program := "ytfbfcehjlaallaa", sum := "9119cffe3622529ea19dc85a22e0596e0697114efb5fd9475388b9b103966038", func := "penstock/penstocklaw15.TeeMakes", spec := "teeMakes", unfollowed := true, recurses := true, apart := false, narrowed := true }
def TeeMakesUptoSaid : Prop := teeMakesUptoRow.holds Try.pinned (OpenSpec.upto teeMakesSpec)

/-- 'penstocklaw16.SplitMakes', WHERE WHAT IT READS IS OF BULK AT MOST 1048576: true; the input reads as it did. -/
def splitMakesUptoRow : OpenClaim := { program := "ytfbfcehjlaallaa", sum := "9119cffe3622529ea19dc85a22e0596e0697114efb5fd9475388b9b103966038", func := "penstock/penstocklaw16.SplitMakes", spec := "splitMakes", unfollowed := true, recurses := true, apart := false, narrowed := true }
def SplitMakesUptoSaid : Prop := splitMakesUptoRow.holds Try.pinned (OpenSpec.upto splitMakesSpec)

end Rows
end Go.Proofs.Ytfbfcehjlaallaa
