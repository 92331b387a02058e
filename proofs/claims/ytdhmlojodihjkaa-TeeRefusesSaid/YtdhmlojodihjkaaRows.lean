/-
  No cell of these rows narrows 'for every input' (looked for: loops, veiled, ifaces, maps, wideKeys, modest, calm, conditions, laid).
  DERIVED. THE GIVEN ROWS OF THIS SEAT. 14 by the template 'for every input the law returns true; each argument reads behind the call as it read before'; 0 by the template 'total and deterministic' (their statements: YtdhmlojodihjkaaTotals.lean).
  GIVEN WITH THE SEED: the statements are not yours to turn. If you find one false, say at which input.
  Laid BY PROGRAM, IN A SANDBOX (cutbox-rows.mjs): the forced cells as the released guide's own fill.sh prints them over the translation fcebd3e010c7a303… (all of the seat's roots in one cut). By AI agents, Wed Nov 11 2026. No macro, syntax, notation, axiom, sorry.
-/
import Derived.Test.YtdhmlojodihjkaaChecked
import GoSem.Claim
import GoSem.ClaimJoined
import GoSem.ClaimMapViews
import Derived.JoinedTies
import Derived.KernelRfl
namespace Go.Proofs.Ytdhmlojodihjkaa
/- THE CELL 'sum', in the pinned program and in every row, IS THE sha256 OF THE DUMP (.gsa) THAT YtdhmlojodihjkaaProg.lean LOADS. Nothing in Lean hashes anything: it is a label: what it is worth is what the hold of that sum in a sandbox is worth. -/
noncomputable def Try.pinned : Pinned := { name := "ytdhmlojodihjkaa", sum := "fcebd3e010c7a3034a1bb75b11ed6b333f34ac22092f1b7692bd168fa7b0f42b", checked := Try.checked }
namespace Rows
def none {H : Type} : Left H := { results := [], args := [] }

/-- 'penstocklaw12.ChainMakes': WHATEVER THE INPUT: true; the input reads as it did. -/
def chainMakesSpec : ChangeSpec := { name := "chainMakes", fn := fun _ => fun
  | [d] => { results := [.lit (.bool true)], args := [d] }
  | _ => none }
def chainMakesRow : OpenClaim := { program := "ytdhmlojodihjkaa", sum := "fcebd3e010c7a3034a1bb75b11ed6b333f34ac22092f1b7692bd168fa7b0f42b", func := "penstock/penstocklaw12.ChainMakes", spec := "chainMakes", unfollowed := true, recurses := true, apart := false }
def ChainMakesSaid : Prop := chainMakesRow.holds Try.pinned (OpenSpec.ofChange chainMakesSpec)

/-- ITS FALSE NEIGHBOUR: 'it returns false'. Refute it at one input. -/
def chainMakesWrong : ChangeSpec := { name := "chainMakes", fn := fun _ => fun
  | [d] => { results := [.lit (.bool false)], args := [d] }
  | _ => none }
def ChainMakesWrongFalsely : Prop := chainMakesRow.holds Try.pinned (OpenSpec.ofChange chainMakesWrong)

/-- 'penstocklaw12.ChainMeans': WHATEVER THE INPUT: true; the input reads as it did. -/
def chainMeansSpec : ChangeSpec := { name := "chainMeans", fn := fun _ => fun
  | [d1, d2, d3] => { results := [.lit (.bool true)], args := [d1, d2, d3] }
  | _ => none }
def chainMeansRow : OpenClaim := { program := "ytdhmlojodihjkaa", sum := "fcebd3e010c7a3034a1bb75b11ed6b333f34ac22092f1b7692bd168fa7b0f42b", func := "penstock/penstocklaw12.ChainMeans", spec := "chainMeans", unfollowed := true, recurses := true, apart := false }
def ChainMeansSaid : Prop := chainMeansRow.holds Try.pinned (OpenSpec.ofChange chainMeansSpec)

/-- ITS FALSE NEIGHBOUR: 'it returns false'. Refute it at one input. -/
def chainMeansWrong : ChangeSpec := { name := "chainMeans", fn := fun _ => fun
  | [d1, d2, d3] => { results := [.lit (.bool false)], args := [d1, d2, d3] }
  | _ => none }
def ChainMeansWrongFalsely : Prop := chainMeansRow.holds Try.pinned (OpenSpec.ofChange chainMeansWrong)

/-- 'penstocklaw12.ChainHolds': WHATEVER THE INPUT: true; the input reads as it did. -/
def chainHoldsSpec : ChangeSpec := { name := "chainHolds", fn := fun _ => fun
  | [d1, d2, d3] => { results := [.lit (.bool true)], args := [d1, d2, d3] }
  | _ => none }
def chainHoldsRow : OpenClaim := { program := "ytdhmlojodihjkaa", sum := "fcebd3e010c7a3034a1bb75b11ed6b333f34ac22092f1b7692bd168fa7b0f42b", func := "penstock/penstocklaw12.ChainHolds", spec := "chainHolds", unfollowed := true, recurses := true, apart := false }
def ChainHoldsSaid : Prop := chainHoldsRow.holds Try.pinned (OpenSpec.ofChange chainHoldsSpec)

/-- ITS FALSE NEIGHBOUR: 'it returns false'. Refute it at one input. -/
def chainHoldsWrong : ChangeSpec := { name := "chainHolds", fn := fun _ => fun
  | [d1, d2, d3] => { results := [.lit (.bool false)], args := [d1, d2, d3] }
  | _ => none }
def ChainHoldsWrongFalsely : Prop := chainHoldsRow.holds Try.pinned (OpenSpec.ofChange chainHoldsWrong)

/-- 'penstocklaw12.ChainRefuses': WHATEVER THE INPUT: true; the input reads as it did. -/
def chainRefusesSpec : ChangeSpec := { name := "chainRefuses", fn := fun _ => fun
  | [d1, d2, d3, d4, d5] => { results := [.lit (.bool true)], args := [d1, d2, d3, d4, d5] }
  | _ => none }
def chainRefusesRow : OpenClaim := { program := "ytdhmlojodihjkaa", sum := "fcebd3e010c7a3034a1bb75b11ed6b333f34ac22092f1b7692bd168fa7b0f42b", func := "penstock/penstocklaw12.ChainRefuses", spec := "chainRefuses", unfollowed := true, recurses := true, apart := false }
def ChainRefusesSaid : Prop := chainRefusesRow.holds Try.pinned (OpenSpec.ofChange chainRefusesSpec)

/-- ITS FALSE NEIGHBOUR: 'it returns false'. Refute it at one input. -/
def chainRefusesWrong : ChangeSpec := { name := "chainRefuses", fn := fun _ => fun
  | [d1, d2, d3, d4, d5] => { results := [.lit (.bool false)], args := [d1, d2, d3, d4, d5] }
  | _ => none }
def ChainRefusesWrongFalsely : Prop := chainRefusesRow.holds Try.pinned (OpenSpec.ofChange chainRefusesWrong)

/-- 'penstocklaw12.ChainChunks': WHATEVER THE INPUT: true; the input reads as it did. -/
def chainChunksSpec : ChangeSpec := { name := "chainChunks", fn := fun _ => fun
  | [d1, d2, d3, d4] => { results := [.lit (.bool true)], args := [d1, d2, d3, d4] }
  | _ => none }
def chainChunksRow : OpenClaim := { program := "ytdhmlojodihjkaa", sum := "fcebd3e010c7a3034a1bb75b11ed6b333f34ac22092f1b7692bd168fa7b0f42b", func := "penstock/penstocklaw12.ChainChunks", spec := "chainChunks", unfollowed := true, recurses := true, apart := false }
def ChainChunksSaid : Prop := chainChunksRow.holds Try.pinned (OpenSpec.ofChange chainChunksSpec)

/-- ITS FALSE NEIGHBOUR: 'it returns false'. Refute it at one input. -/
def chainChunksWrong : ChangeSpec := { name := "chainChunks", fn := fun _ => fun
  | [d1, d2, d3, d4] => { results := [.lit (.bool false)], args := [d1, d2, d3, d4] }
  | _ => none }
def ChainChunksWrongFalsely : Prop := chainChunksRow.holds Try.pinned (OpenSpec.ofChange chainChunksWrong)

/-- 'penstocklaw12.ChainGrows': WHATEVER THE INPUT: true; the input reads as it did. -/
def chainGrowsSpec : ChangeSpec := { name := "chainGrows", fn := fun _ => fun
  | [d1, d2, d3, d4, d5] => { results := [.lit (.bool true)], args := [d1, d2, d3, d4, d5] }
  | _ => none }
def chainGrowsRow : OpenClaim := { program := "ytdhmlojodihjkaa", sum := "fcebd3e010c7a3034a1bb75b11ed6b333f34ac22092f1b7692bd168fa7b0f42b", func := "penstock/penstocklaw12.ChainGrows", spec := "chainGrows", unfollowed := true, recurses := true, apart := false }
def ChainGrowsSaid : Prop := chainGrowsRow.holds Try.pinned (OpenSpec.ofChange chainGrowsSpec)

/-- ITS FALSE NEIGHBOUR: 'it returns false'. Refute it at one input. -/
def chainGrowsWrong : ChangeSpec := { name := "chainGrows", fn := fun _ => fun
  | [d1, d2, d3, d4, d5] => { results := [.lit (.bool false)], args := [d1, d2, d3, d4, d5] }
  | _ => none }
def ChainGrowsWrongFalsely : Prop := chainGrowsRow.holds Try.pinned (OpenSpec.ofChange chainGrowsWrong)

/-- 'penstocklaw12.ChainJoins': WHATEVER THE INPUT: true; the input reads as it did. -/
def chainJoinsSpec : ChangeSpec := { name := "chainJoins", fn := fun _ => fun
  | [d1, d2] => { results := [.lit (.bool true)], args := [d1, d2] }
  | _ => none }
def chainJoinsRow : OpenClaim := { program := "ytdhmlojodihjkaa", sum := "fcebd3e010c7a3034a1bb75b11ed6b333f34ac22092f1b7692bd168fa7b0f42b", func := "penstock/penstocklaw12.ChainJoins", spec := "chainJoins", unfollowed := true, recurses := true, apart := false }
def ChainJoinsSaid : Prop := chainJoinsRow.holds Try.pinned (OpenSpec.ofChange chainJoinsSpec)

/-- ITS FALSE NEIGHBOUR: 'it returns false'. Refute it at one input. -/
def chainJoinsWrong : ChangeSpec := { name := "chainJoins", fn := fun _ => fun
  | [d1, d2] => { results := [.lit (.bool false)], args := [d1, d2] }
  | _ => none }
def ChainJoinsWrongFalsely : Prop := chainJoinsRow.holds Try.pinned (OpenSpec.ofChange chainJoinsWrong)

/-- 'penstocklaw15.TeeMakes': WHATEVER THE INPUT: true; the input reads as it did. -/
def teeMakesSpec : ChangeSpec := { name := "teeMakes", fn := fun _ => fun
  | [d] => { results := [.lit (.bool true)], args := [d] }
  | _ => none }
def teeMakesRow : OpenClaim := { program := "ytdhmlojodihjkaa", sum := "fcebd3e010c7a3034a1bb75b11ed6b333f34ac22092f1b7692bd168fa7b0f42b", func := "penstock/penstocklaw15.TeeMakes", spec := "teeMakes", unfollowed := true, recurses := true, apart := false }
def TeeMakesSaid : Prop := teeMakesRow.holds Try.pinned (OpenSpec.ofChange teeMakesSpec)

/-- ITS FALSE NEIGHBOUR: 'it returns false'. Refute it at one input. -/
def teeMakesWrong : ChangeSpec := { name := "teeMakes", fn := fun _ => fun
  | [d] => { results := [.lit (.bool false)], args := [d] }
  | _ => none }
def TeeMakesWrongFalsely : Prop := teeMakesRow.holds Try.pinned (OpenSpec.ofChange teeMakesWrong)

/-- 'penstocklaw15.TeeMeans': WHATEVER THE INPUT: true; the input reads as it did. -/
def teeMeansSpec : ChangeSpec := { name := "teeMeans", fn := fun _ => fun
  | [d1, d2, d3] => { results := [.lit (.bool true)], args := [d1, d2, d3] }
  | _ => none }
def teeMeansRow : OpenClaim := { program := "ytdhmlojodihjkaa", sum := "fcebd3e010c7a3034a1bb75b11ed6b333f34ac22092f1b7692bd168fa7b0f42b", func := "penstock/penstocklaw15.TeeMeans", spec := "teeMeans", unfollowed := true, recurses := true, apart := false }
def TeeMeansSaid : Prop := teeMeansRow.holds Try.pinned (OpenSpec.ofChange teeMeansSpec)

/-- ITS FALSE NEIGHBOUR: 'it returns false'. Refute it at one input. -/
def teeMeansWrong : ChangeSpec := { name := "teeMeans", fn := fun _ => fun
  | [d1, d2, d3] => { results := [.lit (.bool false)], args := [d1, d2, d3] }
  | _ => none }
def TeeMeansWrongFalsely : Prop := teeMeansRow.holds Try.pinned (OpenSpec.ofChange teeMeansWrong)

/-- 'penstocklaw15.TeeHolds': WHATEVER THE INPUT: true; the input reads as it did. -/
def teeHoldsSpec : ChangeSpec := { name := "teeHolds", fn := fun _ => fun
  | [d1, d2, d3] => { results := [.lit (.bool true)], args := [d1, d2, d3] }
  | _ => none }
def teeHoldsRow : OpenClaim := { program := "ytdhmlojodihjkaa", sum := "fcebd3e010c7a3034a1bb75b11ed6b333f34ac22092f1b7692bd168fa7b0f42b", func := "penstock/penstocklaw15.TeeHolds", spec := "teeHolds", unfollowed := true, recurses := true, apart := false }
def TeeHoldsSaid : Prop := teeHoldsRow.holds Try.pinned (OpenSpec.ofChange teeHoldsSpec)

/-- ITS FALSE NEIGHBOUR: 'it returns false'. Refute it at one input. -/
def teeHoldsWrong : ChangeSpec := { name := "teeHolds", fn := fun _ => fun
  | [d1, d2, d3] => { results := [.lit (.bool false)], args := [d1, d2, d3] }
  | _ => none }
def TeeHoldsWrongFalsely : Prop := teeHoldsRow.holds Try.pinned (OpenSpec.ofChange teeHoldsWrong)

/-- 'penstocklaw15.TeeRefuses': WHATEVER THE INPUT: true; the input reads as it did. -/
def teeRefusesSpec : ChangeSpec := { name := "teeRefuses", fn := fun _ => fun
  | [d1, d2, d3, d4, d5] => { results := [.lit (.bool true)], args := [d1, d2, d3, d4, d5] }
  | _ => none }
def teeRefusesRow : OpenClaim := { program := "ytdhmlojodihjkaa", sum := "fcebd3e010c7a3034a1bb75b11ed6b333f34ac22092f1b7692bd168fa7b0f42b", func := "penstock/penstocklaw15.TeeRefuses", spec := "teeRefuses", unfollowed := true, recurses := true, apart := false }
def TeeRefusesSaid : Prop := teeRefusesRow.holds Try.pinned (OpenSpec.ofChange teeRefusesSpec)

/-- ITS FALSE NEIGHBOUR: 'it returns false'. Refute it at one input. -/
def teeRefusesWrong : ChangeSpec := { name := "teeRefuses", fn := fun _ => fun
  | [d1, d2, d3, d4, d5] => { results := [.lit (.bool false)], args := [d1, d2, d3, d4, d5] }
  | _ => none }
def TeeRefusesWrongFalsely : Prop := teeRefusesRow.holds Try.pinned (OpenSpec.ofChange teeRefusesWrong)

/-- 'penstocklaw15.TeeChunks': WHATEVER THE INPUT: true; the input reads as it did. -/
def teeChunksSpec : ChangeSpec := { name := "teeChunks", fn := fun _ => fun
  | [d1, d2, d3, d4] => { results := [.lit (.bool true)], args := [d1, d2, d3, d4] }
  | _ => none }
def teeChunksRow : OpenClaim := { program := "ytdhmlojodihjkaa", sum := "fcebd3e010c7a3034a1bb75b11ed6b333f34ac22092f1b7692bd168fa7b0f42b", func := "penstock/penstocklaw15.TeeChunks", spec := "teeChunks", unfollowed := true, recurses := true, apart := false }
def TeeChunksSaid : Prop := teeChunksRow.holds Try.pinned (OpenSpec.ofChange teeChunksSpec)

/-- ITS FALSE NEIGHBOUR: 'it returns false'. Refute it at one input. -/
def teeChunksWrong : ChangeSpec := { name := "teeChunks", fn := fun _ => fun
  | [d1, d2, d3, d4] => { results := [.lit (.bool false)], args := [d1, d2, d3, d4] }
  | _ => none }
def TeeChunksWrongFalsely : Prop := teeChunksRow.holds Try.pinned (OpenSpec.ofChange teeChunksWrong)

/-- 'penstocklaw15.TeeGrows': WHATEVER THE INPUT: true; the input reads as it did. -/
def teeGrowsSpec : ChangeSpec := { name := "teeGrows", fn := fun _ => fun
  | [d1, d2, d3, d4, d5] => { results := [.lit (.bool true)], args := [d1, d2, d3, d4, d5] }
  | _ => none }
def teeGrowsRow : OpenClaim := { program := "ytdhmlojodihjkaa", sum := "fcebd3e010c7a3034a1bb75b11ed6b333f34ac22092f1b7692bd168fa7b0f42b", func := "penstock/penstocklaw15.TeeGrows", spec := "teeGrows", unfollowed := true, recurses := true, apart := false }
def TeeGrowsSaid : Prop := teeGrowsRow.holds Try.pinned (OpenSpec.ofChange teeGrowsSpec)

/-- ITS FALSE NEIGHBOUR: 'it returns false'. Refute it at one input. -/
def teeGrowsWrong : ChangeSpec := { name := "teeGrows", fn := fun _ => fun
  | [d1, d2, d3, d4, d5] => { results := [.lit (.bool false)], args := [d1, d2, d3, d4, d5] }
  | _ => none }
def TeeGrowsWrongFalsely : Prop := teeGrowsRow.holds Try.pinned (OpenSpec.ofChange teeGrowsWrong)

/-- 'penstocklaw15.TeeSame': WHATEVER THE INPUT: true; the input reads as it did. -/
def teeSameSpec : ChangeSpec := { name := "teeSame", fn := fun _ => fun
  | [d1, d2, d3] => { results := [.lit (.bool true)], args := [d1, d2, d3] }
  | _ => none }
def teeSameRow : OpenClaim := { program := "ytdhmlojodihjkaa", sum := "fcebd3e010c7a3034a1bb75b11ed6b333f34ac22092f1b7692bd168fa7b0f42b", func := "penstock/penstocklaw15.TeeSame", spec := "teeSame", unfollowed := true, recurses := true, apart := false }
def TeeSameSaid : Prop := teeSameRow.holds Try.pinned (OpenSpec.ofChange teeSameSpec)

/-- ITS FALSE NEIGHBOUR: 'it returns false'. Refute it at one input. -/
def teeSameWrong : ChangeSpec := { name := "teeSame", fn := fun _ => fun
  | [d1, d2, d3] => { results := [.lit (.bool false)], args := [d1, d2, d3] }
  | _ => none }
def TeeSameWrongFalsely : Prop := teeSameRow.holds Try.pinned (OpenSpec.ofChange teeSameWrong)

/- THE SECOND FORM. 'bulk': how many values and letters a reading holds, each counted each time it is reached (what is shared counts as often as it is met; a slice's spare places count too). A statement '..UptoSaid' is the law's where the arguments, and the package variables that the reading takes, are together of bulk at most 1048576: NARROWER than '..Said'. Prove '..Said' where nothing that the law and all that it calls make is longer than what came in: it says more and counts as full. Else prove '..UptoSaid'. A law counts once. -/
mutual
def uptoBulk {H : Type} : DataW H → Nat
  | .lit (.string bytes) => bytes.length + 1
  | .lit _ => 1
  | .nil => 1
  | .ptr d => uptoBulk d + 1
  | .slice elems spare => uptoBulkAll elems + uptoBulkAll spare + 1
  | .agg parts => uptoBulkAll parts + 1
  | .iface _ d => uptoBulk d + 1
  | .map entries => uptoBulkEntries entries + 1
  | .held _ => 1
def uptoBulkAll {H : Type} : List (DataW H) → Nat
  | [] => 0
  | d :: r => uptoBulk d + uptoBulkAll r
def uptoBulkEntries {H : Type} : List (Lit × DataW H) → Nat
  | [] => 0
  | x :: r => uptoBulkEntry x + uptoBulkEntries r
def uptoBulkEntry {H : Type} : Lit × DataW H → Nat
  | (.string bytes, d) => bytes.length + uptoBulk d + 1
  | (_, d) => uptoBulk d + 1
 end
def uptoSmall : (H : Type) → List (DataW H) → Bool := fun _ ds => decide (uptoBulkAll ds ≤ 1048576)
def OpenSpec.upto (s : _root_.Go.ChangeSpec) : _root_.Go.OpenSpec := { _root_.Go.OpenSpec.ofChange s with cond := some uptoSmall }

/-- 'penstocklaw12.ChainMakes', WHERE WHAT IT READS IS OF BULK AT MOST 1048576: true; the input reads as it did. -/
def chainMakesUptoRow : OpenClaim := { program := "ytdhmlojodihjkaa", sum := "fcebd3e010c7a3034a1bb75b11ed6b333f34ac22092f1b7692bd168fa7b0f42b", func := "penstock/penstocklaw12.ChainMakes", spec := "chainMakes", unfollowed := true, recurses := true, apart := false, narrowed := true }
def ChainMakesUptoSaid : Prop := chainMakesUptoRow.holds Try.pinned (OpenSpec.upto chainMakesSpec)

/-- 'penstocklaw12.ChainMeans', WHERE WHAT IT READS IS OF BULK AT MOST 1048576: true; the input reads as it did. -/
def chainMeansUptoRow : OpenClaim := { program := "ytdhmlojodihjkaa", sum := "fcebd3e010c7a3034a1bb75b11ed6b333f34ac22092f1b7692bd168fa7b0f42b", func := "penstock/penstocklaw12.ChainMeans", spec := "chainMeans", unfollowed := true, recurses := true, apart := false, narrowed := true }
def ChainMeansUptoSaid : Prop := chainMeansUptoRow.holds Try.pinned (OpenSpec.upto chainMeansSpec)

/-- 'penstocklaw12.ChainHolds', WHERE WHAT IT READS IS OF BULK AT MOST 1048576: true; the input reads as it did. -/
def chainHoldsUptoRow : OpenClaim := { program := "ytdhmlojodihjkaa", sum := "fcebd3e010c7a3034a1bb75b11ed6b333f34ac22092f1b7692bd168fa7b0f42b", func := "penstock/penstocklaw12.ChainHolds", spec := "chainHolds", unfollowed := true, recurses := true, apart := false, narrowed := true }
def ChainHoldsUptoSaid : Prop := chainHoldsUptoRow.holds Try.pinned (OpenSpec.upto chainHoldsSpec)

/-- 'penstocklaw12.ChainRefuses', WHERE WHAT IT READS IS OF BULK AT MOST 1048576: true; the input reads as it did. -/
def chainRefusesUptoRow : OpenClaim := { program := "ytdhmlojodihjkaa", sum := "fcebd3e010c7a3034a1bb75b11ed6b333f34ac22092f1b7692bd168fa7b0f42b", func := "penstock/penstocklaw12.ChainRefuses", spec := "chainRefuses", unfollowed := true, recurses := true, apart := false, narrowed := true }
def ChainRefusesUptoSaid : Prop := chainRefusesUptoRow.holds Try.pinned (OpenSpec.upto chainRefusesSpec)

/-- 'penstocklaw12.ChainChunks', WHERE WHAT IT READS IS OF BULK AT MOST 1048576: true; the input reads as it did. -/
def chainChunksUptoRow : OpenClaim := { program := "ytdhmlojodihjkaa", sum := "fcebd3e010c7a3034a1bb75b11ed6b333f34ac22092f1b7692bd168fa7b0f42b", func := "penstock/penstocklaw12.ChainChunks", spec := "chainChunks", unfollowed := true, recurses := true, apart := false, narrowed := true }
def ChainChunksUptoSaid : Prop := chainChunksUptoRow.holds Try.pinned (OpenSpec.upto chainChunksSpec)

/-- 'penstocklaw12.ChainGrows', WHERE WHAT IT READS IS OF BULK AT MOST 1048576: true; the input reads as it did. -/
def chainGrowsUptoRow : OpenClaim := { program := "ytdhmlojodihjkaa", sum := "fcebd3e010c7a3034a1bb75b11ed6b333f34ac22092f1b7692bd168fa7b0f42b", func := "penstock/penstocklaw12.ChainGrows", spec := "chainGrows", unfollowed := true, recurses := true, apart := false, narrowed := true }
def ChainGrowsUptoSaid : Prop := chainGrowsUptoRow.holds Try.pinned (OpenSpec.upto chainGrowsSpec)

/-- 'penstocklaw12.ChainJoins', WHERE WHAT IT READS IS OF BULK AT MOST 1048576: true; the input reads as it did. -/
def chainJoinsUptoRow : OpenClaim := { program := "ytdhmlojodihjkaa", sum := "fcebd3e010c7a3034a1bb75b11ed6b333f34ac22092f1b7692bd168fa7b0f42b", func := "penstock/penstocklaw12.ChainJoins", spec := "chainJoins", unfollowed := true, recurses := true, apart := false, narrowed := true }
def ChainJoinsUptoSaid : Prop := chainJoinsUptoRow.holds Try.pinned (OpenSpec.upto chainJoinsSpec)

/-- 'penstocklaw15.TeeMakes', WHERE WHAT IT READS IS OF BULK AT MOST 1048576: true; the input reads as it did. -/
def teeMakesUptoRow : OpenClaim := { program := "ytdhmlojodihjkaa", sum := "fcebd3e010c7a3034a1bb75b11ed6b333f34ac22092f1b7692bd168fa7b0f42b", func := "penstock/penstocklaw15.TeeMakes", spec := "teeMakes", unfollowed := true, recurses := true, apart := false, narrowed := true }
def TeeMakesUptoSaid : Prop := teeMakesUptoRow.holds Try.pinned (OpenSpec.upto teeMakesSpec)

/-- 'penstocklaw15.TeeMeans', WHERE WHAT IT READS IS OF BULK AT MOST 1048576: true; the input reads as it did. -/
def teeMeansUptoRow : OpenClaim := { program := "ytdhmlojodihjkaa", sum := "fcebd3e010c7a3034a1bb75b11ed6b333f34ac22092f1b7692bd168fa7b0f42b", func := "penstock/penstocklaw15.TeeMeans", spec := "teeMeans", unfollowed := true, recurses := true, apart := false, narrowed := true }
def TeeMeansUptoSaid : Prop := teeMeansUptoRow.holds Try.pinned (OpenSpec.upto teeMeansSpec)

/-- 'penstocklaw15.TeeHolds', WHERE WHAT IT READS IS OF BULK AT MOST 1048576: true; the input reads as it did. -/
def teeHoldsUptoRow : OpenClaim := { program := "ytdhmlojodihjkaa", sum := "fcebd3e010c7a3034a1bb75b11ed6b333f34ac22092f1b7692bd168fa7b0f42b", func := "penstock/penstocklaw15.TeeHolds", spec := "teeHolds", unfollowed := true, recurses := true, apart := false, narrowed := true }
def TeeHoldsUptoSaid : Prop := teeHoldsUptoRow.holds Try.pinned (OpenSpec.upto teeHoldsSpec)

/-- 'penstocklaw15.TeeRefuses', WHERE WHAT IT READS IS OF BULK AT MOST 1048576: true; the input reads as it did. -/
def teeRefusesUptoRow : OpenClaim := { program := "ytdhmlojodihjkaa", sum := "fcebd3e010c7a3034a1bb75b11ed6b333f34ac22092f1b7692bd168fa7b0f42b", func := "penstock/penstocklaw15.TeeRefuses", spec := "teeRefuses", unfollowed := true, recurses := true, apart := false, narrowed := true }
def TeeRefusesUptoSaid : Prop := teeRefusesUptoRow.holds Try.pinned (OpenSpec.upto teeRefusesSpec)

/-- 'penstocklaw15.TeeChunks', WHERE WHAT IT READS IS OF BULK AT MOST 1048576: true; the input reads as it did. -/
def teeChunksUptoRow : OpenClaim := { program := "ytdhmlojodihjkaa", sum := "fcebd3e010c7a3034a1bb75b11ed6b333f34ac22092f1b7692bd168fa7b0f42b", func := "penstock/penstocklaw15.TeeChunks", spec := "teeChunks", unfollowed := true, recurses := true, apart := false, narrowed := true }
def TeeChunksUptoSaid : Prop := teeChunksUptoRow.holds Try.pinned (OpenSpec.upto teeChunksSpec)

/-- 'penstocklaw15.TeeGrows', WHERE WHAT IT READS IS OF BULK AT MOST 1048576: true; the input reads as it did. -/
def teeGrowsUptoRow : OpenClaim := { program := "ytdhmlojodihjkaa", sum := "fcebd3e010c7a3034a1bb75b11ed6b333f34ac22092f1b7692bd168fa7b0f42b", func := "penstock/penstocklaw15.TeeGrows", spec := "teeGrows", unfollowed := true, recurses := true, apart := false, narrowed := true }
def TeeGrowsUptoSaid : Prop := teeGrowsUptoRow.holds Try.pinned (OpenSpec.upto teeGrowsSpec)

/-- 'penstocklaw15.TeeSame', WHERE WHAT IT READS IS OF BULK AT MOST 1048576: true; the input reads as it did. -/
def teeSameUptoRow : OpenClaim := { program := "ytdhmlojodihjkaa", sum := "fcebd3e010c7a3034a1bb75b11ed6b333f34ac22092f1b7692bd168fa7b0f42b", func := "penstock/penstocklaw15.TeeSame", spec := "teeSame", unfollowed := true, recurses := true, apart := false, narrowed := true }
def TeeSameUptoSaid : Prop := teeSameUptoRow.holds Try.pinned (OpenSpec.upto teeSameSpec)

end Rows
end Go.Proofs.Ytdhmlojodihjkaa
