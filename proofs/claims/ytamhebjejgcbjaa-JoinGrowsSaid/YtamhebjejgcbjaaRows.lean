/-
  No cell of these rows narrows 'for every input' (looked for: loops, veiled, ifaces, maps, wideKeys, modest, calm, conditions, laid).
  DERIVED. THE GIVEN ROWS OF THIS SEAT. 15 by the template 'for every input the law returns true; each argument reads behind the call as it read before'; 0 by the template 'total and deterministic' (their statements: YtamhebjejgcbjaaTotals.lean).
  GIVEN WITH THE SEED: the statements are not yours to turn. If you find one false, say at which input.
  Laid BY PROGRAM, IN A SANDBOX (cutbox-rows.mjs): the forced cells as the released guide's own fill.sh prints them over the translation 02b88500513f64e6… (all of the seat's roots in one cut). By AI agents, Wed Nov 11 2026. No macro, syntax, notation, axiom, sorry.
-/
import Derived.Test.YtamhebjejgcbjaaChecked
import GoSem.Claim
import GoSem.ClaimJoined
import GoSem.ClaimMapViews
import Derived.JoinedTies
import Derived.KernelRfl
namespace Go.Proofs.Ytamhebjejgcbjaa
/- THE CELL 'sum', in the pinned program and in every row, IS THE sha256 OF THE DUMP (.gsa) THAT YtamhebjejgcbjaaProg.lean LOADS. Nothing in Lean hashes anything: it is a label: what it is worth is what the hold of that sum in a sandbox is worth. -/
noncomputable def Try.pinned : Pinned := { name := "ytamhebjejgcbjaa", sum := "02b88500513f64e68b08cd4b4bfe1da3cee2a39d84bbf3237288abc0fcbad393", checked := Try.checked }
namespace Rows
def none {H : Type} : Left H := { results := [], args := [] }

/-- 'penstocklaw10.CountMakes': WHATEVER THE INPUT: true; the input reads as it did. -/
def countMakesSpec : ChangeSpec := { name := "countMakes", fn := fun _ => fun
  | [d] => { results := [.lit (.bool true)], args := [d] }
  | _ => none }
def countMakesRow : OpenClaim := { program := "ytamhebjejgcbjaa", sum := "02b88500513f64e68b08cd4b4bfe1da3cee2a39d84bbf3237288abc0fcbad393", func := "penstock/penstocklaw10.CountMakes", spec := "countMakes", unfollowed := true, recurses := true, apart := false }
def CountMakesSaid : Prop := countMakesRow.holds Try.pinned (OpenSpec.ofChange countMakesSpec)

/-- ITS FALSE NEIGHBOUR: 'it returns false'. Refute it at one input. -/
def countMakesWrong : ChangeSpec := { name := "countMakes", fn := fun _ => fun
  | [d] => { results := [.lit (.bool false)], args := [d] }
  | _ => none }
def CountMakesWrongFalsely : Prop := countMakesRow.holds Try.pinned (OpenSpec.ofChange countMakesWrong)

/-- 'penstocklaw13.PasteChunks': WHATEVER THE INPUT: true; the input reads as it did. -/
def pasteChunksSpec : ChangeSpec := { name := "pasteChunks", fn := fun _ => fun
  | [d1, d2, d3, d4] => { results := [.lit (.bool true)], args := [d1, d2, d3, d4] }
  | _ => none }
def pasteChunksRow : OpenClaim := { program := "ytamhebjejgcbjaa", sum := "02b88500513f64e68b08cd4b4bfe1da3cee2a39d84bbf3237288abc0fcbad393", func := "penstock/penstocklaw13.PasteChunks", spec := "pasteChunks", unfollowed := true, recurses := true, apart := false }
def PasteChunksSaid : Prop := pasteChunksRow.holds Try.pinned (OpenSpec.ofChange pasteChunksSpec)

/-- ITS FALSE NEIGHBOUR: 'it returns false'. Refute it at one input. -/
def pasteChunksWrong : ChangeSpec := { name := "pasteChunks", fn := fun _ => fun
  | [d1, d2, d3, d4] => { results := [.lit (.bool false)], args := [d1, d2, d3, d4] }
  | _ => none }
def PasteChunksWrongFalsely : Prop := pasteChunksRow.holds Try.pinned (OpenSpec.ofChange pasteChunksWrong)

/-- 'penstocklaw13.PasteColumns': WHATEVER THE INPUT: true; the input reads as it did. -/
def pasteColumnsSpec : ChangeSpec := { name := "pasteColumns", fn := fun _ => fun
  | [d1, d2, d3] => { results := [.lit (.bool true)], args := [d1, d2, d3] }
  | _ => none }
def pasteColumnsRow : OpenClaim := { program := "ytamhebjejgcbjaa", sum := "02b88500513f64e68b08cd4b4bfe1da3cee2a39d84bbf3237288abc0fcbad393", func := "penstock/penstocklaw13.PasteColumns", spec := "pasteColumns", unfollowed := true, recurses := true, apart := false }
def PasteColumnsSaid : Prop := pasteColumnsRow.holds Try.pinned (OpenSpec.ofChange pasteColumnsSpec)

/-- ITS FALSE NEIGHBOUR: 'it returns false'. Refute it at one input. -/
def pasteColumnsWrong : ChangeSpec := { name := "pasteColumns", fn := fun _ => fun
  | [d1, d2, d3] => { results := [.lit (.bool false)], args := [d1, d2, d3] }
  | _ => none }
def PasteColumnsWrongFalsely : Prop := pasteColumnsRow.holds Try.pinned (OpenSpec.ofChange pasteColumnsWrong)

/-- 'penstocklaw13.PasteGrows': WHATEVER THE INPUT: true; the input reads as it did. -/
def pasteGrowsSpec : ChangeSpec := { name := "pasteGrows", fn := fun _ => fun
  | [d1, d2, d3, d4, d5] => { results := [.lit (.bool true)], args := [d1, d2, d3, d4, d5] }
  | _ => none }
def pasteGrowsRow : OpenClaim := { program := "ytamhebjejgcbjaa", sum := "02b88500513f64e68b08cd4b4bfe1da3cee2a39d84bbf3237288abc0fcbad393", func := "penstock/penstocklaw13.PasteGrows", spec := "pasteGrows", unfollowed := true, recurses := true, apart := false }
def PasteGrowsSaid : Prop := pasteGrowsRow.holds Try.pinned (OpenSpec.ofChange pasteGrowsSpec)

/-- ITS FALSE NEIGHBOUR: 'it returns false'. Refute it at one input. -/
def pasteGrowsWrong : ChangeSpec := { name := "pasteGrows", fn := fun _ => fun
  | [d1, d2, d3, d4, d5] => { results := [.lit (.bool false)], args := [d1, d2, d3, d4, d5] }
  | _ => none }
def PasteGrowsWrongFalsely : Prop := pasteGrowsRow.holds Try.pinned (OpenSpec.ofChange pasteGrowsWrong)

/-- 'penstocklaw13.PasteHolds': WHATEVER THE INPUT: true; the input reads as it did. -/
def pasteHoldsSpec : ChangeSpec := { name := "pasteHolds", fn := fun _ => fun
  | [d1, d2, d3] => { results := [.lit (.bool true)], args := [d1, d2, d3] }
  | _ => none }
def pasteHoldsRow : OpenClaim := { program := "ytamhebjejgcbjaa", sum := "02b88500513f64e68b08cd4b4bfe1da3cee2a39d84bbf3237288abc0fcbad393", func := "penstock/penstocklaw13.PasteHolds", spec := "pasteHolds", unfollowed := true, recurses := true, apart := false }
def PasteHoldsSaid : Prop := pasteHoldsRow.holds Try.pinned (OpenSpec.ofChange pasteHoldsSpec)

/-- ITS FALSE NEIGHBOUR: 'it returns false'. Refute it at one input. -/
def pasteHoldsWrong : ChangeSpec := { name := "pasteHolds", fn := fun _ => fun
  | [d1, d2, d3] => { results := [.lit (.bool false)], args := [d1, d2, d3] }
  | _ => none }
def PasteHoldsWrongFalsely : Prop := pasteHoldsRow.holds Try.pinned (OpenSpec.ofChange pasteHoldsWrong)

/-- 'penstocklaw13.PasteMakes': WHATEVER THE INPUT: true; the input reads as it did. -/
def pasteMakesSpec : ChangeSpec := { name := "pasteMakes", fn := fun _ => fun
  | [d] => { results := [.lit (.bool true)], args := [d] }
  | _ => none }
def pasteMakesRow : OpenClaim := { program := "ytamhebjejgcbjaa", sum := "02b88500513f64e68b08cd4b4bfe1da3cee2a39d84bbf3237288abc0fcbad393", func := "penstock/penstocklaw13.PasteMakes", spec := "pasteMakes", unfollowed := true, recurses := true, apart := false }
def PasteMakesSaid : Prop := pasteMakesRow.holds Try.pinned (OpenSpec.ofChange pasteMakesSpec)

/-- ITS FALSE NEIGHBOUR: 'it returns false'. Refute it at one input. -/
def pasteMakesWrong : ChangeSpec := { name := "pasteMakes", fn := fun _ => fun
  | [d] => { results := [.lit (.bool false)], args := [d] }
  | _ => none }
def PasteMakesWrongFalsely : Prop := pasteMakesRow.holds Try.pinned (OpenSpec.ofChange pasteMakesWrong)

/-- 'penstocklaw13.PasteMeans': WHATEVER THE INPUT: true; the input reads as it did. -/
def pasteMeansSpec : ChangeSpec := { name := "pasteMeans", fn := fun _ => fun
  | [d1, d2, d3] => { results := [.lit (.bool true)], args := [d1, d2, d3] }
  | _ => none }
def pasteMeansRow : OpenClaim := { program := "ytamhebjejgcbjaa", sum := "02b88500513f64e68b08cd4b4bfe1da3cee2a39d84bbf3237288abc0fcbad393", func := "penstock/penstocklaw13.PasteMeans", spec := "pasteMeans", unfollowed := true, recurses := true, apart := false }
def PasteMeansSaid : Prop := pasteMeansRow.holds Try.pinned (OpenSpec.ofChange pasteMeansSpec)

/-- ITS FALSE NEIGHBOUR: 'it returns false'. Refute it at one input. -/
def pasteMeansWrong : ChangeSpec := { name := "pasteMeans", fn := fun _ => fun
  | [d1, d2, d3] => { results := [.lit (.bool false)], args := [d1, d2, d3] }
  | _ => none }
def PasteMeansWrongFalsely : Prop := pasteMeansRow.holds Try.pinned (OpenSpec.ofChange pasteMeansWrong)

/-- 'penstocklaw13.PasteRefuses': WHATEVER THE INPUT: true; the input reads as it did. -/
def pasteRefusesSpec : ChangeSpec := { name := "pasteRefuses", fn := fun _ => fun
  | [d1, d2, d3, d4, d5] => { results := [.lit (.bool true)], args := [d1, d2, d3, d4, d5] }
  | _ => none }
def pasteRefusesRow : OpenClaim := { program := "ytamhebjejgcbjaa", sum := "02b88500513f64e68b08cd4b4bfe1da3cee2a39d84bbf3237288abc0fcbad393", func := "penstock/penstocklaw13.PasteRefuses", spec := "pasteRefuses", unfollowed := true, recurses := true, apart := false }
def PasteRefusesSaid : Prop := pasteRefusesRow.holds Try.pinned (OpenSpec.ofChange pasteRefusesSpec)

/-- ITS FALSE NEIGHBOUR: 'it returns false'. Refute it at one input. -/
def pasteRefusesWrong : ChangeSpec := { name := "pasteRefuses", fn := fun _ => fun
  | [d1, d2, d3, d4, d5] => { results := [.lit (.bool false)], args := [d1, d2, d3, d4, d5] }
  | _ => none }
def PasteRefusesWrongFalsely : Prop := pasteRefusesRow.holds Try.pinned (OpenSpec.ofChange pasteRefusesWrong)

/-- 'penstocklaw14.JoinMakes': WHATEVER THE INPUT: true; the input reads as it did. -/
def joinMakesSpec : ChangeSpec := { name := "joinMakes", fn := fun _ => fun
  | [d] => { results := [.lit (.bool true)], args := [d] }
  | _ => none }
def joinMakesRow : OpenClaim := { program := "ytamhebjejgcbjaa", sum := "02b88500513f64e68b08cd4b4bfe1da3cee2a39d84bbf3237288abc0fcbad393", func := "penstock/penstocklaw14.JoinMakes", spec := "joinMakes", unfollowed := true, recurses := true, apart := false }
def JoinMakesSaid : Prop := joinMakesRow.holds Try.pinned (OpenSpec.ofChange joinMakesSpec)

/-- ITS FALSE NEIGHBOUR: 'it returns false'. Refute it at one input. -/
def joinMakesWrong : ChangeSpec := { name := "joinMakes", fn := fun _ => fun
  | [d] => { results := [.lit (.bool false)], args := [d] }
  | _ => none }
def JoinMakesWrongFalsely : Prop := joinMakesRow.holds Try.pinned (OpenSpec.ofChange joinMakesWrong)

/-- 'penstocklaw14.JoinMeans': WHATEVER THE INPUT: true; the input reads as it did. -/
def joinMeansSpec : ChangeSpec := { name := "joinMeans", fn := fun _ => fun
  | [d1, d2, d3] => { results := [.lit (.bool true)], args := [d1, d2, d3] }
  | _ => none }
def joinMeansRow : OpenClaim := { program := "ytamhebjejgcbjaa", sum := "02b88500513f64e68b08cd4b4bfe1da3cee2a39d84bbf3237288abc0fcbad393", func := "penstock/penstocklaw14.JoinMeans", spec := "joinMeans", unfollowed := true, recurses := true, apart := false }
def JoinMeansSaid : Prop := joinMeansRow.holds Try.pinned (OpenSpec.ofChange joinMeansSpec)

/-- ITS FALSE NEIGHBOUR: 'it returns false'. Refute it at one input. -/
def joinMeansWrong : ChangeSpec := { name := "joinMeans", fn := fun _ => fun
  | [d1, d2, d3] => { results := [.lit (.bool false)], args := [d1, d2, d3] }
  | _ => none }
def JoinMeansWrongFalsely : Prop := joinMeansRow.holds Try.pinned (OpenSpec.ofChange joinMeansWrong)

/-- 'penstocklaw14.JoinHolds': WHATEVER THE INPUT: true; the input reads as it did. -/
def joinHoldsSpec : ChangeSpec := { name := "joinHolds", fn := fun _ => fun
  | [d1, d2, d3] => { results := [.lit (.bool true)], args := [d1, d2, d3] }
  | _ => none }
def joinHoldsRow : OpenClaim := { program := "ytamhebjejgcbjaa", sum := "02b88500513f64e68b08cd4b4bfe1da3cee2a39d84bbf3237288abc0fcbad393", func := "penstock/penstocklaw14.JoinHolds", spec := "joinHolds", unfollowed := true, recurses := true, apart := false }
def JoinHoldsSaid : Prop := joinHoldsRow.holds Try.pinned (OpenSpec.ofChange joinHoldsSpec)

/-- ITS FALSE NEIGHBOUR: 'it returns false'. Refute it at one input. -/
def joinHoldsWrong : ChangeSpec := { name := "joinHolds", fn := fun _ => fun
  | [d1, d2, d3] => { results := [.lit (.bool false)], args := [d1, d2, d3] }
  | _ => none }
def JoinHoldsWrongFalsely : Prop := joinHoldsRow.holds Try.pinned (OpenSpec.ofChange joinHoldsWrong)

/-- 'penstocklaw14.JoinRefuses': WHATEVER THE INPUT: true; the input reads as it did. -/
def joinRefusesSpec : ChangeSpec := { name := "joinRefuses", fn := fun _ => fun
  | [d1, d2, d3, d4, d5] => { results := [.lit (.bool true)], args := [d1, d2, d3, d4, d5] }
  | _ => none }
def joinRefusesRow : OpenClaim := { program := "ytamhebjejgcbjaa", sum := "02b88500513f64e68b08cd4b4bfe1da3cee2a39d84bbf3237288abc0fcbad393", func := "penstock/penstocklaw14.JoinRefuses", spec := "joinRefuses", unfollowed := true, recurses := true, apart := false }
def JoinRefusesSaid : Prop := joinRefusesRow.holds Try.pinned (OpenSpec.ofChange joinRefusesSpec)

/-- ITS FALSE NEIGHBOUR: 'it returns false'. Refute it at one input. -/
def joinRefusesWrong : ChangeSpec := { name := "joinRefuses", fn := fun _ => fun
  | [d1, d2, d3, d4, d5] => { results := [.lit (.bool false)], args := [d1, d2, d3, d4, d5] }
  | _ => none }
def JoinRefusesWrongFalsely : Prop := joinRefusesRow.holds Try.pinned (OpenSpec.ofChange joinRefusesWrong)

/-- 'penstocklaw14.JoinChunks': WHATEVER THE INPUT: true; the input reads as it did. -/
def joinChunksSpec : ChangeSpec := { name := "joinChunks", fn := fun _ => fun
  | [d1, d2, d3, d4] => { results := [.lit (.bool true)], args := [d1, d2, d3, d4] }
  | _ => none }
def joinChunksRow : OpenClaim := { program := "ytamhebjejgcbjaa", sum := "02b88500513f64e68b08cd4b4bfe1da3cee2a39d84bbf3237288abc0fcbad393", func := "penstock/penstocklaw14.JoinChunks", spec := "joinChunks", unfollowed := true, recurses := true, apart := false }
def JoinChunksSaid : Prop := joinChunksRow.holds Try.pinned (OpenSpec.ofChange joinChunksSpec)

/-- ITS FALSE NEIGHBOUR: 'it returns false'. Refute it at one input. -/
def joinChunksWrong : ChangeSpec := { name := "joinChunks", fn := fun _ => fun
  | [d1, d2, d3, d4] => { results := [.lit (.bool false)], args := [d1, d2, d3, d4] }
  | _ => none }
def JoinChunksWrongFalsely : Prop := joinChunksRow.holds Try.pinned (OpenSpec.ofChange joinChunksWrong)

/-- 'penstocklaw14.JoinGrows': WHATEVER THE INPUT: true; the input reads as it did. -/
def joinGrowsSpec : ChangeSpec := { name := "joinGrows", fn := fun _ => fun
  | [d1, d2, d3, d4, d5] => { results := [.lit (.bool true)], args := [d1, d2, d3, d4, d5] }
  | _ => none }
def joinGrowsRow : OpenClaim := { program := "ytamhebjejgcbjaa", sum := "02b88500513f64e68b08cd4b4bfe1da3cee2a39d84bbf3237288abc0fcbad393", func := "penstock/penstocklaw14.JoinGrows", spec := "joinGrows", unfollowed := true, recurses := true, apart := false }
def JoinGrowsSaid : Prop := joinGrowsRow.holds Try.pinned (OpenSpec.ofChange joinGrowsSpec)

/-- ITS FALSE NEIGHBOUR: 'it returns false'. Refute it at one input. -/
def joinGrowsWrong : ChangeSpec := { name := "joinGrows", fn := fun _ => fun
  | [d1, d2, d3, d4, d5] => { results := [.lit (.bool false)], args := [d1, d2, d3, d4, d5] }
  | _ => none }
def JoinGrowsWrongFalsely : Prop := joinGrowsRow.holds Try.pinned (OpenSpec.ofChange joinGrowsWrong)

/-- 'penstocklaw14.JoinPairs': WHATEVER THE INPUT: true; the input reads as it did. -/
def joinPairsSpec : ChangeSpec := { name := "joinPairs", fn := fun _ => fun
  | [d1, d2, d3, d4, d5] => { results := [.lit (.bool true)], args := [d1, d2, d3, d4, d5] }
  | _ => none }
def joinPairsRow : OpenClaim := { program := "ytamhebjejgcbjaa", sum := "02b88500513f64e68b08cd4b4bfe1da3cee2a39d84bbf3237288abc0fcbad393", func := "penstock/penstocklaw14.JoinPairs", spec := "joinPairs", unfollowed := true, recurses := true, apart := false }
def JoinPairsSaid : Prop := joinPairsRow.holds Try.pinned (OpenSpec.ofChange joinPairsSpec)

/-- ITS FALSE NEIGHBOUR: 'it returns false'. Refute it at one input. -/
def joinPairsWrong : ChangeSpec := { name := "joinPairs", fn := fun _ => fun
  | [d1, d2, d3, d4, d5] => { results := [.lit (.bool false)], args := [d1, d2, d3, d4, d5] }
  | _ => none }
def JoinPairsWrongFalsely : Prop := joinPairsRow.holds Try.pinned (OpenSpec.ofChange joinPairsWrong)

/- THE SECOND FORM. 'bulk': how many values and letters a reading holds, each counted each time it is reached (what is shared counts as often as it is met; a slice's spare places count too). A statement '..UptoSaid' is the law's where the arguments, and the package variables that the reading takes, are together of bulk at most 1048576: NARROWER than '..Said'. Prove '..Said' where nothing that the law and all that it calls make is longer than what came in: it says more and counts as full. Else prove '..UptoSaid'. A law counts once. -/
mutual
def uptoBulk {H : Type} : DataW H → Nat
  | .lit (.string bytes) => bytes.length + 1
  | .lit _ => 1
  | .nil => 1
  | .ptr d => uptoBulk d + 1
  | .slice elems spare => uptoBulkAll elems + uptoBulkAll spare + 1
  | .agg parts => uptoBulkAll parts + 1
  | .iface _ d => uptoBulk d + 1
  | .map entries => uptoBulkEntries entries + 1
  | .held _ => 1
def uptoBulkAll {H : Type} : List (DataW H) → Nat
  | [] => 0
  | d :: r => uptoBulk d + uptoBulkAll r
def uptoBulkEntries {H : Type} : List (Lit × DataW H) → Nat
  | [] => 0
  | x :: r => uptoBulkEntry x + uptoBulkEntries r
def uptoBulkEntry {H : Type} : Lit × DataW H → Nat
  | (.string bytes, d) => bytes.length + uptoBulk d + 1
  | (_, d) => uptoBulk d + 1
 end
def uptoSmall : (H : Type) → List (DataW H) → Bool := fun _ ds => decide (uptoBulkAll ds ≤ 1048576)
def OpenSpec.upto (s : _root_.Go.ChangeSpec) : _root_.Go.OpenSpec := { _root_.Go.OpenSpec.ofChange s with cond := some uptoSmall }

/-- 'penstocklaw10.CountMakes', WHERE WHAT IT READS IS OF BULK AT MOST 1048576: true; the input reads as it did. -/
def countMakesUptoRow : OpenClaim := { program := "ytamhebjejgcbjaa", sum := "02b88500513f64e68b08cd4b4bfe1da3cee2a39d84bbf3237288abc0fcbad393", func := "penstock/penstocklaw10.CountMakes", spec := "countMakes", unfollowed := true, recurses := true, apart := false, narrowed := true }
def CountMakesUptoSaid : Prop := countMakesUptoRow.holds Try.pinned (OpenSpec.upto countMakesSpec)

/-- 'penstocklaw13.PasteChunks', WHERE WHAT IT READS IS OF BULK AT MOST 1048576: true; the input reads as it did. -/
def pasteChunksUptoRow : OpenClaim := { program := "ytamhebjejgcbjaa", sum := "02b88500513f64e68b08cd4b4bfe1da3cee2a39d84bbf3237288abc0fcbad393", func := "penstock/penstocklaw13.PasteChunks", spec := "pasteChunks", unfollowed := true, recurses := true, apart := false, narrowed := true }
def PasteChunksUptoSaid : Prop := pasteChunksUptoRow.holds Try.pinned (OpenSpec.upto pasteChunksSpec)

/-- 'penstocklaw13.PasteColumns', WHERE WHAT IT READS IS OF BULK AT MOST 1048576: true; the input reads as it did. -/
def pasteColumnsUptoRow : OpenClaim := { program := "ytamhebjejgcbjaa", sum := "02b88500513f64e68b08cd4b4bfe1da3cee2a39d84bbf3237288abc0fcbad393", func := "penstock/penstocklaw13.PasteColumns", spec := "pasteColumns", unfollowed := true, recurses := true, apart := false, narrowed := true }
def PasteColumnsUptoSaid : Prop := pasteColumnsUptoRow.holds Try.pinned (OpenSpec.upto pasteColumnsSpec)

/-- 'penstocklaw13.PasteGrows', WHERE WHAT IT READS IS OF BULK AT MOST 1048576: true; the input reads as it did. -/
def pasteGrowsUptoRow : OpenClaim := { program := "ytamhebjejgcbjaa", sum := "02b88500513f64e68b08cd4b4bfe1da3cee2a39d84bbf3237288abc0fcbad393", func := "penstock/penstocklaw13.PasteGrows", spec := "pasteGrows", unfollowed := true, recurses := true, apart := false, narrowed := true }
def PasteGrowsUptoSaid : Prop := pasteGrowsUptoRow.holds Try.pinned (OpenSpec.upto pasteGrowsSpec)

/-- 'penstocklaw13.PasteHolds', WHERE WHAT IT READS IS OF BULK AT MOST 1048576: true; the input reads as it did. -/
def pasteHoldsUptoRow : OpenClaim := { program := "ytamhebjejgcbjaa", sum := "02b88500513f64e68b08cd4b4bfe1da3cee2a39d84bbf3237288abc0fcbad393", func := "penstock/penstocklaw13.PasteHolds", spec := "pasteHolds", unfollowed := true, recurses := true, apart := false, narrowed := true }
def PasteHoldsUptoSaid : Prop := pasteHoldsUptoRow.holds Try.pinned (OpenSpec.upto pasteHoldsSpec)

/-- 'penstocklaw13.PasteMakes', WHERE WHAT IT READS IS OF BULK AT MOST 1048576: true; the input reads as it did. -/
def pasteMakesUptoRow : OpenClaim := { program := "ytamhebjejgcbjaa", sum := "02b88500513f64e68b08cd4b4bfe1da3cee2a39d84bbf3237288abc0fcbad393", func := "penstock/penstocklaw13.PasteMakes", spec := "pasteMakes", unfollowed := true, recurses := true, apart := false, narrowed := true }
def PasteMakesUptoSaid : Prop := pasteMakesUptoRow.holds Try.pinned (OpenSpec.upto pasteMakesSpec)

/-- 'penstocklaw13.PasteMeans', WHERE WHAT IT READS IS OF BULK AT MOST 1048576: true; the input reads as it did. -/
def pasteMeansUptoRow : OpenClaim := { program := "ytamhebjejgcbjaa", sum := "02b88500513f64e68b08cd4b4bfe1da3cee2a39d84bbf3237288abc0fcbad393", func := "penstock/penstocklaw13.PasteMeans", spec := "pasteMeans", unfollowed := true, recurses := true, apart := false, narrowed := true }
def PasteMeansUptoSaid : Prop := pasteMeansUptoRow.holds Try.pinned (OpenSpec.upto pasteMeansSpec)

/-- 'penstocklaw13.PasteRefuses', WHERE WHAT IT READS IS OF BULK AT MOST 1048576: true; the input reads as it did. -/
def pasteRefusesUptoRow : OpenClaim := { program := "ytamhebjejgcbjaa", sum := "02b88500513f64e68b08cd4b4bfe1da3cee2a39d84bbf3237288abc0fcbad393", func := "penstock/penstocklaw13.PasteRefuses", spec := "pasteRefuses", unfollowed := true, recurses := true, apart := false, narrowed := true }
def PasteRefusesUptoSaid : Prop := pasteRefusesUptoRow.holds Try.pinned (OpenSpec.upto pasteRefusesSpec)

/-- 'penstocklaw14.JoinMakes', WHERE WHAT IT READS IS OF BULK AT MOST 1048576: true; the input reads as it did. -/
def joinMakesUptoRow : OpenClaim := { program := "ytamhebjejgcbjaa", sum := "02b88500513f64e68b08cd4b4bfe1da3cee2a39d84bbf3237288abc0fcbad393", func := "penstock/penstocklaw14.JoinMakes", spec := "joinMakes", unfollowed := true, recurses := true, apart := false, narrowed := true }
def JoinMakesUptoSaid : Prop := joinMakesUptoRow.holds Try.pinned (OpenSpec.upto joinMakesSpec)

/-- 'penstocklaw14.JoinMeans', WHERE WHAT IT READS IS OF BULK AT MOST 1048576: true; the input reads as it did. -/
def joinMeansUptoRow : OpenClaim := { program := "ytamhebjejgcbjaa", sum := "02b88500513f64e68b08cd4b4bfe1da3cee2a39d84bbf3237288abc0fcbad393", func := "penstock/penstocklaw14.JoinMeans", spec := "joinMeans", unfollowed := true, recurses := true, apart := false, narrowed := true }
def JoinMeansUptoSaid : Prop := joinMeansUptoRow.holds Try.pinned (OpenSpec.upto joinMeansSpec)

/-- 'penstocklaw14.JoinHolds', WHERE WHAT IT READS IS OF BULK AT MOST 1048576: true; the input reads as it did. -/
def joinHoldsUptoRow : OpenClaim := { program := "ytamhebjejgcbjaa", sum := "02b88500513f64e68b08cd4b4bfe1da3cee2a39d84bbf3237288abc0fcbad393", func := "penstock/penstocklaw14.JoinHolds", spec := "joinHolds", unfollowed := true, recurses := true, apart := false, narrowed := true }
def JoinHoldsUptoSaid : Prop := joinHoldsUptoRow.holds Try.pinned (OpenSpec.upto joinHoldsSpec)

/-- 'penstocklaw14.JoinRefuses', WHERE WHAT IT READS IS OF BULK AT MOST 1048576: true; the input reads as it did. -/
def joinRefusesUptoRow : OpenClaim := { program := "ytamhebjejgcbjaa", sum := "02b88500513f64e68b08cd4b4bfe1da3cee2a39d84bbf3237288abc0fcbad393", func := "penstock/penstocklaw14.JoinRefuses", spec := "joinRefuses", unfollowed := true, recurses := true, apart := false, narrowed := true }
def JoinRefusesUptoSaid : Prop := joinRefusesUptoRow.holds Try.pinned (OpenSpec.upto joinRefusesSpec)

/-- 'penstocklaw14.JoinChunks', WHERE WHAT IT READS IS OF BULK AT MOST 1048576: true; the input reads as it did. -/
def joinChunksUptoRow : OpenClaim := { program := "ytamhebjejgcbjaa", sum := "02b88500513f64e68b08cd4b4bfe1da3cee2a39d84bbf3237288abc0fcbad393", func := "penstock/penstocklaw14.JoinChunks", spec := "joinChunks", unfollowed := true, recurses := true, apart := false, narrowed := true }
def JoinChunksUptoSaid : Prop := joinChunksUptoRow.holds Try.pinned (OpenSpec.upto joinChunksSpec)

/-- 'penstocklaw14.JoinGrows', WHERE WHAT IT READS IS OF BULK AT MOST 1048576: true; the input reads as it did. -/
def joinGrowsUptoRow : OpenClaim := { program := "ytamhebjejgcbjaa", sum := "02b88500513f64e68b08cd4b4bfe1da3cee2a39d84bbf3237288abc0fcbad393", func := "penstock/penstocklaw14.JoinGrows", spec := "joinGrows", unfollowed := true, recurses := true, apart := false, narrowed := true }
def JoinGrowsUptoSaid : Prop := joinGrowsUptoRow.holds Try.pinned (OpenSpec.upto joinGrowsSpec)

/-- 'penstocklaw14.JoinPairs', WHERE WHAT IT READS IS OF BULK AT MOST 1048576: true; the input reads as it did. -/
def joinPairsUptoRow : OpenClaim := { program := "ytamhebjejgcbjaa", sum := "02b88500513f64e68b08cd4b4bfe1da3cee2a39d84bbf3237288abc0fcbad393", func := "penstock/penstocklaw14.JoinPairs", spec := "joinPairs", unfollowed := true, recurses := true, apart := false, narrowed := true }
def JoinPairsUptoSaid : Prop := joinPairsUptoRow.holds Try.pinned (OpenSpec.upto joinPairsSpec)

end Rows
end Go.Proofs.Ytamhebjejgcbjaa
