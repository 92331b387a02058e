/-
  DERIVED. GIVEN WITH THE SEED: THE CARDS: each row of YtfbfcehjlaallaaDoorRows.lean that lists a variable, with what it lists TIED to the program's text (the seventh form; the later family's looks); each row that meets fmt, with fmt's text TOLD by the authors' own Lean function (tested against real Go, not proved from fmt's source: count such statements apart). THE CARD IS WHAT COUNTS. Prove the row's statement (the work); the ties are given (YtfbfcehjlaallaaDoorTie.lean); close each card by the builder's one call (the guide's Derived/Test/ToyasCard.lean, 'card_holds'). Laid BY PROGRAM, IN A SANDBOX (cutbox-door.mjs). By AI agents, Wed Nov 11 2026. No macro, syntax, notation, axiom, sorry.
-/
import Derived.Test.YtfbfcehjlaallaaDoorRows
import GoSem.ClaimSeven
namespace Go.Proofs.YtfbfcehjlaallaaDoor
namespace Rows

/-- THE TIED CARD OF 'penstocklaw09.UniqMakes'. -/
def uniqMakesCard : Claim7 := { stood := { row := uniqMakesRow, standIns := [], harness := (true, "95256e330089a4449c6b0b397b3bfd41862652c4f24dae13b2340578af6f4cbc"), looks := false }, kinds := [], alts := [], laidByText := true, laidKinds := [.data, .data, .data], laidTests := true, laidLooks := .later }
def UniqMakesCardSaid : Prop := Claim7.holds Tryd.pinned (.plain (OpenSpec.ofChange uniqMakesSpec)) uniqMakesCard

/-- THE TIED CARD OF 'penstocklaw11.NumberMakes'. -/
def numberMakesCard : Claim7 := { stood := { row := numberMakesRow, standIns := [], harness := (true, "95256e330089a4449c6b0b397b3bfd41862652c4f24dae13b2340578af6f4cbc"), looks := false }, kinds := [], alts := [], laidByText := true, laidKinds := [.data, .data, .data], laidTests := true, laidLooks := .later }
def NumberMakesCardSaid : Prop := Claim7.holds Tryd.pinned (.plain (OpenSpec.ofChange numberMakesSpec)) numberMakesCard

/-- THE SECOND FORM's CARD OF 'penstocklaw09.UniqMakes'. -/
def uniqMakesUptoCard : Claim7 := { stood := { row := uniqMakesUptoRow, standIns := [], harness := (true, "95256e330089a4449c6b0b397b3bfd41862652c4f24dae13b2340578af6f4cbc"), looks := false }, kinds := [], alts := [], laidByText := true, laidKinds := [.data, .data, .data], laidTests := true, laidLooks := .later }
def UniqMakesUptoCardSaid : Prop := Claim7.holds Tryd.pinned (.plain (OpenSpec.upto uniqMakesSpec)) uniqMakesUptoCard

/-- THE SECOND FORM's CARD OF 'penstocklaw11.NumberMakes'. -/
def numberMakesUptoCard : Claim7 := { stood := { row := numberMakesUptoRow, standIns := [], harness := (true, "95256e330089a4449c6b0b397b3bfd41862652c4f24dae13b2340578af6f4cbc"), looks := false }, kinds := [], alts := [], laidByText := true, laidKinds := [.data, .data, .data], laidTests := true, laidLooks := .later }
def NumberMakesUptoCardSaid : Prop := Claim7.holds Tryd.pinned (.plain (OpenSpec.upto numberMakesSpec)) numberMakesUptoCard
end Rows
end Go.Proofs.YtfbfcehjlaallaaDoor
