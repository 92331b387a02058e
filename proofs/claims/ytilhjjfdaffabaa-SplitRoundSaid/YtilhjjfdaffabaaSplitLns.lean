/- penstocklaw16's lines: the lines of bytes that have ended. -/
import Derived.Test.YtilhjjfdaffabaaSplitAwake
import Derived.Test.YtilhjjfdaffabaaRef4
import Derived.Deep.RegionHeld3
import Derived.Deep.DrawnRows
import Derived.BigQuiet
import Derived.Outline
namespace Go.Proofs.Ytilhjjfdaffabaa.Split
open Go Go.RowKit

def LnsPost (w : World) (r : RdL) (e : Ending) (w' : World) : Prop :=
  ∃ (A : Option Addr) (c : Nat), e = .returned (.tuple #[.slice A r.lines.length c, .bool r.all]) ∧ Rd w' (fun _ => True) 1 A r.lines.length (r.lines.map strv) ∧ Chg (fun _ => False) w w'

set_option maxRecDepth 100000 in
theorem lns_any (b : Bs) (A : Option Addr) (c : Nat) (w : World) (hb : Rd w (fun _ => True) 1 A b.length (u8s b)) (hcb : b.length ≤ c) (hl : b.length ≤ 1048576) :
    Calls Try.prog 24 #[.slice A b.length c] w (LnsPost w (refLines ⟨b, true, 0, 0, 0⟩)) := by
  have hli := lines_any (fun _ => True) ⟨b, true, 0, 0, 0⟩ _ w ⟨A, c, rfl, hb, hcb⟩ (by dsimp only; omega)
  generalize refLines ⟨b, true, 0, 0, 0⟩ = r at *
  go_enter Try.func24, Try.ntmps24
  go_wp2_with (first
    | (go_at_call 33
       refine hli.mono ?_
       rintro e1 w1 ⟨v1, rfl, hown1, hb1⟩
       obtain ⟨A5, c5, rfl, hrd1⟩ := own_rd hown1))
  have k1 : Chg (fun _ => False) w w1 := Chg.of_below hb1
  have hrd2 : Rd w1 (fun _ => True) 1 A5 r.lines.length (r.lines.map strv) := hrd1.mono (fun _ _ _ => trivial)
  clear hown1 hrd1 hb1
  go_quiet (fail)
  go_wp2
  go_ret2
  exact ⟨A5, c5, rfl, hrd2.chg (S := fun _ => False) (((Chg.refl _ _).alloc _).drewN _) (fun _ _ _ h => h), (k1.alloc _).drewN _⟩
end Go.Proofs.Ytilhjjfdaffabaa.Split
