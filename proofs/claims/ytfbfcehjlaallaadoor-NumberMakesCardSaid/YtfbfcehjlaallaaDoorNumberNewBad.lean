/- number.New of parameters that may not be. -/
import Derived.Test.YtfbfcehjlaallaaDoorChkAny
import Derived.Test.YtfbfcehjlaallaaDoorNumberK
namespace Go.Proofs.YtfbfcehjlaallaaDoor.Number
open Go Go.RowKit

def BadPost (r : Int) (w : World) (e : Ending) (w' : World) : Prop := e = .returned (.tuple #[.nilIface, .int .i64 r]) ∧ Chg (fun _ => False) w w'

set_option maxRecDepth 100000 in
theorem new_bad (D : Nat → Prop) (p : Prm) (hp : p.Fine) (hal : p.a.length ≤ 100000) (hq : wantOf 10 p ≠ 0) (v : Value) (w : World) (hv : PAt w D v p) :
    Calls Tryd.prog 13 #[v] w (BadPost (wantOf 10 p) w) := by
  have hck := fun (W : World) (hW : Chg (fun _ => False) w W) => fcheck_any D p hp hal 10 v W (hv.chg hW (fun _ _ _ h => h))
  generalize wantOf 10 p = r at *
  replace hck := Lib.hid hck
  have hq1 : (r != 0) = true := by rw [bne_iff_ne]; exact hq
  replace hq := Lib.hid hq
  obtain ⟨A, ca, Bb, cb, rfl, _, _⟩ := hv
  go_enter Tryd.func13, Tryd.ntmps13
  go_wp2_with (first
    | (go_at_call 17
       refine (hck.out _ ((Chg.refl _ _).alloc _)).mono ?_
       rintro e1 w1 ⟨rfl, hc1⟩))
  go_ret2
  exact ⟨rfl, ((Chg.refl _ _).alloc _).trans hc1 (fun _ h _ => h)⟩
end Go.Proofs.YtfbfcehjlaallaaDoor.Number
