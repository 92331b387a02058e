/- count.New of parameters that may not be. -/
import Derived.Test.YtkgmbomfkdkofaaChkAny
import Derived.Test.YtkgmbomfkdkofaaCountK
namespace Go.Proofs.Ytkgmbomfkdkofaa.Count
open Go Go.RowKit

def BadPost (r : Int) (w : World) (e : Ending) (w' : World) : Prop := e = .returned (.tuple #[.nilIface, .int .i64 r]) ∧ Chg (fun _ => False) w w'

set_option maxRecDepth 100000 in
theorem new_bad (D : Nat → Prop) (p : Prm) (hp : p.Fine) (hal : p.a.length ≤ 100000) (hq : wantOf 9 p ≠ 0) (v : Value) (w : World) (hv : PAt w D v p) :
    Calls Try.prog 12 #[v] w (BadPost (wantOf 9 p) w) := by
  have hck := fun (W : World) (hW : Chg (fun _ => False) w W) => fcheck_any D p hp hal 9 v W (hv.chg hW (fun _ _ _ h => h))
  generalize wantOf 9 p = r at *
  replace hck := Lib.hid hck
  have hq1 : (r != 0) = true := by rw [bne_iff_ne]; exact hq
  replace hq := Lib.hid hq
  obtain ⟨A, ca, Bb, cb, rfl, _, _⟩ := hv
  go_enter Try.func12, Try.ntmps12
  go_wp2_with (first
    | (go_at_call 28
       refine (hck.out _ ((Chg.refl _ _).alloc _)).mono ?_
       rintro e1 w1 ⟨rfl, hc1⟩))
  go_ret2
  exact ⟨rfl, ((Chg.refl _ _).alloc _).trans hc1 (fun _ h _ => h)⟩
end Go.Proofs.Ytkgmbomfkdkofaa.Count
