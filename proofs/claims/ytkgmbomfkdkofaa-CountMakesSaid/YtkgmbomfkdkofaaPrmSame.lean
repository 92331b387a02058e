/- penstockref03.Same of parameters that are alike. -/
import Derived.Test.YtkgmbomfkdkofaaRef3C
import Derived.Test.YtkgmbomfkdkofaaSame
namespace Go.Proofs.Ytkgmbomfkdkofaa
open Go Go.RowKit

set_option maxHeartbeats 1000000 in
set_option maxRecDepth 100000 in
theorem prm_same (D D' : Nat → Prop) (p : Prm) (u v : Value) (w : World) (hu : PAt w D u p) (hv : PAt w D' v p) :
    Calls Try.prog 13 #[u, v] w (TruePost w) := by
  obtain ⟨A, ca, B, cb, rfl, hA, hB⟩ := hu
  obtain ⟨A2, ca2, B2, cb2, rfl, hA2, hB2⟩ := hv
  have c1 := fun (W : World) (hW : Chg (fun _ => False) w W) => conv_rd W D A p.a ca (hA.chg hW (fun _ _ _ h => h))
  have c2 := fun (W : World) (hW : Chg (fun _ => False) w W) => conv_rd W D' A2 p.a ca2 (hA2.chg hW (fun _ _ _ h => h))
  have c3 := fun (W : World) (hW : Chg (fun _ => False) w W) => conv_rd W D B p.b cb (hB.chg hW (fun _ _ _ h => h))
  have c4 := fun (W : World) (hW : Chg (fun _ => False) w W) => conv_rd W D' B2 p.b cb2 (hB2.chg hW (fun _ _ _ h => h))
  clear hA hB hA2 hB2
  generalize hw0 : (w.alloc (.cells #[.int .i64 p.kind, .int .i64 p.n, .slice A p.a.length ca, .slice B p.b.length cb] 24)).alloc (.cells #[.int .i64 p.kind, .int .i64 p.n, .slice A2 p.a.length ca2, .slice B2 p.b.length cb2] 24) = w0
  have k0 : Chg (fun _ => False) w w0 := by rw [← hw0]; exact ((Chg.refl _ _).alloc _).alloc _
  have h1 := c1 w0 k0
  have h2 := c2 w0 k0
  have h3 := c3 w0 k0
  have h4 := c4 w0 k0
  rw [← hw0] at h1 h2 h3 h4
  subst hw0
  go_enter Try.func13, Try.ntmps13
  go_wp2
  go_ret
  exact ⟨rfl, k0⟩
end Go.Proofs.Ytkgmbomfkdkofaa
