/- chain: what its laws need of it. -/
import Derived.Test.YtfbfcehjlaallaaChainM
import Derived.Test.YtfbfcehjlaallaaChk2
import Derived.Test.YtfbfcehjlaallaaReady
namespace Go.Proofs.Ytfbfcehjlaallaa.Chain
open Go Go.RowKit

abbrev kind : Int := 12
abbrev M : Mach := chainM
def E (_ : Nat) (_ : World) : Prop := True
def s0 (n : Int) : ChS := ⟨n, 0, false⟩
def den (_ : Int) (ins : List Strm) : Den := chainDen ins
abbrev bound : Int := 0

def fitP (p : Prm) : Prop := refCheck p = 0 ∧ p.kind = kind

theorem E_on {B : Nat} {w w' : World} (_ : Below B w w') (_ : E B w) : E B w' := trivial

theorem fit_n {p : Prm} (h : fitP p) : 1 ≤ p.n ∧ p.n ≤ 4 ∧ refArity p = (p.n, 1) ∧ refHolds p = 0 := by
  have h0 := h.1
  have hk : p.kind = 12 := h.2
  have hr := refRow_of h0
  have e1 : refArity p = (p.n, 1) := by unfold refArity; rw [if_neg (by simp [h0])]; simp [hk]
  have e2 : refHolds p = 0 := by unfold refHolds; simp [hk]
  simp [refRow, hk, wi] at hr
  exact ⟨by omega, by omega, e1, e2⟩

/-- As many inputs as are wanted. -/
def fitI (p : Prm) (ins : List Strm) : Prop := fitP p ∧ (ins.length : Int) = (refArity p).1

theorem drive_ok (p : Prm) (ins : List Strm) (h : fitI p ins) (hl : ∀ s ∈ ins, s.bs.length ≤ 10000) (cuts : List Int) : DEnd M (den p.n ins) bound (drive M (s0 p.n) ins cuts) := by
  have hn := fit_n h.1
  have hi := h.2
  rw [hn.2.2.1] at hi
  dsimp only at hi
  have := chain_drive ins (by omega) (by omega) hl cuts
  unfold s0
  rw [← hi]
  exact this

theorem bound_le (p : Prm) (h : fitP p) : bound ≤ refHolds p := by rw [(fit_n h).2.2.2]; decide

theorem grow_ok (p : Prm) (a b : List Strm) (_ : fitI p a) (hl : a.length = b.length) (hg : ∀ q ∈ a.zip b, Grow q.1 q.2) : GrowOk (den p.n a) (den p.n b) := chain_grow a b hl hg

set_option maxRecDepth 100000 in
theorem new_any (D : Nat → Prop) (p : Prm) (h : fitP p) (v : Value) (w : World) (hv : PAt w D v p) (B : Nat) (hB : B ≤ w.heap.size) (_ : E B w) :
    Calls Try.prog 17 #[v] w (NewPost 55 M (E B) B (s0 p.n) w) := by
  have hn := fit_n h
  have hck := fun (W : World) (hW : Chg (fun _ => False) w W) => fcheck_ok D p h.1 (by have : p.kind = 12 := h.2; omega) v W (hv.chg hW (fun _ _ _ h => h))
  rw [show p.kind = 12 from h.2] at hck
  replace hck := Lib.hid hck
  obtain ⟨A, ca, Bb, cb, rfl, _, _⟩ := hv
  rw [show p.kind = 12 from h.2] at hck ⊢
  have hst : Blk (w.alloc (.cells #[.int .i64 12, .int .i64 p.n, .slice A p.a.length ca, .slice Bb p.b.length cb] 24)) w.heap.size 24 #[.int .i64 12, .int .i64 p.n, .slice A p.a.length ca, .slice Bb p.b.length cb] := Blk.new _ _ _
  go_enter Try.func17, Try.ntmps17
  go_wp2_with (first
    | (go_at_call 33
       refine (hck.out _ ((Chg.refl _ _).alloc _)).mono ?_
       rintro e1 w1 ⟨rfl, hc1⟩
       have q1 : w1.cell? ⟨w.heap.size, 1, none⟩ = some (.int .i64 p.n) := ((hst.chg hc1 (fun h => h)).cell 1).trans rfl))
  go_ret2
  have hs : w.heap.size + 1 ≤ w1.heap.size := by have := hc1.size; simp at this; exact this
  have hcc : Chg (fun _ => False) w w1 := ((Chg.refl _ _).alloc _).trans hc1 (fun _ h _ => h)
  refine ⟨w1.heap.size, fun j => j = w1.heap.size, rfl, ⟨_, _, _, _, _, _, _, _, _, _, _, _, _, rfl, ch_mach (B := B) (g := w1.heap.size), ⟨fun j => Iff.rfl, by omega, ?_, by unfold s0; dsimp only; omega, by unfold s0; dsimp only; omega, by unfold s0; dsimp only; omega, fun _ => by unfold s0; dsimp only; omega⟩, trivial⟩, fun k hk => by omega, ?_⟩
  · exact Blk.new _ _ _
  · exact hcc.alloc _
end Go.Proofs.Ytfbfcehjlaallaa.Chain
