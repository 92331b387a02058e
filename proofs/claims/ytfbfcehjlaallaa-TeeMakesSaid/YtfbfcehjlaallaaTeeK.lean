/- tee: what its laws need of it. -/
import Derived.Test.YtfbfcehjlaallaaTeeM
import Derived.Test.YtfbfcehjlaallaaOneQ
namespace Go.Proofs.Ytfbfcehjlaallaa.Tee
open Go Go.RowKit

abbrev kind : Int := 15
abbrev M : Mach := teeM
def E (_ : Nat) (_ : World) : Prop := True
def s0 (n : Int) : TeS := ⟨n.toNat, false⟩
def den (n : Int) (ins : List Strm) : Den := teeDen n.toNat (only ins)
abbrev bound : Int := 0

def fitP (p : Prm) : Prop := refCheck p = 0 ∧ p.kind = kind

theorem E_on {B : Nat} {w w' : World} (_ : Below B w w') (_ : E B w) : E B w' := trivial

theorem fit_n {p : Prm} (h : fitP p) : 1 ≤ p.n ∧ p.n ≤ 4 ∧ refArity p = (1, p.n) ∧ refHolds p = 0 := by
  have h0 := h.1
  have hk : p.kind = 15 := h.2
  have hr := refRow_of h0
  have e1 : refArity p = (1, p.n) := by unfold refArity; rw [if_neg (by simp [h0])]; simp [hk]
  have e2 : refHolds p = 0 := by unfold refHolds; simp [hk]
  simp [refRow, hk, wi] at hr
  exact ⟨by omega, by omega, e1, e2⟩

/-- As many inputs as are wanted. -/
def fitI (p : Prm) (ins : List Strm) : Prop := fitP p ∧ (ins.length : Int) = (refArity p).1
theorem fit_one {p : Prm} {ins : List Strm} (h : fitI p ins) : ins.length = 1 := by
  have hi := h.2
  rw [(fit_n h.1).2.2.1] at hi
  dsimp only at hi
  omega

theorem drive_ok (p : Prm) (ins : List Strm) (h : fitI p ins) (hl : ∀ s ∈ ins, s.bs.length ≤ 10000) (cuts : List Int) : DEnd M (den p.n ins) bound (drive M (s0 p.n) ins cuts) := by
  have e := only_of (fit_one h)
  have hn := fit_n h.1
  have := hl (only ins) (by rw [e]; simp [only])
  have h2 := tee_drive p.n.toNat (by omega) (only ins) (by omega) cuts
  rw [← e] at h2
  exact h2

theorem bound_le (p : Prm) (h : fitP p) : bound ≤ refHolds p := by rw [(fit_n h).2.2.2]; decide

theorem grow_ok (p : Prm) (a b : List Strm) (h : fitI p a) (hl : a.length = b.length) (hg : ∀ q ∈ a.zip b, Grow q.1 q.2) : GrowOk (den p.n a) (den p.n b) := by
  have ea := only_of (fit_one h)
  have eb := only_of (hl ▸ fit_one h)
  refine tee_grow p.n.toNat (only a) (only b) (hg (only a, only b) ?_)
  rw [ea, eb]; simp [only]

set_option maxHeartbeats 1000000 in
set_option maxRecDepth 100000 in
theorem new_any (D : Nat → Prop) (p : Prm) (h : fitP p) (v : Value) (w : World) (hv : PAt w D v p) (B : Nat) (hB : B ≤ w.heap.size) (_ : E B w) :
    Calls Try.prog 26 #[v] w (NewPost 76 M (E B) B (s0 p.n) w) := by
  have hn := fit_n h
  have hnn : ((p.n.toNat : Nat) : Int) = p.n := by omega
  have hck := fun (W : World) (hW : Chg (fun _ => False) w W) => fcheck_ok D p h.1 (by have : p.kind = 15 := h.2; omega) v W (hv.chg hW (fun _ _ _ h => h))
  rw [show p.kind = 15 from h.2] at hck
  replace hck := Lib.hid hck
  obtain ⟨A, ca, Bb, cb, rfl, _, _⟩ := hv
  rw [show p.kind = 15 from h.2] at hck ⊢
  have hst : Blk (w.alloc (.cells #[.int .i64 15, .int .i64 p.n, .slice A p.a.length ca, .slice Bb p.b.length cb] 24)) w.heap.size 24 #[.int .i64 15, .int .i64 p.n, .slice A p.a.length ca, .slice Bb p.b.length cb] := Blk.new _ _ _
  replace hnn := Lib.hid hnn
  go_enter Try.func26, Try.ntmps26
  go_wp2_with (first
    | (go_at_call 33
       refine (hck.out _ ((Chg.refl _ _).alloc _)).mono ?_
       rintro e1 w1 ⟨rfl, hc1⟩
       have q1 : w1.cell? ⟨w.heap.size, 1, none⟩ = some (.int .i64 p.n) := ((hst.chg hc1 (fun h => h)).cell 1).trans rfl))
  go_ret2
  have hs : w.heap.size + 1 ≤ w1.heap.size := by have := hc1.size; simp at this; exact this
  have hcc : Chg (fun _ => False) w w1 := ((Chg.refl _ _).alloc _).trans hc1 (fun _ h _ => h)
  refine ⟨w1.heap.size, fun j => j = w1.heap.size, rfl, ⟨_, _, _, _, _, _, _, _, _, _, _, _, _, rfl, te_mach (B := B) (g := w1.heap.size), ⟨fun j => Iff.rfl, by omega, ?_, by unfold s0; dsimp only; omega⟩, trivial⟩, fun k hk => by omega, ?_⟩
  · unfold teC s0
    dsimp only
    rw [hnn.out]
    exact Blk.new _ _ _
  · exact hcc.alloc _

def awN : Int := 2
def awB : Bs := [97, 98]
def awO : Bs := [97, 98]
def awIns : List Strm := [⟨awB, true, 0, 0, 0⟩]
theorem aw_fit : fitI ⟨kind, awN, [], []⟩ awIns := ⟨⟨by decide, rfl⟩, by decide⟩
theorem aw_den : (den awN awIns).outs 0 = awO ∧ (den awN awIns).need = -1 ∧ (den awN awIns).err = 0 := by
  exact ⟨rfl, rfl, rfl⟩
end Go.Proofs.Ytfbfcehjlaallaa.Tee
