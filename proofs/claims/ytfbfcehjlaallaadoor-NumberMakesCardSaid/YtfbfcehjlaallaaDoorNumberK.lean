/- number: what its laws need of it. -/
import Derived.Test.YtfbfcehjlaallaaDoorNumP
import Derived.Test.YtfbfcehjlaallaaDoorOneP
import Derived.Laws.EntriesVeiled
namespace Go.Proofs.YtfbfcehjlaallaaDoor.Number
open Go Go.RowKit

abbrev kind : Int := 10
abbrev M : Mach := numK.mach
def E (B : Nat) (w : World) : Prop := TabOk B w
def s0 (n : Int) : LS Int := { over := false, beg := [], t := n }
def den (n : Int) (ins : List Strm) : Den := numDen n (only ins)
abbrev bound : Int := 64

def fitP (p : Prm) : Prop := refCheck p = 0 ∧ p.kind = kind

theorem E_on {B : Nat} {w w' : World} (hb : Below B w w') (h : E B w) : E B w' := TabOk.on hb h

theorem fit_n {p : Prm} (h : fitP p) : 0 ≤ p.n ∧ p.n ≤ 1000000000 ∧ refArity p = (1, 1) ∧ refHolds p = 64 := by
  have h0 := h.1
  have hk : p.kind = 10 := h.2
  have hr := refRow_of h0
  have e1 : refArity p = (1, 1) := by unfold refArity; rw [if_neg (by simp [h0])]; simp [hk]
  have e2 : refHolds p = 64 := by unfold refHolds; simp [hk]
  simp [refRow, hk, wi] at hr
  exact ⟨by omega, by omega, e1, e2⟩

/-- As many inputs as are wanted. -/
def fitI (p : Prm) (ins : List Strm) : Prop := fitP p ∧ (ins.length : Int) = (refArity p).1
theorem fit_one {p : Prm} {ins : List Strm} (h : fitI p ins) : ins.length = 1 := by
  have hi := h.2
  rw [(fit_n h.1).2.2.1] at hi
  dsimp only at hi
  omega

theorem drive_ok (p : Prm) (ins : List Strm) (h : fitI p ins) (hl : ∀ s ∈ ins, s.bs.length ≤ 10000) (cuts : List Int) : DEnd M (den p.n ins) bound (drive M (s0 p.n) ins cuts) := by
  have e := only_of (fit_one h)
  have hn := fit_n h.1
  have := hl (only ins) (by rw [e]; simp [only])
  have h2 := num_drive p.n hn.1 hn.2.1 (only ins) (by omega) cuts
  rw [← e] at h2
  exact h2

theorem bound_le (p : Prm) (h : fitP p) : bound ≤ refHolds p := by rw [(fit_n h).2.2.2]; decide

theorem grow_ok (p : Prm) (a b : List Strm) (h : fitI p a) (hl : a.length = b.length) (hg : ∀ q ∈ a.zip b, Grow q.1 q.2) : GrowOk (den p.n a) (den p.n b) := by
  have ea := only_of (fit_one h)
  have eb := only_of (hl ▸ fit_one h)
  refine lines_grow numK p.n (only a) (only b) (hg (only a, only b) ?_)
  rw [ea, eb]; simp [only]

theorem cells0 (b : Int) : Tryd.zeroCells64.setIfInBounds 71 (.int .i64 b) = lines0 .nilFunc .nilFunc [.int .i64 b] := by kernel_rfl

set_option maxHeartbeats 1000000 in
set_option maxRecDepth 100000 in
theorem new_any (D : Nat → Prop) (p : Prm) (h : fitP p) (v : Value) (w : World) (hv : PAt w D v p) (B : Nat) (hB : B ≤ w.heap.size) (hE : E B w) :
    Calls Tryd.prog 13 #[v] w (NewPost 62 M (E B) B (s0 p.n) w) := by
  have hn := fit_n h
  have hck := fun (W : World) (hW : Chg (fun _ => False) w W) => fcheck_ok D p h.1 (by have : p.kind = 10 := h.2; omega) v W (hv.chg hW (fun _ _ _ h => h))
  rw [show p.kind = 10 from h.2] at hck
  replace hck := Lib.hid hck
  obtain ⟨A, ca, Bb, cb, rfl, _, _⟩ := hv
  rw [show p.kind = 10 from h.2] at hck ⊢
  have hst : Blk (w.alloc (.cells #[.int .i64 10, .int .i64 p.n, .slice A p.a.length ca, .slice Bb p.b.length cb] 24)) w.heap.size 24 #[.int .i64 10, .int .i64 p.n, .slice A p.a.length ca, .slice Bb p.b.length cb] := Blk.new _ _ _
  have y69 : Tryd.zeroCells64[69]? = some Value.nilFunc := by kernel_rfl
  have y70 : Tryd.zeroCells64[70]? = some Value.nilFunc := by kernel_rfl
  go_enter Tryd.func13, Tryd.ntmps13
  go_wp2_with (first
    | (go_at_call 17
       refine (hck.out _ ((Chg.refl _ _).alloc _)).mono ?_
       rintro e1 w1 ⟨rfl, hc1⟩
       have q1 : w1.cell? ⟨w.heap.size, 1, none⟩ = some (.int .i64 p.n) := ((hst.chg hc1 (fun h => h)).cell 1).trans rfl))
  go_ret2
  have hs : w.heap.size + 1 ≤ w1.heap.size := by have := hc1.size; simp at this; exact this
  have hcc : Chg (fun _ => False) w w1 := ((Chg.refl _ _).alloc _).trans hc1 (fun _ h _ => h)
  refine ⟨w1.heap.size, fun j => j = w1.heap.size, rfl, ⟨_, _, _, _, _, _, _, _, _, _, _, _, _, rfl, num_mach (B := B) (g := w1.heap.size) (by omega), ⟨fun j => Iff.rfl, by omega, lines0 _ _ [.int .i64 p.n], ?_, lines0_cells _ _ _, ⟨rfl, by show _ ≤ p.n; omega, by show p.n ≤ _; omega⟩⟩, ?_⟩, fun k hk => by omega, ?_⟩
  · exact Blk_eq (Blk.new _ _ _) (by rw [cells0]; rfl)
  · exact E_on (Chg.below (hcc.alloc _) hB (fun _ h => h.elim)) hE
  · exact hcc.alloc _

def awN : Int := 9
def awB : Bs := [97, 10, 98]
def awO : Bs := [57, 32, 97, 10, 49, 48, 32, 98, 10]
def awIns : List Strm := [⟨awB, true, 0, 0, 0⟩]
theorem aw_fit : fitI ⟨kind, awN, [], []⟩ awIns := ⟨⟨by decide, rfl⟩, by decide⟩
theorem aw_den : (den awN awIns).outs 0 = awO ∧ (den awN awIns).need = -1 ∧ (den awN awIns).err = 0 := by
  refine ⟨?_, rfl, rfl⟩
  have h := num_outs 9 (by omega) (by omega) ⟨awB, true, 0, 0, 0⟩ (by decide) 0
  have e : refLines ⟨awB, true, 0, 0, 0⟩ = ⟨[[97], [98]], true, 0, 0, 0⟩ := by rfl
  rw [e] at h
  refine h.trans ?_
  have i1 : Lib.itoa ((9 : Nat) : Int) = [57] := by rw [Lib.itoa_nonneg, Lib.decDigits_one (by omega)]; rfl
  have i2 : Lib.itoa ((10 : Nat) : Int) = [49, 48] := by rw [Lib.itoa_nonneg, Lib.decDigits_two (by omega) (by omega)]; rfl
  have i1 : Lib.itoa (9 : Int) = [57] := i1
  have i2 : Lib.itoa (9 + 1 : Int) = [49, 48] := i2
  simp only [numText, nPiece, i1, i2, awO, if_true]
  rfl
end Go.Proofs.YtfbfcehjlaallaaDoor.Number
