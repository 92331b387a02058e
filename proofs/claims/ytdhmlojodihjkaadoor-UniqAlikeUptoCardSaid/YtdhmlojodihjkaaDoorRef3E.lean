/- penstockref03's Arity and Bound. -/
import Derived.Test.YtdhmlojodihjkaaDoorRef3D
import Derived.BigQuiet
namespace Go.Proofs.YtdhmlojodihjkaaDoor
open Go Go.RowKit

def ArPost (w : World) (p : Prm) (e : Ending) (w' : World) : Prop := e = .returned (.tuple #[.int .i64 (refArity p).1, .int .i64 (refArity p).2, .int .i64 (refCheck p)]) ∧ Chg (fun _ => False) w w'

theorem kind_of {p : Prm} (h : refCheck p = 0) : 1 ≤ p.kind ∧ p.kind ≤ 16 := by
  unfold refCheck at h
  split at h
  · cases h
  · omega

set_option maxHeartbeats 2000000 in
set_option maxRecDepth 100000 in
theorem arity_any (D : Nat → Prop) (p : Prm) (hp : p.Fine) (v : Value) (w : World) (h : PAt w D v p) :
    Calls Tryd.prog 46 #[v] w (ArPost w p) := by
  have hfin : ∀ a b c w', Chg (fun _ => False) w w' → (a, b) = refArity p → c = refCheck p → ArPost w p (.returned (.tuple #[.int .i64 a, .int .i64 b, .int .i64 c])) w' := fun a b c w' hc e1 e2 => by
    unfold ArPost
    rw [← e1, ← e2]
    exact ⟨rfl, hc⟩
  have hfin := Lib.hid hfin
  have hck := fun (W : World) (hW : Chg (fun _ => False) w W) => check_any D p hp v W (h.chg hW (fun _ _ _ h => h))
  have hck := Lib.hid hck
  obtain ⟨A, ca, B, cb, rfl, hA, hB⟩ := h
  clear hA hB hp
  obtain ⟨kind, n, a, b⟩ := p
  dsimp only at *
  have hst : Blk (w.alloc (.cells #[.int .i64 kind, .int .i64 n, .slice A a.length ca, .slice B b.length cb] 24)) w.heap.size 24 #[.int .i64 kind, .int .i64 n, .slice A a.length ca, .slice B b.length cb] := Blk.new _ _ _
  by_cases h0 : refCheck ⟨kind, n, a, b⟩ = 0
  · have hk := kind_of h0
    dsimp only at hk
    have h0' := Lib.hid h0
    rw [h0] at hck
    have hk2 : kind = 1 ∨ kind = 2 ∨ kind = 3 ∨ kind = 4 ∨ kind = 5 ∨ kind = 6 ∨ kind = 7 ∨ kind = 8 ∨ kind = 9 ∨ kind = 10 ∨ kind = 11 ∨ kind = 12 ∨ kind = 13 ∨ kind = 14 ∨ kind = 15 ∨ kind = 16 := by omega
    clear hk h0
    rcases hk2 with rfl | rfl | rfl | rfl | rfl | rfl | rfl | rfl | rfl | rfl | rfl | rfl | rfl | rfl | rfl | rfl
    all_goals
      go_enter Tryd.func46, Tryd.ntmps46
      go_wp2_with (first
        | (go_at_call 19
           refine (hck.out _ ((Chg.refl _ _).alloc _)).mono ?_
           rintro e1 w1 ⟨rfl, hc1⟩
           have hb1 := hst.chg hc1 (fun h => h)
           have q1 : w1.cell? ⟨w.heap.size, 1, none⟩ = some (.int .i64 n) := hb1.cell 1
           have q0 := hb1.cell 0
           simp at q0))
      have hcc := ((Chg.refl _ _).alloc _).trans hc1 (fun _ h _ => h)
      clear hc1 hb1
      first
        | (go_ret3
           exact hfin.out _ _ _ _ hcc (by unfold refArity; rw [if_neg (by simp [h0'.out])]; simp) h0'.out.symm)
        | (go_quiet (fail)
           go_wp2
           go_ret3
           exact hfin.out _ _ _ _ (hcc.drewN _) (by unfold refArity; rw [if_neg (by simp [h0'.out])]; simp) h0'.out.symm)
  · have ht : (refCheck ⟨kind, n, a, b⟩ != 0) = true := by simpa using h0
    have e1 : ((0 : Int), (0 : Int)) = refArity ⟨kind, n, a, b⟩ := by unfold refArity; rw [if_pos h0]
    have e1 := Lib.hid e1
    generalize hrc : refCheck ⟨kind, n, a, b⟩ = rc at *
    have hrc := Lib.hid hrc
    go_enter Tryd.func46, Tryd.ntmps46
    go_wp2_with (first
      | (go_at_call 19
         refine (hck.out _ ((Chg.refl _ _).alloc _)).mono ?_
         rintro e1 w1 ⟨rfl, hc1⟩))
    go_ret3
    exact hfin.out _ _ _ _ (((Chg.refl _ _).alloc _).trans hc1 (fun _ h _ => h)) e1.out rfl

def BoundPost (w : World) (p : Prm) (e : Ending) (w' : World) : Prop := e = .returned (.tuple #[.int .i64 (refHolds p), .int .i64 0]) ∧ Chg (fun _ => False) w w'

set_option maxRecDepth 100000 in
theorem bound_ok (D : Nat → Prop) (p : Prm) (hp : p.Fine) (h0 : refCheck p = 0) (hr : refRow p = true) (v : Value) (w : World) (h : PAt w D v p) :
    Calls Tryd.prog 27 #[v] w (BoundPost w p) := by
  have hk := kind_of h0
  have hck := fun (W : World) (hW : Chg (fun _ => False) w W) => check_any D p hp v W (h.chg hW (fun _ _ _ h => h))
  rw [h0] at hck
  have hck := Lib.hid hck
  have hhold := fun (va vb : Value) (W : World) => holds_any p hr hk va vb W
  have hhold := Lib.hid hhold
  obtain ⟨A, ca, B, cb, rfl, hA, hB⟩ := h
  have hst : Blk (w.alloc (.cells #[.int .i64 p.kind, .int .i64 p.n, .slice A p.a.length ca, .slice B p.b.length cb] 24)) w.heap.size 24 #[.int .i64 p.kind, .int .i64 p.n, .slice A p.a.length ca, .slice B p.b.length cb] := Blk.new _ _ _
  clear hA hB hp h0 hr hk
  go_enter Tryd.func27, Tryd.ntmps27
  go_wp2_with (first
    | (go_at_call 19
       refine (hck.out _ ((Chg.refl _ _).alloc _)).mono ?_
       rintro e1 w1 ⟨rfl, hc1⟩
       have hb1 := hst.chg hc1 (fun h => h)
       have q0 : w1.cell? ⟨w.heap.size, 0, none⟩ = some (.int .i64 p.kind) := hb1.cell 0
       have q1 : w1.cell? ⟨w.heap.size, 1, none⟩ = some (.int .i64 p.n) := hb1.cell 1
       have q2 : w1.cell? ⟨w.heap.size, 2, none⟩ = some (.slice A p.a.length ca) := hb1.cell 2
       have q3 : w1.cell? ⟨w.heap.size, 3, none⟩ = some (.slice B p.b.length cb) := hb1.cell 3)
    | (go_at_call 42
       refine (hhold.out _ _ _).mono ?_
       rintro e2 w2 ⟨rfl, hc2⟩))
  go_ret2
  exact ⟨rfl, (((Chg.refl _ _).alloc _).trans hc1 (fun _ h _ => h)).trans hc2 (fun _ h _ => h)⟩
end Go.Proofs.YtdhmlojodihjkaaDoor
