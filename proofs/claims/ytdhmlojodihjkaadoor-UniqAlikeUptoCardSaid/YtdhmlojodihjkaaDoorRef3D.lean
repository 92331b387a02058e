/- penstockref03's Check, Arity, Bound. -/
import Derived.Test.YtdhmlojodihjkaaDoorRef3C
namespace Go.Proofs.YtdhmlojodihjkaaDoor
open Go Go.RowKit

def ErrPost (w : World) (r : Int) (e : Ending) (w' : World) : Prop := e = .returned (.int .i64 r) ∧ Chg (fun _ => False) w w'

set_option linter.unusedSimpArgs false in
set_option maxHeartbeats 2000000 in
set_option maxRecDepth 100000 in
theorem check_any (D : Nat → Prop) (p : Prm) (hp : p.Fine) (v : Value) (w : World) (h : PAt w D v p) :
    Calls Tryd.prog 19 #[v] w (ErrPost w (refCheck p)) := by
  have hfin : ∀ r w', Chg (fun _ => False) w w' → r = refCheck p → ErrPost w (refCheck p) (.returned (.int .i64 r)) w' := fun r w' hc e => ⟨by rw [e], hc⟩
  have hfin := Lib.hid hfin
  have hrow := fun (W : World) (hW : Chg (fun _ => False) w W) (hk : 1 ≤ p.kind ∧ p.kind ≤ 16) => row_any D p hp v W (h.chg hW (fun _ _ _ h => h)) hk
  have hhold := fun (hr : refRow p = true) (hk : 1 ≤ p.kind ∧ p.kind ≤ 16) (va vb : Value) (W : World) => holds_any p hr hk va vb W
  obtain ⟨A, ca, B, cb, rfl, hA, hB⟩ := h
  by_cases h1 : p.kind < 1
  · go_enter Tryd.func19, Tryd.ntmps19
    go_wp2
    go_ret
    exact hfin.out _ _ ((Chg.refl _ _).alloc _) (by simp [refCheck, h1])
  by_cases h2 : 16 < p.kind
  · have h1' : 1 ≤ p.kind := by omega
    go_enter Tryd.func19, Tryd.ntmps19
    go_wp2
    go_ret
    exact hfin.out _ _ ((Chg.refl _ _).alloc _) (by simp [refCheck, h2])
  have hk : 1 ≤ p.kind ∧ p.kind ≤ 16 := by omega
  have h1' : 1 ≤ p.kind := by omega
  have h2' : p.kind ≤ 16 := by omega
  cases hr : refRow p with
  | false =>
    have hr' := Lib.hid hr
    rw [hr] at hrow
    clear hr
    go_enter Tryd.func19, Tryd.ntmps19
    go_wp2_with
      first
      | (go_at_call 41
         refine (hrow _ ((Chg.refl _ _).alloc _) hk).mono ?_
         rintro e1 w1 ⟨rfl, hc1⟩)
      | fail
    go_ret
    exact hfin.out _ _ (((Chg.refl _ _).alloc _).trans hc1 (fun _ h _ => h)) (by simp [refCheck, h1, h2, hr'.out])
  | true =>
    have hr' := Lib.hid hr
    rw [hr] at hrow
    have hhold := hhold hr hk
    clear hr
    obtain ⟨β, hb⟩ := bool_any (decide (refHolds p > 2048))
    have hb' := Lib.hid hb
    cases β
    all_goals
      go_enter Tryd.func19, Tryd.ntmps19
      go_wp2_with
        first
        | (go_at_call 41
           refine (hrow _ ((Chg.refl _ _).alloc _) hk).mono ?_
           rintro e1 w1 ⟨rfl, hc1⟩
           have hb6 : Blk w1 w.heap.size 24 #[.int .i64 p.kind, .int .i64 p.n, .slice A p.a.length ca, .slice B p.b.length cb] := (Blk.new w _ _).chg hc1 (fun h => h)
           have q0 : w1.cell? ⟨w.heap.size, 0, none⟩ = some (.int .i64 p.kind) := hb6.cell 0
           have q1 : w1.cell? ⟨w.heap.size, 1, none⟩ = some (.int .i64 p.n) := hb6.cell 1
           have q2 : w1.cell? ⟨w.heap.size, 2, none⟩ = some (.slice A p.a.length ca) := hb6.cell 2
           have q3 : w1.cell? ⟨w.heap.size, 3, none⟩ = some (.slice B p.b.length cb) := hb6.cell 3
           clear hb6)
        | (go_at_call 42
           refine (hhold _ _ _).mono ?_
           rintro e1 w2 ⟨rfl, hc2⟩)
        | fail
      go_ret
      have hb2 := hb'.out
      simp at hb2
      exact hfin.out _ _ ((((Chg.refl _ _).alloc _).trans hc1 (fun _ h _ => h)).trans hc2 (fun _ h _ => h)) (by simp [refCheck, h1, h2, hr'.out]; try omega)
end Go.Proofs.YtdhmlojodihjkaaDoor
