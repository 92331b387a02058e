/- penstockref03's holds, Check, Arity, Bound. -/
import Derived.Test.YtdhmlojodihjkaaDoorRef3R
namespace Go.Proofs.YtdhmlojodihjkaaDoor
open Go Go.RowKit

def HoldsPost (w : World) (r : Int) (e : Ending) (w' : World) : Prop := e = .returned (.int .i64 r) ∧ Chg (fun _ => False) w w'

set_option linter.unusedSimpArgs false in
set_option maxHeartbeats 2000000 in
set_option maxRecDepth 100000 in
theorem holds_any (p : Prm) (hr : refRow p = true) (hk : 1 ≤ p.kind ∧ p.kind ≤ 16) (va vb : Value) (w : World) :
    Calls Tryd.prog 42 #[.agg #[.int .i64 p.kind, .int .i64 p.n, va, vb]] w (HoldsPost w (refHolds p)) := by
  obtain ⟨kind, n, a, b⟩ := p
  have hn13 : kind = 13 → n ≤ 4 := by
    rintro rfl; simp [refRow, wi] at hr; omega
  have hn0 : kind = 4 ∨ kind = 14 ∨ kind = 13 → 0 ≤ n := by
    rintro (rfl | rfl | rfl) <;> simp [refRow, wi] at hr <;> omega
  dsimp only at *
  clear hr
  have hfin : ∀ r w', Chg (fun _ => False) w w' → r = refHolds ⟨kind, n, a, b⟩ → HoldsPost w (refHolds ⟨kind, n, a, b⟩) (.returned (.int .i64 r)) w' := fun r w' hc e => ⟨by rw [e], hc⟩
  have hfin := Lib.hid hfin
  obtain ⟨β, h1⟩ := bool_any (decide (n > 100))
  have h1' := Lib.hid h1
  have hk2 : kind = 1 ∨ kind = 2 ∨ kind = 3 ∨ kind = 4 ∨ kind = 5 ∨ kind = 6 ∨ kind = 7 ∨ kind = 8 ∨ kind = 9 ∨ kind = 10 ∨ kind = 11 ∨ kind = 12 ∨ kind = 13 ∨ kind = 14 ∨ kind = 15 ∨ kind = 16 := by omega
  clear hk
  rcases hk2 with rfl | rfl | rfl | rfl | rfl | rfl | rfl | rfl | rfl | rfl | rfl | rfl | rfl | rfl | rfl | rfl
  all_goals
    cases β
    all_goals
      go_enter Tryd.func42, Tryd.ntmps42
      go_wp2
      go_ret
      refine hfin.out _ _ ((Chg.refl _ _).alloc _) ?_
      have h1'' := h1'.out
      simp at h1''
      simp [refHolds]
      try omega
      all_goals
        simp at hn0
        rw [if_neg (by omega)]
        unfold wrap64
        omega
end Go.Proofs.YtdhmlojodihjkaaDoor
