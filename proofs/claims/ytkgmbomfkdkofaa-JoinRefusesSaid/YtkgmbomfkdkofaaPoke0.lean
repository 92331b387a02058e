/- Machines that refuse what is not due. -/
import Derived.Test.YtkgmbomfkdkofaaPureLines
namespace Go.Proofs.Ytkgmbomfkdkofaa

/-- What a call that is not due is answered. -/
def wantOf (need : Int) : Int := if need = -1 then 4 else 1
theorem wantOf_ended : wantOf (-1) = 4 := rfl
theorem wantOf_not {n : Int} (h : n ≠ -1) : wantOf n = 1 := if_neg h

/-- A call that is not due is refused, and changes nothing. -/
structure Refuse (M : Mach) (R : M.σ → Prop) : Prop where
  feedR : ∀ s port bs, R s → R (M.feed s port bs).2.2
  finR : ∀ s port, R s → R (M.fin s port).2.2
  moreR : ∀ s, R s → R (M.more s).2.2
  feed : ∀ s port bs, R s → (port ≠ M.need s ∨ bs.length = 0 ∨ bs.length > 32) → M.feed s port bs = ([], wantOf (M.need s), s)
  fin : ∀ s port, R s → port ≠ M.need s → M.fin s port = ([], wantOf (M.need s), s)
  more : ∀ s, R s → M.need s ≠ -2 → M.more s = ([], wantOf (M.need s), s)

theorem refuse_lines (k : LK) : Refuse k.mach (fun _ => True) where
  feedR _ _ _ _ := trivial
  finR _ _ _ := trivial
  moreR _ _ := trivial
  feed s port bs _ hn := by
    dsimp only at hn ⊢
    unfold LK.feed
    by_cases ho : s.over = true
    · rw [if_pos ho, if_pos ho]; rfl
    · rw [if_neg ho] at hn ⊢
      rw [if_neg ho, wantOf_not (by omega)]
      by_cases hp : port ≠ 0
      · rw [if_pos hp]
      · rw [if_neg hp, if_pos (hn.resolve_left hp)]
  fin s port _ hn := by
    dsimp only at hn ⊢
    unfold LK.fin
    by_cases ho : s.over = true
    · rw [if_pos ho, if_pos ho]; rfl
    · rw [if_neg ho] at hn ⊢
      rw [if_neg ho, wantOf_not (by omega), if_pos hn]
  more s _ _ := by
    dsimp only
    by_cases ho : s.over = true
    · rw [if_pos ho, if_pos ho]; rfl
    · rw [if_neg ho, if_neg ho, wantOf_not (by omega)]
end Go.Proofs.Ytkgmbomfkdkofaa
