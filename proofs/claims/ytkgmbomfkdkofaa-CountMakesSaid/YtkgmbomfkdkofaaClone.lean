/- slices.Clone at bytes, and what the Base of a machine answers. -/
import Derived.Test.YtkgmbomfkdkofaaFresh
import Derived.Test.YtkgmbomfkdkofaaDrive
import Derived.Outline
import Derived.Lib.SliceRun
namespace Go.Proofs.Ytkgmbomfkdkofaa
open Go Go.RowKit

def ClonePost (w : World) (bs : Bs) (e : Ending) (w' : World) : Prop :=
  ∃ A' c', e = .returned (.slice A' bs.length c') ∧ Rd w' (fun k => w.heap.size ≤ k) 1 A' bs.length (u8s bs) ∧ Below w.heap.size w w'

set_option maxRecDepth 100000 in
theorem clone_any (D : Nat → Prop) (A : Option Addr) (c : Nat) (bs : Bs) (w : World) (hr : Rd w D 1 A bs.length (u8s bs)) (h0 : 0 < bs.length) (hl : bs.length ≤ 100000) :
    Calls Try.prog 47 #[.slice A bs.length c] w (ClonePost w bs) := by
  obtain ⟨i0, hi0, hz0, hz1, hz2⟩ := info_parts info_u8
  obtain ⟨g, o, rfl, hg, hD, hc⟩ := hr.2 h0
  have qT : ∀ (w : World) (a : Option Addr) (n c n' c' : Nat), (binOp .eql 22 (.slice a n c) (.slice none n' c')).run Try.prog w = .ok (.bool a.isNone) w := fun w a n c n' c' => Lib.run_eql_slice_nil w _ _ a n c n' c' Try.underlying22
  have hr' := hr.chg ((Chg.refl (fun _ => False) w).alloc (.cells #[] 5)) (fun _ _ _ h => h)
  go_enter Try.func47, Try.ntmps47
  go_wp2_with (first
    | (at_builtin
       refine wpList_append_fresh _ (by rfl) (.tmp 5) (.tmp 6) 22 (by rfl) 5 i0 _ 1 1 Try.underlying22 hi0 hz0 hz1 hz2 (by rfl) (by omega) _ (by rfl) D _ bs.length c (u8s bs) (by rfl) hr' (u8s_one _) (by simp only [maxLen]; omega) (by omega) ?_
       intro A' c' w' hcc hr2 hb2))
  go_ret
  exact ⟨A', c', rfl, hr2.mono (fun k hk _ => by simp at hk; omega), ((Below.refl _ _).alloc (Nat.le_refl _) _).trans (hb2.mono (by simp))⟩
end Go.Proofs.Ytkgmbomfkdkofaa
