/- penstockref03.row, of every kind. -/
import Derived.Test.YtkgmbomfkdkofaaRef3
namespace Go.Proofs.Ytkgmbomfkdkofaa
open Go Go.RowKit

def RowPost (w : World) (r : Bool) (e : Ending) (w' : World) : Prop := e = .returned (.bool r) ∧ Chg (fun _ => False) w w'

theorem bool_any (b : Bool) : ∃ β, b = β := ⟨b, rfl⟩

set_option linter.unusedSimpArgs false in
set_option maxHeartbeats 2000000 in
set_option maxRecDepth 100000 in
theorem row_any (D : Nat → Prop) (p : Prm) (hp : p.Fine) (v : Value) (w : World) (h : PAt w D v p) (hk : 1 ≤ p.kind ∧ p.kind ≤ 16) :
    Calls Try.prog 26 #[v] w (RowPost w (refRow p)) := by
  obtain ⟨A, ca, B, cb, rfl, hA, hB⟩ := h
  obtain ⟨kind, n, a, b⟩ := p
  obtain ⟨n0, n1, hal, hbl⟩ := hp
  dsimp only at *
  have hfin : ∀ r w', Chg (fun _ => False) w w' → r = refRow ⟨kind, n, a, b⟩ → RowPost w (refRow ⟨kind, n, a, b⟩) (.returned (.bool r)) w' := fun r w' hc e => ⟨by rw [e], hc⟩
  have hfin := Lib.hid hfin
  have hwi := within_any
  obtain ⟨β1, h1⟩ := bool_any (ze a)
  obtain ⟨β2, h2⟩ := bool_any (ze b)
  have g1 : ((a.length : Int) == 0) = β1 := h1
  have g2 : ((b.length : Int) == 0) = β2 := h2
  have h1 := Lib.hid h1
  have h2 := Lib.hid h2
  have hk2 : kind = 1 ∨ kind = 2 ∨ kind = 3 ∨ kind = 10 ∨ kind = 8 ∨ kind = 11 ∨ kind = 12 ∨ kind = 15 ∨ kind = 16 ∨ kind = 4 ∨ kind = 9 ∨ kind = 5 ∨ kind = 6 ∨ kind = 7 ∨ kind = 13 ∨ kind = 14 := by omega
  clear hk
  rcases hk2 with rfl | rfl | rfl | rfl | rfl | rfl | rfl | rfl | rfl | rfl | rfl | rfl | rfl | rfl | rfl | rfl
  · cases β1 <;> cases β2
    all_goals
      go_enter Try.func26, Try.ntmps26
      go_wp2_with
        first
        | (go_at_call 38
           refine (hwi _ _ _ _).mono ?_
           rintro e1 w1 ⟨rfl, rfl⟩)
        | fail
      go_ret
      refine hfin.out _ _ ((Chg.refl _ _).alloc _) ?_
      simp [refRow, h1.out, h2.out]
  · cases β1 <;> cases β2
    all_goals
      go_enter Try.func26, Try.ntmps26
      go_wp2_with
        first
        | (go_at_call 38
           refine (hwi _ _ _ _).mono ?_
           rintro e1 w1 ⟨rfl, rfl⟩)
        | fail
      go_ret
      refine hfin.out _ _ ((Chg.refl _ _).alloc _) ?_
      simp [refRow, h1.out, h2.out]
  · cases β1 <;> cases β2
    all_goals
      go_enter Try.func26, Try.ntmps26
      go_wp2_with
        first
        | (go_at_call 38
           refine (hwi _ _ _ _).mono ?_
           rintro e1 w1 ⟨rfl, rfl⟩)
        | fail
      go_ret
      refine hfin.out _ _ ((Chg.refl _ _).alloc _) ?_
      simp [refRow, h1.out, h2.out]
  · cases β1 <;> cases β2
    all_goals
      go_enter Try.func26, Try.ntmps26
      go_wp2_with
        first
        | (go_at_call 38
           refine (hwi _ _ _ _).mono ?_
           rintro e1 w1 ⟨rfl, rfl⟩)
        | fail
      go_ret
      refine hfin.out _ _ ((Chg.refl _ _).alloc _) ?_
      simp [refRow, h1.out, h2.out]
  · cases β1 <;> cases β2
    all_goals
      go_enter Try.func26, Try.ntmps26
      go_wp2_with
        first
        | (go_at_call 38
           refine (hwi _ _ _ _).mono ?_
           rintro e1 w1 ⟨rfl, rfl⟩)
        | fail
      go_ret
      refine hfin.out _ _ ((Chg.refl _ _).alloc _) ?_
      simp [refRow, h1.out, h2.out]
  · cases β1 <;> cases β2
    all_goals
      go_enter Try.func26, Try.ntmps26
      go_wp2_with
        first
        | (go_at_call 38
           refine (hwi _ _ _ _).mono ?_
           rintro e1 w1 ⟨rfl, rfl⟩)
        | fail
      go_ret
      refine hfin.out _ _ ((Chg.refl _ _).alloc _) ?_
      simp [refRow, h1.out, h2.out]
  · cases β1 <;> cases β2
    all_goals
      go_enter Try.func26, Try.ntmps26
      go_wp2_with
        first
        | (go_at_call 38
           refine (hwi _ _ _ _).mono ?_
           rintro e1 w1 ⟨rfl, rfl⟩)
        | fail
      go_ret
      refine hfin.out _ _ ((Chg.refl _ _).alloc _) ?_
      simp [refRow, h1.out, h2.out]
  · cases β1 <;> cases β2
    all_goals
      go_enter Try.func26, Try.ntmps26
      go_wp2_with
        first
        | (go_at_call 38
           refine (hwi _ _ _ _).mono ?_
           rintro e1 w1 ⟨rfl, rfl⟩)
        | fail
      go_ret
      refine hfin.out _ _ ((Chg.refl _ _).alloc _) ?_
      simp [refRow, h1.out, h2.out]
  · cases β1 <;> cases β2
    all_goals
      go_enter Try.func26, Try.ntmps26
      go_wp2_with
        first
        | (go_at_call 38
           refine (hwi _ _ _ _).mono ?_
           rintro e1 w1 ⟨rfl, rfl⟩)
        | fail
      go_ret
      refine hfin.out _ _ ((Chg.refl _ _).alloc _) ?_
      simp [refRow, h1.out, h2.out]
  · cases β1 <;> cases β2
    all_goals
      go_enter Try.func26, Try.ntmps26
      go_wp2_with
        first
        | (go_at_call 38
           refine (hwi _ _ _ _).mono ?_
           rintro e1 w1 ⟨rfl, rfl⟩)
        | fail
      go_ret
      refine hfin.out _ _ ((Chg.refl _ _).alloc _) ?_
      simp [refRow, h1.out, h2.out]
  · cases β1 <;> cases β2
    all_goals
      go_enter Try.func26, Try.ntmps26
      go_wp2_with
        first
        | (go_at_call 38
           refine (hwi _ _ _ _).mono ?_
           rintro e1 w1 ⟨rfl, rfl⟩)
        | fail
      go_ret
      refine hfin.out _ _ ((Chg.refl _ _).alloc _) ?_
      simp [refRow, h1.out, h2.out]
  · obtain ⟨x1, gx1⟩ := bool_any (wi n 0 1)
    obtain ⟨x2, gx2⟩ := bool_any (wi a.length 1 16)
    have ex1 := Lib.hid gx1
    have ex2 := Lib.hid gx2
    cases β1 <;> cases β2 <;> cases x1 <;> cases x2
    all_goals
      go_enter Try.func26, Try.ntmps26
      go_wp2_with
        first
        | (go_at_call 38
           refine (hwi _ _ _ _).mono ?_
           rintro e1 w1 ⟨rfl, rfl⟩)
        | (go_at_call 39
           refine (has_any D A ca a 10 _ (hA.chg ((Chg.refl (fun _ => False) w).alloc _) (fun _ _ _ h => h)) hal).mono ?_
           rintro e1 w1 ⟨rfl, rfl⟩)
        | fail
      go_ret
      refine hfin.out _ _ ((Chg.refl _ _).alloc _) ?_
      simp [refRow, h1.out, h2.out, ex1.out, ex2.out]
  · obtain ⟨x0, gx0⟩ := bool_any (n == 0)
    obtain ⟨x1, gx1⟩ := bool_any (wi a.length 1 64)
    obtain ⟨x2, gx2⟩ := bool_any (decide a.Nodup)
    have ex0 := Lib.hid gx0
    have ex1 := Lib.hid gx1
    have ex2 := Lib.hid gx2
    cases β1 <;> cases β2 <;> cases x0 <;> cases x1 <;> cases x2
    all_goals
      go_enter Try.func26, Try.ntmps26
      go_wp2_with
        first
        | (go_at_call 38
           refine (hwi _ _ _ _).mono ?_
           rintro e1 w1 ⟨rfl, rfl⟩)
        | (go_at_call 40
           refine (unlike_any D A ca a _ (hA.chg ((Chg.refl (fun _ => False) w).alloc _) (fun _ _ _ h => h)) hal).mono ?_
           rintro e1 w1 ⟨rfl, hcu⟩
           have hb6 : Blk w1 w.heap.size 24 #[.int .i64 6, .int .i64 n, .slice A a.length ca, .slice B b.length cb] := (Blk.new w _ _).chg hcu (fun h => h)
           have q2 : w1.cell? ⟨w.heap.size, 2, none⟩ = some (.slice A a.length ca) := hb6.cell 2
           have q3 : w1.cell? ⟨w.heap.size, 3, none⟩ = some (.slice B b.length cb) := hb6.cell 3
           clear hb6)
        | fail
      go_ret
      refine hfin.out _ _ (by first | exact (Chg.refl _ _).alloc _ | exact ((Chg.refl _ _).alloc _).trans hcu (fun _ h _ => h)) ?_
      simp [refRow, h1.out, h2.out, ex0.out, ex1.out, ex2.out]
  · obtain ⟨x1, gx1⟩ := bool_any (oneB a)
    have ex1 := Lib.hid gx1
    cases β1 <;> cases β2 <;> cases x1
    all_goals
      go_enter Try.func26, Try.ntmps26
      go_wp2_with
        first
        | (go_at_call 38
           refine (hwi _ _ _ _).mono ?_
           rintro e1 w1 ⟨rfl, rfl⟩)
        | (go_at_call 41
           refine (one_any D A ca a _ (hA.chg ((Chg.refl (fun _ => False) w).alloc _) (fun _ _ _ h => h))).mono ?_
           rintro e1 w1 ⟨rfl, rfl⟩)
        | fail
      go_ret
      refine hfin.out _ _ ((Chg.refl _ _).alloc _) ?_
      simp [refRow, h1.out, h2.out, ex1.out]
  · obtain ⟨x1, gx1⟩ := bool_any (oneB a)
    have ex1 := Lib.hid gx1
    cases β1 <;> cases β2 <;> cases x1
    all_goals
      go_enter Try.func26, Try.ntmps26
      go_wp2_with
        first
        | (go_at_call 38
           refine (hwi _ _ _ _).mono ?_
           rintro e1 w1 ⟨rfl, rfl⟩)
        | (go_at_call 41
           refine (one_any D A ca a _ (hA.chg ((Chg.refl (fun _ => False) w).alloc _) (fun _ _ _ h => h))).mono ?_
           rintro e1 w1 ⟨rfl, rfl⟩)
        | fail
      go_ret
      refine hfin.out _ _ ((Chg.refl _ _).alloc _) ?_
      simp [refRow, h1.out, h2.out, ex1.out]
  · obtain ⟨x1, gx1⟩ := bool_any (oneB a)
    have ex1 := Lib.hid gx1
    cases β1 <;> cases β2 <;> cases x1
    all_goals
      go_enter Try.func26, Try.ntmps26
      go_wp2_with
        first
        | (go_at_call 38
           refine (hwi _ _ _ _).mono ?_
           rintro e1 w1 ⟨rfl, rfl⟩)
        | (go_at_call 41
           refine (one_any D A ca a _ (hA.chg ((Chg.refl (fun _ => False) w).alloc _) (fun _ _ _ h => h))).mono ?_
           rintro e1 w1 ⟨rfl, rfl⟩)
        | fail
      go_ret
      refine hfin.out _ _ ((Chg.refl _ _).alloc _) ?_
      simp [refRow, h1.out, h2.out, ex1.out]
end Go.Proofs.Ytkgmbomfkdkofaa
