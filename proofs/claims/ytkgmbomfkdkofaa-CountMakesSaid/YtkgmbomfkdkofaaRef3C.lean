/- penstockref03's holds, Check, Arity, Bound. -/
import Derived.Test.YtkgmbomfkdkofaaRef3R
import Derived.BigQuiet
namespace Go.Proofs.Ytkgmbomfkdkofaa
open Go Go.RowKit

def HoldsPost (w : World) (r : Int) (e : Ending) (w' : World) : Prop := e = .returned (.int .i64 r) ∧ Chg (fun _ => False) w w'

set_option linter.unusedSimpArgs false in
set_option maxHeartbeats 2000000 in
set_option maxRecDepth 100000 in
theorem holds_any (p : Prm) (hr : refRow p = true) (hk : 1 ≤ p.kind ∧ p.kind ≤ 16) (va vb : Value) (w : World) :
    Calls Try.prog 27 #[.agg #[.int .i64 p.kind, .int .i64 p.n, va, vb]] w (HoldsPost w (refHolds p)) := by
  obtain ⟨kind, n, a, b⟩ := p
  have hn13 : kind = 13 → n ≤ 4 := by
    rintro rfl; simp [refRow, wi] at hr; omega
  have hn0 : kind = 4 ∨ kind = 14 ∨ kind = 13 → 0 ≤ n := by
    rintro (rfl | rfl | rfl) <;> simp [refRow, wi] at hr <;> omega
  dsimp only at *
  clear hr
  have hfin : ∀ r w', Chg (fun _ => False) w w' → r = refHolds ⟨kind, n, a, b⟩ → HoldsPost w (refHolds ⟨kind, n, a, b⟩) (.returned (.int .i64 r)) w' := fun r w' hc e => ⟨by rw [e], hc⟩
  have hfin := Lib.hid hfin
  obtain ⟨β, h1⟩ := bool_any (decide (n > 100))
  have h1' := Lib.hid h1
  have hk2 : kind = 1 ∨ kind = 2 ∨ kind = 3 ∨ kind = 4 ∨ kind = 5 ∨ kind = 6 ∨ kind = 7 ∨ kind = 8 ∨ kind = 9 ∨ kind = 10 ∨ kind = 11 ∨ kind = 12 ∨ kind = 13 ∨ kind = 14 ∨ kind = 15 ∨ kind = 16 := by omega
  clear hk
  rcases hk2 with rfl | rfl | rfl | rfl | rfl | rfl | rfl | rfl | rfl | rfl | rfl | rfl | rfl | rfl | rfl | rfl
  all_goals
    cases β
    all_goals
      go_enter Try.func27, Try.ntmps27
      go_wp2
      go_ret
      refine hfin.out _ _ ((Chg.refl _ _).alloc _) ?_
      have h1'' := h1'.out
      simp at h1''
      simp [refHolds]
      try omega
      all_goals
        simp at hn0
        rw [if_neg (by omega)]
        unfold wrap64
        omega
end Go.Proofs.Ytkgmbomfkdkofaa

/- penstockref03's Check, Arity, Bound. -/
namespace Go.Proofs.Ytkgmbomfkdkofaa
open Go Go.RowKit

def ErrPost (w : World) (r : Int) (e : Ending) (w' : World) : Prop := e = .returned (.int .i64 r) ∧ Chg (fun _ => False) w w'

set_option linter.unusedSimpArgs false in
set_option maxHeartbeats 2000000 in
set_option maxRecDepth 100000 in
theorem check_any (D : Nat → Prop) (p : Prm) (hp : p.Fine) (v : Value) (w : World) (h : PAt w D v p) :
    Calls Try.prog 10 #[v] w (ErrPost w (refCheck p)) := by
  have hfin : ∀ r w', Chg (fun _ => False) w w' → r = refCheck p → ErrPost w (refCheck p) (.returned (.int .i64 r)) w' := fun r w' hc e => ⟨by rw [e], hc⟩
  have hfin := Lib.hid hfin
  have hrow := fun (W : World) (hW : Chg (fun _ => False) w W) (hk : 1 ≤ p.kind ∧ p.kind ≤ 16) => row_any D p hp v W (h.chg hW (fun _ _ _ h => h)) hk
  have hhold := fun (hr : refRow p = true) (hk : 1 ≤ p.kind ∧ p.kind ≤ 16) (va vb : Value) (W : World) => holds_any p hr hk va vb W
  obtain ⟨A, ca, B, cb, rfl, hA, hB⟩ := h
  by_cases h1 : p.kind < 1
  · go_enter Try.func10, Try.ntmps10
    go_wp2
    go_ret
    exact hfin.out _ _ ((Chg.refl _ _).alloc _) (by simp [refCheck, h1])
  by_cases h2 : 16 < p.kind
  · have h1' : 1 ≤ p.kind := by omega
    go_enter Try.func10, Try.ntmps10
    go_wp2
    go_ret
    exact hfin.out _ _ ((Chg.refl _ _).alloc _) (by simp [refCheck, h2])
  have hk : 1 ≤ p.kind ∧ p.kind ≤ 16 := by omega
  have h1' : 1 ≤ p.kind := by omega
  have h2' : p.kind ≤ 16 := by omega
  cases hr : refRow p with
  | false =>
    have hr' := Lib.hid hr
    rw [hr] at hrow
    clear hr
    go_enter Try.func10, Try.ntmps10
    go_wp2_with
      first
      | (go_at_call 26
         refine (hrow _ ((Chg.refl _ _).alloc _) hk).mono ?_
         rintro e1 w1 ⟨rfl, hc1⟩)
      | fail
    go_ret
    exact hfin.out _ _ (((Chg.refl _ _).alloc _).trans hc1 (fun _ h _ => h)) (by simp [refCheck, h1, h2, hr'.out])
  | true =>
    have hr' := Lib.hid hr
    rw [hr] at hrow
    have hhold := hhold hr hk
    clear hr
    obtain ⟨β, hb⟩ := bool_any (decide (refHolds p > 2048))
    have hb' := Lib.hid hb
    cases β
    all_goals
      go_enter Try.func10, Try.ntmps10
      go_wp2_with
        first
        | (go_at_call 26
           refine (hrow _ ((Chg.refl _ _).alloc _) hk).mono ?_
           rintro e1 w1 ⟨rfl, hc1⟩
           have hb6 : Blk w1 w.heap.size 24 #[.int .i64 p.kind, .int .i64 p.n, .slice A p.a.length ca, .slice B p.b.length cb] := (Blk.new w _ _).chg hc1 (fun h => h)
           have q0 : w1.cell? ⟨w.heap.size, 0, none⟩ = some (.int .i64 p.kind) := hb6.cell 0
           have q1 : w1.cell? ⟨w.heap.size, 1, none⟩ = some (.int .i64 p.n) := hb6.cell 1
           have q2 : w1.cell? ⟨w.heap.size, 2, none⟩ = some (.slice A p.a.length ca) := hb6.cell 2
           have q3 : w1.cell? ⟨w.heap.size, 3, none⟩ = some (.slice B p.b.length cb) := hb6.cell 3
           clear hb6)
        | (go_at_call 27
           refine (hhold _ _ _).mono ?_
           rintro e1 w2 ⟨rfl, hc2⟩)
        | fail
      go_ret
      have hb2 := hb'.out
      simp at hb2
      exact hfin.out _ _ ((((Chg.refl _ _).alloc _).trans hc1 (fun _ h _ => h)).trans hc2 (fun _ h _ => h)) (by simp [refCheck, h1, h2, hr'.out]; try omega)
end Go.Proofs.Ytkgmbomfkdkofaa

/- penstockref03's Arity and Bound. -/
namespace Go.Proofs.Ytkgmbomfkdkofaa
open Go Go.RowKit

def ArPost (w : World) (p : Prm) (e : Ending) (w' : World) : Prop := e = .returned (.tuple #[.int .i64 (refArity p).1, .int .i64 (refArity p).2, .int .i64 (refCheck p)]) ∧ Chg (fun _ => False) w w'

theorem kind_of {p : Prm} (h : refCheck p = 0) : 1 ≤ p.kind ∧ p.kind ≤ 16 := by
  unfold refCheck at h
  split at h
  · cases h
  · omega

set_option maxHeartbeats 2000000 in
set_option maxRecDepth 100000 in
theorem arity_any (D : Nat → Prop) (p : Prm) (hp : p.Fine) (v : Value) (w : World) (h : PAt w D v p) :
    Calls Try.prog 29 #[v] w (ArPost w p) := by
  have hfin : ∀ a b c w', Chg (fun _ => False) w w' → (a, b) = refArity p → c = refCheck p → ArPost w p (.returned (.tuple #[.int .i64 a, .int .i64 b, .int .i64 c])) w' := fun a b c w' hc e1 e2 => by
    unfold ArPost
    rw [← e1, ← e2]
    exact ⟨rfl, hc⟩
  have hfin := Lib.hid hfin
  have hck := fun (W : World) (hW : Chg (fun _ => False) w W) => check_any D p hp v W (h.chg hW (fun _ _ _ h => h))
  have hck := Lib.hid hck
  obtain ⟨A, ca, B, cb, rfl, hA, hB⟩ := h
  clear hA hB hp
  obtain ⟨kind, n, a, b⟩ := p
  dsimp only at *
  have hst : Blk (w.alloc (.cells #[.int .i64 kind, .int .i64 n, .slice A a.length ca, .slice B b.length cb] 24)) w.heap.size 24 #[.int .i64 kind, .int .i64 n, .slice A a.length ca, .slice B b.length cb] := Blk.new _ _ _
  by_cases h0 : refCheck ⟨kind, n, a, b⟩ = 0
  · have hk := kind_of h0
    dsimp only at hk
    have h0' := Lib.hid h0
    rw [h0] at hck
    have hk2 : kind = 1 ∨ kind = 2 ∨ kind = 3 ∨ kind = 4 ∨ kind = 5 ∨ kind = 6 ∨ kind = 7 ∨ kind = 8 ∨ kind = 9 ∨ kind = 10 ∨ kind = 11 ∨ kind = 12 ∨ kind = 13 ∨ kind = 14 ∨ kind = 15 ∨ kind = 16 := by omega
    clear hk h0
    rcases hk2 with rfl | rfl | rfl | rfl | rfl | rfl | rfl | rfl | rfl | rfl | rfl | rfl | rfl | rfl | rfl | rfl
    all_goals
      go_enter Try.func29, Try.ntmps29
      go_wp2_with (first
        | (go_at_call 10
           refine (hck.out _ ((Chg.refl _ _).alloc _)).mono ?_
           rintro e1 w1 ⟨rfl, hc1⟩
           have hb1 := hst.chg hc1 (fun h => h)
           have q1 : w1.cell? ⟨w.heap.size, 1, none⟩ = some (.int .i64 n) := hb1.cell 1
           have q0 := hb1.cell 0
           simp at q0))
      have hcc := ((Chg.refl _ _).alloc _).trans hc1 (fun _ h _ => h)
      clear hc1 hb1
      first
        | (go_ret3
           exact hfin.out _ _ _ _ hcc (by unfold refArity; rw [if_neg (by simp [h0'.out])]; simp) h0'.out.symm)
        | (go_quiet (fail)
           go_wp2
           go_ret3
           exact hfin.out _ _ _ _ (hcc.drewN _) (by unfold refArity; rw [if_neg (by simp [h0'.out])]; simp) h0'.out.symm)
  · have ht : (refCheck ⟨kind, n, a, b⟩ != 0) = true := by simpa using h0
    have e1 : ((0 : Int), (0 : Int)) = refArity ⟨kind, n, a, b⟩ := by unfold refArity; rw [if_pos h0]
    have e1 := Lib.hid e1
    generalize hrc : refCheck ⟨kind, n, a, b⟩ = rc at *
    have hrc := Lib.hid hrc
    go_enter Try.func29, Try.ntmps29
    go_wp2_with (first
      | (go_at_call 10
         refine (hck.out _ ((Chg.refl _ _).alloc _)).mono ?_
         rintro e1 w1 ⟨rfl, hc1⟩))
    go_ret3
    exact hfin.out _ _ _ _ (((Chg.refl _ _).alloc _).trans hc1 (fun _ h _ => h)) e1.out rfl

def BoundPost (w : World) (p : Prm) (e : Ending) (w' : World) : Prop := e = .returned (.tuple #[.int .i64 (refHolds p), .int .i64 0]) ∧ Chg (fun _ => False) w w'

end Go.Proofs.Ytkgmbomfkdkofaa
