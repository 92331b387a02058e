/- filter.Check of parameters that may be. -/
import Derived.Test.YtdhmlojodihjkaaDoorChk2
namespace Go.Proofs.YtdhmlojodihjkaaDoor
open Go Go.RowKit

def OfOk (w : World) (e : Ending) (w' : World) : Prop := ∃ a0 a1 a2 a3 a4 a5 a6 : Int, e = .returned (.tuple #[.agg #[.int .i64 a0, .int .i64 a1, .int .i64 a2, .int .i64 a3, .int .i64 a4, .int .i64 a5, .int .i64 a6], .int .i64 0]) ∧ Chg (fun _ => False) w w'

theorem holds_of {p : Prm} (h : refCheck p = 0) : refHolds p ≤ 2048 := by
  unfold refCheck at h
  split at h
  · cases h
  · split at h
    · cases h
    · split at h
      · cases h
      · omega

theorem of_ok (D : Nat → Prop) (p : Prm) (hp : refCheck p = 0) (hk : p.kind = 8 ∨ p.kind = 9 ∨ p.kind = 10 ∨ p.kind = 12 ∨ p.kind = 13 ∨ p.kind = 14 ∨ p.kind = 15 ∨ p.kind = 16) (v : Value) (w : World) (h : PAt w D v p) :
    Calls Tryd.prog 62 #[v] w (OfOk w) := by
  obtain ⟨A, ca, B, cb, rfl, hA, hB⟩ := h
  obtain ⟨kind, n, a, b⟩ := p
  dsimp only at *
  have hr := refRow_of hp
  have hh := holds_of hp
  have hz : ∀ (c : Bs), ze c = true → c.length = 0 := fun c hc => by unfold ze at hc; simpa using hc
  have hbare : ∀ l m x i o hs e, ((ze a && ze b) = true) → ∀ W : World, Calls Tryd.prog 66 #[.agg #[.int .i64 l, .int .i64 m, .int .i64 0, .int .i64 i, .int .i64 o, .int .i64 hs, .int .i64 e], .agg #[.int .i64 x, .int .i64 n, .slice A a.length ca, .slice B b.length cb]] W fun r w' => r = .returned (.bool true) ∧ Chg (fun _ => False) W w' := fun l m x i o hs e hze W => by
    simp only [Bool.and_eq_true] at hze
    rw [hz a hze.1, hz b hze.2]
    exact bytes_bare _ _ _ _ _ _ _ _ _ _ _ _ _
  have hpart : ∀ l m x i o hs e, ((ze b && oneB a) = true) → ∀ W : World, Chg (fun _ => False) w W → Calls Tryd.prog 66 #[.agg #[.int .i64 l, .int .i64 m, .int .i64 3, .int .i64 i, .int .i64 o, .int .i64 hs, .int .i64 e], .agg #[.int .i64 x, .int .i64 n, .slice A a.length ca, .slice B b.length cb]] W fun r w' => r = .returned (.bool true) ∧ Chg (fun _ => False) W w' := fun l m x i o hs e hze W hW => by
    simp only [Bool.and_eq_true] at hze
    have h1 := hze.2
    unfold oneB at h1
    simp only [decide_eq_true_eq] at h1
    obtain ⟨c, rfl⟩ := List.length_eq_one_iff.1 h1.1
    rw [hz b hze.1]
    exact bytes_part D _ _ _ _ _ _ _ _ _ _ _ _ c (fun e => h1.2 (by rw [e])) W (hA.chg hW (fun _ _ _ h => h))
  have hfin : ∀ a0 a1 a2 a3 a4 a5 a6 : Int, Calls Tryd.prog 62 #[.agg #[.int .i64 kind, .int .i64 n, .slice A a.length ca, .slice B b.length cb]] w (fun e w' => e = .returned (.tuple #[.agg #[.int .i64 a0, .int .i64 a1, .int .i64 a2, .int .i64 a3, .int .i64 a4, .int .i64 a5, .int .i64 a6], .int .i64 0]) ∧ Chg (fun _ => False) w w') → Calls Tryd.prog 62 #[.agg #[.int .i64 kind, .int .i64 n, .slice A a.length ca, .slice B b.length cb]] w (OfOk w) := fun _ _ _ _ _ _ _ h => h.mono fun e w' h => ⟨_, _, _, _, _, _, _, h⟩
  rcases hk with rfl | rfl | rfl | rfl | rfl | rfl | rfl | rfl
  · simp [refRow, wi] at hr
    exact hfin _ _ _ _ _ _ _ (of_flat 8 n 0 1 0 1 1 128 (by omega) (by omega) (by omega) (by omega) A B _ ca _ cb w (fun _ => by kernel_rfl) (fun W _ => hbare _ _ _ _ _ _ _ (by simp [hr]) W))
  · simp [refRow] at hr
    exact hfin _ _ _ _ _ _ _ (of_flat 9 n 0 0 0 1 1 0 (by omega) (by omega) (by omega) (by omega) A B _ ca _ cb w (fun _ => by kernel_rfl) (fun W _ => hbare _ _ _ _ _ _ _ (by simp [hr]) W))
  · simp [refRow, wi] at hr
    exact hfin _ _ _ _ _ _ _ (of_flat 10 n 0 1000000000 0 1 1 64 (by omega) (by omega) (by omega) (by omega) A B _ ca _ cb w (fun _ => by kernel_rfl) (fun W _ => hbare _ _ _ _ _ _ _ (by simp [hr]) W))
  · simp [refRow, wi] at hr
    exact hfin _ _ _ _ _ _ _ (of_flat 12 n 1 4 0 (-1) 1 0 (by omega) (by omega) (by omega) (by omega) A B _ ca _ cb w (fun _ => by kernel_rfl) (fun W _ => hbare _ _ _ _ _ _ _ (by simp [hr]) W))
  · simp [refRow, wi] at hr
    exact hfin _ _ _ _ _ _ _ (of_13 n (by omega) (by omega) A B _ ca _ cb w (fun _ => by kernel_rfl) (fun W hW => hpart _ _ _ _ _ _ _ (by simp [hr]) W hW))
  · simp [refRow] at hr
    have h14 : n ≤ 14 := by
      unfold refHolds at hh
      dsimp only at hh
      split at hh
      · omega
      · simp at hh; omega
    exact hfin _ _ _ _ _ _ _ (of_14 n (by omega) (by omega) A B _ ca _ cb w (fun _ => by kernel_rfl) (fun W hW => hpart _ _ _ _ _ _ _ (by simp [hr]) W hW))
  · simp [refRow, wi] at hr
    exact hfin _ _ _ _ _ _ _ (of_flat 15 n 1 4 0 1 (-1) 0 (by omega) (by omega) (by omega) (by omega) A B _ ca _ cb w (fun _ => by kernel_rfl) (fun W _ => hbare _ _ _ _ _ _ _ (by simp [hr]) W))
  · simp [refRow, wi] at hr
    exact hfin _ _ _ _ _ _ _ (of_flat 16 n 1 4 0 1 (-1) 64 (by omega) (by omega) (by omega) (by omega) A B _ ca _ cb w (fun _ => by kernel_rfl) (fun W _ => hbare _ _ _ _ _ _ _ (by simp [hr]) W))

def OkPost (w : World) (e : Ending) (w' : World) : Prop := e = .returned (.int .i64 0) ∧ Chg (fun _ => False) w w'

set_option maxRecDepth 100000 in
theorem pcheck_ok (D : Nat → Prop) (p : Prm) (hp : refCheck p = 0) (hk : p.kind = 8 ∨ p.kind = 9 ∨ p.kind = 10 ∨ p.kind = 12 ∨ p.kind = 13 ∨ p.kind = 14 ∨ p.kind = 15 ∨ p.kind = 16) (v : Value) (w : World) (h : PAt w D v p) :
    Calls Tryd.prog 59 #[v] w (OkPost w) := by
  have ho := fun (W : World) (hW : Chg (fun _ => False) w W) => of_ok D p hp hk v W (h.chg hW (fun _ _ _ h => h))
  have ho := Lib.hid ho
  obtain ⟨A, ca, B, cb, rfl, hA, hB⟩ := h
  clear hA hB hp hk
  go_enter Tryd.func59, Tryd.ntmps59
  go_wp2_with (first
    | (go_at_call 62
       refine (ho.out _ ((Chg.refl _ _).alloc _)).mono ?_
       rintro e1 w1 ⟨a0, a1, a2, a3, a4, a5, a6, rfl, hc1⟩))
  go_ret
  exact ⟨rfl, (((Chg.refl _ _).alloc _).trans hc1 (fun _ h _ => h)).alloc _⟩

set_option maxRecDepth 100000 in
theorem fcheck_ok (D : Nat → Prop) (p : Prm) (hp : refCheck p = 0) (hk : p.kind = 8 ∨ p.kind = 9 ∨ p.kind = 10 ∨ p.kind = 12 ∨ p.kind = 13 ∨ p.kind = 14 ∨ p.kind = 15 ∨ p.kind = 16) (v : Value) (w : World) (h : PAt w D v p) :
    Calls Tryd.prog 43 #[v, .int .i64 p.kind] w (OkPost w) := by
  have ho := fun (W : World) (hW : Chg (fun _ => False) w W) => pcheck_ok D p hp hk v W (h.chg hW (fun _ _ _ h => h))
  have ho := Lib.hid ho
  obtain ⟨A, ca, B, cb, rfl, hA, hB⟩ := h
  have hst : Blk (w.alloc (.cells #[.int .i64 p.kind, .int .i64 p.n, .slice A p.a.length ca, .slice B p.b.length cb] 24)) w.heap.size 24 #[.int .i64 p.kind, .int .i64 p.n, .slice A p.a.length ca, .slice B p.b.length cb] := Blk.new _ _ _
  clear hA hB hp hk
  go_enter Tryd.func43, Tryd.ntmps43
  go_wp2_with (first
    | (go_at_call 59
       refine (ho.out _ ((Chg.refl _ _).alloc _)).mono ?_
       rintro e1 w1 ⟨rfl, hc1⟩
       have q0 : w1.cell? ⟨w.heap.size, 0, none⟩ = some (.int .i64 p.kind) := ((hst.chg hc1 (fun h => h)).cell 0).trans rfl))
  go_ret
  exact ⟨rfl, ((Chg.refl _ _).alloc _).trans hc1 (fun _ h _ => h)⟩
end Go.Proofs.YtdhmlojodihjkaaDoor
