/- penstocklaw14: fit. -/
import Derived.Test.YtkgmbomfkdkofaaJoinHeavy
import Derived.Test.YtkgmbomfkdkofaaJoinK
namespace Go.Proofs.Ytkgmbomfkdkofaa.Join
open Go Go.RowKit

def fitB (p : Prm) (n : Nat) : Bool := (refCheck p == 0 && p.kind == kind) && ((n : Int) == (refArity p).1)

theorem fitB_true {p : Prm} {ins : List Strm} (h : fitB p ins.length = true) : fitI p ins := by
  unfold fitB at h
  simp only [Bool.and_eq_true, beq_iff_eq] at h
  exact ⟨h.1, h.2⟩

theorem heavyB_false {a b : Nat} {ins : List Strm} {cs : List (Option Addr × Nat × Nat)} (h : heavyB a b ins cs = false) : a ≤ 1000 ∧ b ≤ 1000 ∧ ins.length ≤ 8 ∧ (∀ s ∈ ins, s.bs.length ≤ 2000) ∧ ∀ c ∈ cs, c.2.1 ≤ 3000 := by
  unfold heavyB at h
  split at h
  · cases h
  · rename_i h1
    split at h
    · cases h
    · rename_i h2
      refine ⟨by omega, by omega, by omega, fun s hs => ?_, fun c hc => ?_⟩
      · rcases Nat.lt_or_ge 2000 s.bs.length with h3 | h3
        · exact absurd (List.any_eq_true.2 ⟨s, hs, decide_eq_true h3⟩) h2
        · exact h3
      · rcases Nat.lt_or_ge 3000 c.2.1 with h3 | h3
        · rw [List.any_eq_true.2 ⟨c, hc, decide_eq_true h3⟩] at h; cases h
        · exact h3

theorem row_new {w : World} {g : Nat} {T : TypeId} (cs : Array Value) (n : Nat) (hn : cs.size = n) (hg : w.heap.size = g) : Rd (w.alloc (.cells cs T)) (fun _ => True) 1 (some ⟨g, 0, none⟩) n cs.toList := by
  subst hg hn
  refine ⟨by simp, fun _ => ⟨w.heap.size, 0, rfl, by simp, trivial, fun j u hu => ?_⟩⟩
  rw [Nat.zero_add, cell_of_row _ _ j _ _ (0, 0) (heap_alloc_new w _), ← hu]
  simp

set_option maxHeartbeats 400000 in
set_option maxRecDepth 100000 in
theorem fit_any (D : Nat → Prop) (p : Prm) (hp : p.Fine) (v : Value) (w : World) (h : PAt w D v p) (A : Option Addr) (n ci : Nat) :
    Calls Try.prog 17 #[v, .slice A n ci] w (BoolPost w (fitB p n)) := by
  have har := fun (W : World) (hW : Chg (fun _ => False) w W) => arity_any D p hp v W (h.chg hW (fun _ _ _ h => h))
  unfold ArPost at har
  have e : fitB p n = ((refCheck p == 0 && p.kind == 14) && ((n : Int) == (refArity p).1)) := rfl
  rw [e]
  clear e
  obtain ⟨A1, ca, B1, cb, rfl, _, _⟩ := h
  have hst : Blk (w.alloc (.cells #[.int .i64 p.kind, .int .i64 p.n, .slice A1 p.a.length ca, .slice B1 p.b.length cb] 24)) w.heap.size 24 #[.int .i64 p.kind, .int .i64 p.n, .slice A1 p.a.length ca, .slice B1 p.b.length cb] := Blk.new _ _ _
  replace har := Lib.hid har
  generalize hrc : refCheck p = rc at *
  generalize hra : refArity p = ra at *
  replace hrc := Lib.hid hrc
  replace hra := Lib.hid hra
  obtain ⟨β0, h0⟩ := bool_any (rc == 0)
  obtain ⟨β1, h1⟩ := bool_any (p.kind == 14)
  obtain ⟨β2, h2⟩ := bool_any ((n : Int) == ra.1)
  rw [h0, h1, h2]
  cases β0 <;> cases β1 <;> cases β2
  all_goals
    go_enter Try.func17, Try.ntmps17
    go_wp2_with (first
      | (go_at_call 29
         refine (har.out _ ((Chg.refl _ _).alloc _)).mono ?_
         rintro e1 w1 ⟨rfl, hc1⟩
         have q0 : w1.cell? ⟨w.heap.size, 0, none⟩ = some (.int .i64 p.kind) := ((hst.chg hc1 (fun h => h)).cell 0).trans rfl))
    go_ret
    exact ⟨rfl, ((Chg.refl _ _).alloc _).trans hc1 (fun _ h _ => h)⟩
end Go.Proofs.Ytkgmbomfkdkofaa.Join
