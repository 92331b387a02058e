/- penstocklaw10: fit. -/
import Derived.Test.YtkgmbomfkdkofaaCountHeavy
import Derived.Test.YtkgmbomfkdkofaaCountK
namespace Go.Proofs.Ytkgmbomfkdkofaa.Count
open Go Go.RowKit

def fitB (p : Prm) (n : Nat) : Bool := (refCheck p == 0 && p.kind == kind) && ((n : Int) == (refArity p).1)

theorem fitB_true {p : Prm} {ins : List Strm} (h : fitB p ins.length = true) : fitI p ins := by
  unfold fitB at h
  simp only [Bool.and_eq_true, beq_iff_eq] at h
  exact ⟨h.1, h.2⟩

theorem heavyB_false {a b : Nat} {ins : List Strm} {cs : List (Option Addr × Nat × Nat)} (h : heavyB a b ins cs = false) : a ≤ 1000 ∧ b ≤ 1000 ∧ ins.length ≤ 8 ∧ (∀ s ∈ ins, s.bs.length ≤ 2000) ∧ ∀ c ∈ cs, c.2.1 ≤ 3000 := by
  unfold heavyB at h
  split at h
  · cases h
  · rename_i h1
    split at h
    · cases h
    · rename_i h2
      refine ⟨by omega, by omega, by omega, fun s hs => ?_, fun c hc => ?_⟩
      · rcases Nat.lt_or_ge 2000 s.bs.length with h3 | h3
        · exact absurd (List.any_eq_true.2 ⟨s, hs, decide_eq_true h3⟩) h2
        · exact h3
      · rcases Nat.lt_or_ge 3000 c.2.1 with h3 | h3
        · rw [List.any_eq_true.2 ⟨c, hc, decide_eq_true h3⟩] at h; cases h
        · exact h3

theorem row_new {w : World} {g : Nat} {T : TypeId} (cs : Array Value) (n : Nat) (hn : cs.size = n) (hg : w.heap.size = g) : Rd (w.alloc (.cells cs T)) (fun _ => True) 1 (some ⟨g, 0, none⟩) n cs.toList := by
  subst hg hn
  refine ⟨by simp, fun _ => ⟨w.heap.size, 0, rfl, by simp, trivial, fun j u hu => ?_⟩⟩
  rw [Nat.zero_add, cell_of_row _ _ j _ _ (0, 0) (heap_alloc_new w _), ← hu]
  simp

end Go.Proofs.Ytkgmbomfkdkofaa.Count
