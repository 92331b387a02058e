/- paste's machine in memory. -/
import Derived.Test.YtkgmbomfkdkofaaPasteO
import Derived.Test.YtkgmbomfkdkofaaQueue
import Derived.Test.YtkgmbomfkdkofaaMach
namespace Go.Proofs.Ytkgmbomfkdkofaa
open Go Go.RowKit

theorem OwnT.ty {w : World} {B : Nat} {e : TypeId} {v : Value} {xs : List Value} (h : OwnT w B e v xs) {k : Nat} (hk : v.ownBlock = some k) : ∃ cur, w.heap[k]? = some (.cells cur e (0, 0)) := by
  rcases h with ⟨rfl, _⟩ | ⟨g, off, cap, cur, rfl, _, hg, _⟩
  · simp [Value.ownBlock] at hk
  · simp [Value.ownBlock] at hk
    subst hk
    exact ⟨cur, hg⟩
theorem OwnT.ne {w : World} {B g : Nat} {e T : TypeId} {v : Value} {xs : List Value} {cs : Array Value} (h : OwnT w B e v xs) (hb : Blk w g T cs) (ht : e ≠ T) : v.ownBlock ≠ some g := fun hk => by
  obtain ⟨cur, hc⟩ := h.ty hk
  unfold Blk at hb
  rw [hb] at hc
  injection hc with hc
  injection hc with _ h2 _
  exact ht h2.symm

theorem ty_sq : 9 ≠ 78 := by decide
end Go.Proofs.Ytkgmbomfkdkofaa
