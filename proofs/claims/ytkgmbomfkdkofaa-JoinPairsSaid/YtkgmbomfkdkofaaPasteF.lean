/- paste: Feed and End. -/
import Derived.Test.YtkgmbomfkdkofaaPasteW
import Derived.Test.YtkgmbomfkdkofaaBase
namespace Go.Proofs.Ytkgmbomfkdkofaa
open Go Go.RowKit

/-- The wanted input has got bytes. -/
theorem pushed_ok {q : PQ} (hl : q.ls = []) (hb : q.beg.length ≤ 64) {bs : Bs} (hlen : bs.length ≤ 32) : PQOk ⟨(cutS q.beg bs).2.1, q.ls ++ (cutS q.beg bs).1, q.ended⟩ := by
  have h1 := cutS_count bs q.beg
  have h2 := cutS_len bs q.beg hb
  refine ⟨?_, ?_⟩
  · rw [hl, List.nil_append]; dsimp only; omega
  · rw [hl, List.nil_append]; exact h2.2
theorem closed_ok {q : PQ} (hl : q.ls = []) (hb : q.beg.length ≤ 64) : PQOk ⟨[], q.ls ++ (if q.beg = [] then [] else [q.beg]), true⟩ := by
  refine ⟨?_, ?_⟩
  · rw [hl, List.nil_append]; dsimp only; split <;> simp
  · rw [hl, List.nil_append]
    intro l h
    dsimp only at h
    split at h
    · cases h
    · simp only [List.mem_singleton] at h; subst h; exact hb

end Go.Proofs.Ytkgmbomfkdkofaa
