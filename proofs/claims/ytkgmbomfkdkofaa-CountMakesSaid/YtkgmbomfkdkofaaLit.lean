/- Literals in memory: bytes, streams, parameters. -/
import Derived.Test.YtkgmbomfkdkofaaReady
namespace Go.Proofs.Ytkgmbomfkdkofaa
open Go Go.RowKit

theorem bs_new {w : World} {g : Nat} {T : TypeId} {cs : Array Value} {fr : Nat × Nat} (D : Nat → Prop) (bs : Bs) (hcs : cs.toList = u8s bs) (hg : w.heap.size = g) (hD : D g) : Rd (w.alloc (.cells cs T fr)) D 1 (some ⟨g, 0, none⟩) bs.length (u8s bs) := by
  subst hg
  refine ⟨by simp [u8s], fun _ => ⟨w.heap.size, 0, rfl, by simp, hD, fun j u hu => ?_⟩⟩
  rw [Nat.zero_add, cell_of_row _ _ j _ _ _ (heap_alloc_new w _), ← hu, ← hcs]
  simp

theorem is_new {w : World} {g : Nat} {T : TypeId} {cs : Array Value} (D : Nat → Prop) (l : List Int) (hcs : cs.toList = i64s l) (hg : w.heap.size = g) (hD : D g) : Rd (w.alloc (.cells cs T)) D 1 (some ⟨g, 0, none⟩) l.length (i64s l) := by
  subst hg
  refine ⟨by simp [i64s], fun _ => ⟨w.heap.size, 0, rfl, by simp, hD, fun j u hu => ?_⟩⟩
  rw [Nat.zero_add, cell_of_row _ _ j _ _ _ (heap_alloc_new w _), ← hu, ← hcs]
  simp

theorem strms_new {w : World} {g : Nat} {T : TypeId} {cs : Array Value} (D : Nat → Prop) (its : List (Strm × Value)) (hcs : cs.toList = its.flatMap strmC) (hg : w.heap.size = g) (hD : D g) (h : ∀ t ∈ its, BsAt w D t.2 t.1.bs ∧ CapOk t.2) :
    StrmsAt (w.alloc (.cells cs T)) D (.slice (some ⟨g, 0, none⟩) its.length its.length) (its.map fun t => t.1) := by
  subst hg
  have hl : (its.flatMap strmC).length = its.length * 5 := by
    clear hcs h
    induction its with
    | nil => rfl
    | cons t r ih => rw [List.flatMap_cons, List.length_append, ih, List.length_cons]; show 5 + _ = _; omega
  have e : (its.map fun t => t.1).length = its.length := by simp
  refine ⟨some ⟨w.heap.size, 0, none⟩, its.length, its, by rw [e], rfl, ⟨by rw [e, hl], fun _ => ⟨w.heap.size, 0, rfl, by simp, hD, fun j u hu => ?_⟩⟩, fun t ht => ⟨(h t ht).1.chg ((Chg.refl (fun _ => False) w).alloc _) (fun _ _ _ h => h), (h t ht).2⟩⟩
  rw [Nat.zero_add, cell_of_row _ _ j _ _ _ (heap_alloc_new w _), ← hu, ← hcs]
  simp

theorem prm_lit (w : World) (k n : Int) : PAt w (fun _ => True) (.agg #[.int .i64 k, .int .i64 n, .slice none 0 0, .slice none 0 0]) ⟨k, n, [], []⟩ :=
  ⟨none, 0, none, 0, rfl, Rd.nil _ _ _ _, Rd.nil _ _ _ _⟩
theorem capOk_slice {A : Option Addr} {n c : Nat} (h : n ≤ c) : CapOk (.slice A n c) := fun _ _ _ e => by cases e; exact h
end Go.Proofs.Ytkgmbomfkdkofaa
