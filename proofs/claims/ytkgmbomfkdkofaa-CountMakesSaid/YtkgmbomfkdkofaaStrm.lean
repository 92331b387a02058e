/- Streams as values; small words for memory. -/
import Derived.Test.YtkgmbomfkdkofaaDen
import Derived.Test.YtkgmbomfkdkofaaApp
import Derived.Test.YtkgmbomfkdkofaaDrive
import Derived.Test.YtkgmbomfkdkofaaRef3
namespace Go.Proofs.Ytkgmbomfkdkofaa
open Go Go.RowKit

/-- The begun line is what stands last. -/
theorem cutS_suffix (a : Bs) : ∀ (g : Bs), (cutS g a).2.2 = false → ∃ p, g ++ a = p ++ (cutS g a).2.1 := by
  induction a with
  | nil => intro g _; exact ⟨[], by simp [cutS]⟩
  | cons x r ih =>
    intro g
    simp only [cutS]
    by_cases hx : x = 10
    · simp only [hx, if_true]
      intro h
      obtain ⟨p, hp⟩ := ih [] h
      exact ⟨g ++ [10] ++ p, by rw [List.append_assoc, ← hp]; simp⟩
    · simp only [hx, if_false]
      by_cases hg : g.length = 64
      · simp [hg]
      · simp only [hg, if_false]
        intro h
        obtain ⟨p, hp⟩ := ih _ h
        exact ⟨p, by rw [← hp]; simp⟩

/-- A stream's value. -/
def SAt (w : World) (D : Nat → Prop) (v : Value) (s : Strm) : Prop :=
  ∃ A c, v = .agg #[.slice A s.bs.length c, .bool s.ended, .int .i64 s.code, .int .i64 s.stage, .int .i64 s.id] ∧ Rd w D 1 A s.bs.length (u8s s.bs) ∧ s.bs.length ≤ c

theorem gb_at {bs gb : Bs} {k : Nat} (hk : k ≤ bs.length) {p : Bs} (hp : bs.take k = p ++ gb) : gb.length ≤ k ∧ ∀ i x, gb[i]? = some x → bs[k - gb.length + i]? = some x := by
  have hl : k = p.length + gb.length := by
    have := congrArg List.length hp
    simp at this
    omega
  refine ⟨by omega, fun i x hx => ?_⟩
  have hi : i < gb.length := (List.getElem?_eq_some_iff.1 hx).1
  have e1 : k - gb.length + i = p.length + i := by omega
  have e2 : (bs.take k)[p.length + i]? = some x := by
    rw [hp, List.getElem?_append_right (by omega)]
    simpa using hx
  rw [List.getElem?_take, if_pos (by omega)] at e2
  rw [e1]; exact e2

theorem rd_new (w : World) (T : TypeId) (x : Value) : Rd (w.alloc (.cells #[x] T)) (fun _ => True) 1 (some ⟨w.heap.size, 0, none⟩) 1 [x] :=
  ⟨rfl, fun _ => ⟨w.heap.size, 0, rfl, by simp, trivial, fun j u hu => by rw [Nat.zero_add, cell_of_row _ _ j _ _ (0, 0) (heap_alloc_new w _)]; simpa using hu⟩⟩

theorem setRow_block {w : World} {g k : Nat} (cs : Array Value) (h : k ≠ g) : (w.setRow g cs).heap[k]? = w.heap[k]? := by
  simp only [World.setRow, Array.getElem?_modify]
  rw [if_neg (fun e => h e.symm)]
theorem below_setRow {B g : Nat} {w w' : World} (h : Below B w w') (hg : B ≤ g) (cs : Array Value) : Below B w (w'.setRow g cs) :=
  h.trans ⟨rfl, rfl, rfl, by simp [World.setRow], fun i hi => setRow_block cs (by omega)⟩
/-- An owned row, over a store of a whole row elsewhere; its base may be lowered. -/
theorem own_chg_row {w : World} {base base' : Nat} {e : TypeId} {size : Nat} {v : Value} {n : Nat} {xs : List Value} {g : Nat} {cs : Array Value} (hb : base' ≤ base) (h : w.ownsRow base e size v n xs) (hg : g < base) : (w.setRow g cs).ownsRow base' e size v n xs := by
  refine ⟨h.1, ?_⟩
  rcases h.2 with h2 | ⟨k, cap, cur, hv, hk, hh, r⟩
  · exact .inl h2
  · exact .inr ⟨k, cap, cur, hv, by omega, (setRow_block cs (by omega)).trans hh, r⟩

theorem info_read : (Try.prog.info? 97).map (·.size) = some 5 := by kernel_rfl

end Go.Proofs.Ytkgmbomfkdkofaa
