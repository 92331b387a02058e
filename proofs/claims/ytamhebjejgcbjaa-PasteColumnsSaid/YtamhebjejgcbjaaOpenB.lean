/- Arguments, opened: slices of bytes, bools. -/
import Derived.Test.YtamhebjejgcbjaaOpen
import Derived.Test.YtamhebjejgcbjaaBss
namespace Go.Proofs.Ytamhebjejgcbjaa
open Go Go.ChangeShapes Go.WideShapes Go.ChangeAt Go.RowKit Go.Deep
section
variable {H : Type} {enc : TypeId × Value → H} {w : World} {spare : Nat → Bool} {held : Bool} {fuel : Nat}

theorem open_bss {v : Value} {x : DataW H × List MemPlace} (h : DataW.trod enc Try.prog w 0 spare held fuel 45 [v] = some x) :
    ∃ (A : Option Addr) (c : Nat) (l : List Bs), v = .slice A l.length c ∧ l.length ≤ c ∧ c ≤ maxLen ∧ BssAt w (fun _ => True) (.slice A l.length c) l ∧ ∀ b ∈ l, b.length ≤ maxLen := by
  obtain ⟨A, n, c, V, rfl, h1, h2, h3, h4⟩ := open_rd Try.underlying45 (by kernel_rfl) h
  obtain ⟨its, hl, he, hp⟩ := list_of (fun t : Bs × Value => t.2) (fun t => (BsAt w (fun _ => True) t.2 t.1 ∧ CapOk t.2) ∧ t.1.length ≤ maxLen) V n (fun i hi => by
    obtain ⟨k, y, hy⟩ := h4 i hi
    obtain ⟨A2, c2, bs, hv, g1, g2, g3⟩ := open_bs hy
    refine ⟨(bs, V i), rfl, ⟨⟨A2, c2, hv, g3⟩, fun A' n' c' e => ?_⟩, Nat.le_trans g1 g2⟩
    dsimp only at e
    rw [hv] at e
    cases e
    exact g1)
  rw [he] at h3
  have hlen : (its.map fun t => t.1).length = n := by simp [hl]
  exact ⟨A, c, its.map (fun t => t.1), by rw [hlen], by rw [hlen]; exact h1, h2, ⟨A, c, its, rfl, rfl, by rw [hlen]; exact h3, fun t ht => (hp t ht).1⟩, fun b hb => by
    obtain ⟨t, ht, rfl⟩ := List.mem_map.1 hb
    exact (hp t ht).2⟩

theorem open_bools {v : Value} {x : DataW H × List MemPlace} (h : DataW.trod enc Try.prog w 0 spare held fuel 53 [v] = some x) :
    ∃ (A : Option Addr) (c : Nat) (l : List Bool), v = .slice A l.length c ∧ l.length ≤ c ∧ c ≤ maxLen ∧ Rd w (fun _ => True) 1 A l.length (l.map Value.bool) := by
  obtain ⟨A, n, c, V, rfl, h1, h2, h3, h4⟩ := open_rd Try.underlying53 (by kernel_rfl) h
  obtain ⟨l, hl, he, _⟩ := list_of (fun x : Bool => Value.bool x) (fun _ => True) V n (fun i hi => by
    obtain ⟨k, y, hy⟩ := h4 i hi
    obtain ⟨z, hz, _⟩ := DataW.trod_bool Try.underlying4 hy
    simp at hz
    exact ⟨z, hz, trivial⟩)
  rw [he] at h3
  subst hl
  exact ⟨A, c, l, rfl, h1, h2, h3⟩
end
end Go.Proofs.Ytamhebjejgcbjaa
