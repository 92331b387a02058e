/- paste: rows. -/
import Derived.Test.YtkgmbomfkdkofaaPasteM
import Derived.Deep.RegionHeld3
import Derived.Deep.DrawnRows
import Derived.BigQuiet
import Derived.Outline
import Derived.Deep.LoopGhost
namespace Go.Proofs.Ytkgmbomfkdkofaa
open Go Go.RowKit

section
variable {g : Nat}
theorem b_over (ov : Bool) (w : World) (h2 : w.cell? ⟨g, 2, none⟩ = some (.bool ov)) :
    Calls Try.prog 134 #[.pointer (some ⟨g, 0, none⟩)] w fun e w' => e = .returned (.bool ov) ∧ w = w' := by
  go_enter Try.func134, Try.ntmps134
  go_wp2
  go_ret
  exact ⟨rfl, rfl⟩
theorem b_stop (ov : Bool) (w : World) (h2 : w.cell? ⟨g, 2, none⟩ = some (.bool ov)) (hf : w.frozen? ⟨g, 2, none⟩ = false) :
    Calls Try.prog 96 #[.pointer (some ⟨g, 0, none⟩)] w fun e w' => e = .returned (.tuple #[]) ∧ w' = w.setCell ⟨g, 2, none⟩ (.bool true) := by
  go_enter Try.func96, Try.ntmps96
  go_wp2
  go_end0
  exact ⟨rfl, rfl⟩
theorem b_turn (a k : Int) (w : World) (h0 : w.cell? ⟨g, 0, none⟩ = some (.int .i64 a)) (hf : w.frozen? ⟨g, 0, none⟩ = false) :
    Calls Try.prog 141 #[.pointer (some ⟨g, 0, none⟩), .int .i64 k] w fun e w' => e = .returned (.tuple #[]) ∧ w' = w.setCell ⟨g, 0, none⟩ (.int .i64 k) := by
  go_enter Try.func141, Try.ntmps141
  go_wp2
  go_end0
  exact ⟨rfl, rfl⟩
end

theorem OwnT.cap {w : World} {B : Nat} {e : TypeId} {A : Option Addr} {n c : Nat} {xs : List Value} (h : OwnT w B e (.slice A n c) xs) : n ≤ c := by
  rcases h with ⟨h, _⟩ | ⟨g, off, cap, cur, h, _, _, hn, _⟩
  · cases h; exact Nat.le_refl _
  · cases h; exact hn

end Go.Proofs.Ytkgmbomfkdkofaa
