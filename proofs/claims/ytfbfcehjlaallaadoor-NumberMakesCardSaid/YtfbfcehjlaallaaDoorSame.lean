/- The contracts of penstocklaw04.Same and Begins, where they hold. -/
import Derived.Test.YtfbfcehjlaallaaDoorStrm
import Derived.Deep.RegionHeld3
import Derived.Deep.DrawnRows
import Derived.BigQuiet
import Derived.Outline
namespace Go.Proofs.YtfbfcehjlaallaaDoor
open Go Go.RowKit

/-- string(b), whatever the slice. -/
theorem conv_rd (w : World) (D : Nat → Prop) (A : Option Addr) (b : Bs) (c : Nat) (h : Rd w D 1 A b.length (u8s b)) :
    (convert 22 9 (.slice A b.length c)).run Tryd.prog w = .ok (strv b) w := by
  rcases Nat.eq_zero_or_pos b.length with h0 | hp
  · have hb : b = [] := List.eq_nil_of_length_eq_zero h0
    subst hb
    cases A with
    | none => exact run_convert_bytes_nil w 22 5 Tryd.underlying22 Tryd.underlying5 0 c 9 Tryd.underlying9
    | some ad =>
      rw [run_convert_bytes_string w 22 9 5 _ _ c Tryd.underlying22 Tryd.underlying5 Tryd.underlying9]
      exact run_bytesToString w ad 0 c [] (by simp [loadCells, loadCellsFrom])
  · obtain ⟨g, o, rfl, _, _, hc⟩ := h.2 hp
    exact conv_str g o c b (fun i x hx => hc i _ (u8s_at hx))

theorem strs_bs {w : World} {D : Nat → Prop} {A : Option Addr} {n c : Nat} {l : List Strm} (h : StrmsAt w D (.slice A n c) l) {k : Nat} (hk : k < l.length) :
    n = l.length ∧ ∃ g o A2 c2, A = some ⟨g, o, none⟩ ∧ g < w.heap.size ∧ D g ∧ w.cell? ⟨g, o + k * 5, none⟩ = some (.slice A2 l[k].bs.length c2) ∧ Rd w D 1 A2 l[k].bs.length (u8s l[k].bs) := by
  obtain ⟨h1, g, o, A2, c2, h2, h3, h4, h5, _, _, _, _, h6, _⟩ := h.at_ hk
  exact ⟨h1, g, o, A2, c2, h2, h3, h4, h5, h6⟩

/-- An answer, and nothing of what was there has changed. -/
def TruePost (w : World) (e : Ending) (w' : World) : Prop := e = .returned (.bool true) ∧ Chg (fun _ => False) w w'

/-- What Same knows of a stream that is wanted. -/
def WOk (need err : Int) (ins : List Strm) (x : Strm) : Prop :=
  (x.ended = true ∧ need = -1 ∧ err = 0) ∨ (x.ended = false ∧ need = -1 ∧ err = x.code ∧ err ≠ 0) ∨
    (x.ended = false ∧ err = 0 ∧ ∃ k : Nat, need = (k : Int) ∧ ∃ h : k < ins.length, x.code = ins[k].code ∧ x.stage = ins[k].stage ∧ x.id = ins[k].id)

theorem out_at (outs : Nat → Bs) (need err held : Int) (taken : Nat → Nat) (bad : Bool) (k : Nat) (hk : k < 4) : (gotC outs need err held taken bad)[k]? = some (strv (outs k)) := by
  obtain rfl | rfl | rfl | rfl : k = 0 ∨ k = 1 ∨ k = 2 ∨ k = 3 := by omega
  all_goals rfl

def SameRel (W : World) (g : Nat) (gc : Array Value) (wr : World) : Prop := Blk wr g 46 gc ∧ Chg (fun _ => False) W wr

end Go.Proofs.YtfbfcehjlaallaaDoor
