/- What kinds of one input that are machines of lines have in common. -/
import Derived.Test.YtfbfcehjlaallaaDoorOneQ
import Derived.Test.YtfbfcehjlaallaaDoorLines
namespace Go.Proofs.YtfbfcehjlaallaaDoor
open Go Go.RowKit

/-- Cells of a machine of lines, from its start on. -/
def lines0 (e l : Value) (x : List Value) : Array Value :=
  (([.int .i64 0, .bool false, .bool false] ++ List.replicate 64 (.int .u8 0) ++ [.int .i64 0, .bool false, e, l] ++ x : List Value)).toArray

theorem lines0_cells (e l : Value) (x : List Value) : LCells (lines0 e l x) false [] e l where
  at_ := rfl
  more := rfl
  ov := rfl
  spl := ⟨false, ⟨by simp, fun i x h => by simp at h, fun i hi => ⟨0, by
    unfold lines0
    rw [List.getElem?_toArray, List.append_assoc, List.append_assoc, List.getElem?_append_right (by simp), List.getElem?_append_left (by simp; omega)]
    rw [List.getElem?_replicate, if_pos (by simp; omega)]⟩, rfl, rfl⟩, fun _ => rfl⟩
  each := rfl
  last := rfl

theorem Blk_eq {w : World} {g : Nat} {t : TypeId} {cs ds : Array Value} (h : Blk w g t cs) (e : cs = ds) : Blk w g t ds := e ▸ h
end Go.Proofs.YtfbfcehjlaallaaDoor
