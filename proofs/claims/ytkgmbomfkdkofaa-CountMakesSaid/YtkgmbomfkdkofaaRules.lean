/- params.rules. -/
import Derived.Test.YtkgmbomfkdkofaaRef3C
import Derived.Deep.RegionHeld3
import Derived.Deep.RegionWith
import Derived.Deep.DrawnRows
import Derived.BigQuiet
import Derived.Outline
import Derived.Laws.IdiomAt
import Derived.Test.YtkgmbomfkdkofaaStrm
namespace Go.Proofs.Ytkgmbomfkdkofaa
open Go Go.RowKit

def rule7 (a b c d e f g : Int) : List Value := [.int .i64 a, .int .i64 b, .int .i64 c, .int .i64 d, .int .i64 e, .int .i64 f, .int .i64 g]
def bigMost : Int := 9223372036854775807
def ruleRow : Nat → List Value
  | 1 => rule7 0 15 0 0 1 0 0
  | 2 => rule7 0 15 0 1 0 0 0
  | 3 => rule7 0 1000000000 0 1 1 64 0
  | 4 => rule7 0 bigMost 0 1 1 64 64
  | 5 => rule7 0 1 1 1 1 64 0
  | 6 => rule7 0 0 2 1 1 0 0
  | 7 => rule7 1 65535 3 1 1 64 0
  | 8 => rule7 0 1 0 1 1 128 0
  | 9 => rule7 0 0 0 1 1 0 0
  | 10 => rule7 0 1000000000 0 1 1 64 0
  | 11 => rule7 0 1 0 1 1 320 0
  | 12 => rule7 1 4 0 (-1) 1 0 0
  | 13 => rule7 1 4 3 (-1) 1 0 96
  | 14 => rule7 1 bigMost 3 2 1 192 128
  | 15 => rule7 1 4 0 1 (-1) 0 0
  | 16 => rule7 1 4 0 1 (-1) 64 0
  | _ => rule7 0 0 0 0 0 0 0
def allRules : Array Value := (((List.range 17).flatMap ruleRow).toArray)

theorem info_rules : (Try.prog.info? 119).map (·.size) = some 119 := by kernel_rfl

set_option maxHeartbeats 4000000 in
set_option maxRecDepth 100000 in
theorem rules_any (w : World) : Calls Try.prog 44 #[] w fun e w' => e = .returned (.agg allRules) ∧ Chg (fun _ => False) w w' := by
  go_enter Try.func44, Try.ntmps44
  go_wp2_with (first
    | (refine wpList_store_row rfl 119 (.tmp 0) (.tmp 17) rfl w.heap.size _ rfl rfl 119 _ (Blk.new w _ _) info_rules rfl (by kernel_rfl) ?_))
  refine bodyPost_ret (results_cell_row rfl _ _ w.heap.size _ _ _ _ rfl (blk_setRow (Blk.new w _ _)) Try.underlying119 rfl info_rules) rfl ?_
  exact ⟨by kernel_rfl, chg_setRow ((Chg.refl _ _).alloc _) (.inr (Nat.le_refl _)) _⟩
end Go.Proofs.Ytkgmbomfkdkofaa
