/- What the rows' lists give: the library's table holds the powers of ten. -/
import Derived.Test.YtfbfcehjlaallaaDoorCards
import Derived.Test.YtfbfcehjlaallaaDoorItoa
import Derived.Lib.LaidTab
namespace Go.Proofs.YtfbfcehjlaallaaDoor
open Go Go.RowKit

theorem gPow : Tryd.prog.globalNamed "internal/strconv.uint64pow10" = some 0 := by kernel_rfl
theorem gPowType : (Tryd.prog.globals[0]?).map (·.type) = some 105 := by kernel_rfl
theorem cellsPow : Tryd.prog.cellsOf 105 = 20 := by kernel_rfl
theorem cellsU64 : Tryd.prog.cellsOf 94 = 1 := by kernel_rfl

abbrev seatLaid : List (String × DataW Unit) := [("math/bits.deBruijn32tab", Rows.laid_math_bits_deBruijn32tab), ("math/bits.deBruijn64tab", Rows.laid_math_bits_deBruijn64tab), ("internal/strconv.uint64pow10", Rows.laid_internal_strconv_uint64pow10)]

theorem tabOk_of_laid {W : World} (h : laidMetH Tryd.prog seatLaid W) : TabOk W.heap.size W := by
  have h' : laidMet Tryd.prog seatLaid W := h
  obtain ⟨ps, ⟨_, _, _, _, _, _, _, _, _, _, ⟨_, _, _, _, _, _, _, _, _, _, ⟨g', t', cs, fuel, p, q, hg', ht', hvar, hd, _, _⟩, _⟩, _⟩, _⟩ := h'
  obtain rfl := Option.some.inj (gPow.symm.trans hg')
  obtain rfl := Option.some.inj (gPowType.symm.trans ht')
  have hd' : DataW.trod _ Tryd.prog W _ _ _ fuel 105 cs.toList = some (Lib.tabData .u64 Lib.pow10Tab, p) := hd
  have hc := Lib.cells_of_tab Tryd.underlying105 Tryd.underlying94 cellsU64 cellsPow hd'
  have hv : W.var? Tryd.prog "internal/strconv.uint64pow10" = some (Lib.pow10Tab.map fun z => Value.int .u64 z).toArray := by
    rw [hvar, ← hc]
  intro w' hb
  show w'.var? Tryd.prog "internal/strconv.uint64pow10" = _
  rw [← hv]
  unfold World.var? at hv ⊢
  rw [gPow] at hv ⊢
  simp only [Option.bind_some] at hv ⊢
  have hg : 0 < W.heap.size := by
    cases hh : W.heap[0]? with
    | none => rw [hh] at hv; cases hv
    | some o => exact (Array.getElem?_eq_some_iff.1 hh).1
  rw [hb.block _ hg]
end Go.Proofs.YtfbfcehjlaallaaDoor
