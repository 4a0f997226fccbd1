/- Texts of this claim, joined: DTab. -/
import Derived.Test.YtajjgfiojlagmaaGreatDoorMO25
import Derived.Test.YtajjgfiojlagmaaGreatDoorMO26

/- What the listed variables hold, for the rows of the document. -/
namespace Go.Proofs.YtajjgfiojlagmaaGreatDoor
open Go.ChangeShapes Go.WideShapes Go.ChangeAt Go.RowKit

theorem Tryz.gPow : Tryz.prog.globalNamed "internal/strconv.uint64pow10" = some ((Tryz.prog.globalNamed "internal/strconv.uint64pow10").getD 0) := by kernel_rfl
theorem Tryz.tPow : (Tryz.prog.globals[(Tryz.prog.globalNamed "internal/strconv.uint64pow10").getD 0]?).map (·.type) = some 148 := by kernel_rfl
theorem Tryz.cellsU64 : Tryz.prog.cellsOf 96 = 1 := by kernel_rfl
theorem Tryz.cellsPow : Tryz.prog.cellsOf 148 = 20 := by kernel_rfl
theorem tab_of_laid {W : World} (h : laidMetH Tryz.prog [("math/bits.deBruijn32tab", Rows.laid_math_bits_deBruijn32tab), ("math/bits.deBruijn64tab", Rows.laid_math_bits_deBruijn64tab), ("internal/strconv.uint64pow10", Rows.laid_internal_strconv_uint64pow10), ("unicode/utf8.acceptRanges", Rows.laid_unicode_utf8_acceptRanges), ("unicode/utf8.first", Rows.laid_unicode_utf8_first)] W) : TabI W := by
  rw [MakeChecks.laidMetH_plain _ _ _ (by kernel_rfl)] at h
  obtain ⟨ps, ⟨_, _, _, _, _, _, _, _, _, _, ⟨_, _, _, _, _, _, _, _, _, _, ⟨g', t', cs, fuel, p, q, hg', ht', hvar, hd, _, _⟩, _⟩, _⟩, _, _⟩ := h
  obtain rfl := Option.some.inj (Tryz.gPow.symm.trans hg')
  obtain rfl := Option.some.inj (Tryz.tPow.symm.trans ht')
  have hc := Lib.cells_of_tab (k := .u64) (zs := Lib.pow10Tab) Tryz.underlying148 Tryz.underlying96 Tryz.cellsU64 Tryz.cellsPow (show DataW.trod _ Tryz.prog W 0 _ false fuel 148 cs.toList = some (Lib.tabData .u64 Lib.pow10Tab, p) from hd)
  unfold TabI Lib.TabIs
  rw [hvar, ← hc]
end Go.Proofs.YtajjgfiojlagmaaGreatDoor
