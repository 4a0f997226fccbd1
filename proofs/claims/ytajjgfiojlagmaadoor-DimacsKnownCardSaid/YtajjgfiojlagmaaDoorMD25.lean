/- Texts of this claim, joined: DTab. -/
import Derived.Test.YtajjgfiojlagmaaDoorMD23
import Derived.Test.YtajjgfiojlagmaaDoorMD24

/- What the listed variables hold, for the rows of the document. -/
namespace Go.Proofs.YtajjgfiojlagmaaDoor
open Go.ChangeShapes Go.WideShapes Go.ChangeAt Go.RowKit

theorem Tryd.gPow : Tryd.prog.globalNamed "internal/strconv.uint64pow10" = some ((Tryd.prog.globalNamed "internal/strconv.uint64pow10").getD 0) := by kernel_rfl
theorem Tryd.tPow : (Tryd.prog.globals[(Tryd.prog.globalNamed "internal/strconv.uint64pow10").getD 0]?).map (·.type) = some 126 := by kernel_rfl
theorem Tryd.cellsU64 : Tryd.prog.cellsOf 79 = 1 := by kernel_rfl
theorem Tryd.cellsPow : Tryd.prog.cellsOf 126 = 20 := by kernel_rfl
theorem tab_of_laid {W : World} (h : laidMetH Tryd.prog [("math/bits.deBruijn32tab", Rows.laid_math_bits_deBruijn32tab), ("math/bits.deBruijn64tab", Rows.laid_math_bits_deBruijn64tab), ("internal/strconv.uint64pow10", Rows.laid_internal_strconv_uint64pow10), ("unicode/utf8.acceptRanges", Rows.laid_unicode_utf8_acceptRanges), ("unicode/utf8.first", Rows.laid_unicode_utf8_first)] W) : TabI W := by
  rw [MakeChecks.laidMetH_plain _ _ _ (by kernel_rfl)] at h
  obtain ⟨ps, ⟨_, _, _, _, _, _, _, _, _, _, ⟨_, _, _, _, _, _, _, _, _, _, ⟨g', t', cs, fuel, p, q, hg', ht', hvar, hd, _, _⟩, _⟩, _⟩, _, _⟩ := h
  obtain rfl := Option.some.inj (Tryd.gPow.symm.trans hg')
  obtain rfl := Option.some.inj (Tryd.tPow.symm.trans ht')
  have hc := Lib.cells_of_tab (k := .u64) (zs := Lib.pow10Tab) Tryd.underlying126 Tryd.underlying79 Tryd.cellsU64 Tryd.cellsPow (show DataW.trod _ Tryd.prog W 0 _ false fuel 126 cs.toList = some (Lib.tabData .u64 Lib.pow10Tab, p) from hd)
  unfold TabI Lib.TabIs
  rw [hvar, ← hc]
end Go.Proofs.YtajjgfiojlagmaaDoor
