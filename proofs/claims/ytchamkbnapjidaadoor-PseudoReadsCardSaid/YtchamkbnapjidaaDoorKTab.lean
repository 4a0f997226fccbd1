/- What the listed variables hold. -/
import Derived.Test.YtchamkbnapjidaaDoorKOpn
namespace Go.Proofs.YtchamkbnapjidaaDoor
open Go.ChangeShapes Go.WideShapes Go.ChangeAt Go.RowKit

theorem Tryd.gPow : Tryd.prog.globalNamed "internal/strconv.uint64pow10" = some ((Tryd.prog.globalNamed "internal/strconv.uint64pow10").getD 0) := by kernel_rfl
theorem Tryd.tPow : (Tryd.prog.globals[(Tryd.prog.globalNamed "internal/strconv.uint64pow10").getD 0]?).map (·.type) = some 122 := by kernel_rfl
theorem Tryd.cellsU64 : Tryd.prog.cellsOf 42 = 1 := by kernel_rfl
theorem Tryd.cellsPow : Tryd.prog.cellsOf 122 = 20 := by kernel_rfl
/-- The table of powers of ten, out of what the rows list. -/
theorem tab_of_laid {W : World} (h : laidMetH Tryd.prog [("math/bits.deBruijn32tab", Rows.laid_math_bits_deBruijn32tab), ("math/bits.deBruijn64tab", Rows.laid_math_bits_deBruijn64tab), ("internal/strconv.uint64pow10", Rows.laid_internal_strconv_uint64pow10), ("strconv.ErrRange", Rows.laid_strconv_ErrRange), ("strconv.ErrSyntax", Rows.laid_strconv_ErrSyntax)] W) : Tab W := by
  rw [MakeChecks.laidMetH_plain _ _ _ (by kernel_rfl)] at h
  obtain ⟨ps, ⟨_, _, _, _, _, _, _, _, _, _, ⟨_, _, _, _, _, _, _, _, _, _, ⟨g', t', cs, fuel, p, q, hg', ht', hvar, hd, _, _⟩, _⟩, _⟩, _, _⟩ := h
  obtain rfl := Option.some.inj (Tryd.gPow.symm.trans hg')
  obtain rfl := Option.some.inj (Tryd.tPow.symm.trans ht')
  have hc := Lib.cells_of_tab (k := .u64) (zs := Lib.pow10Tab) Tryd.underlying122 Tryd.underlying42 Tryd.cellsU64 Tryd.cellsPow (show DataW.trod _ Tryd.prog W 0 _ false fuel 122 cs.toList = some (Lib.tabData .u64 Lib.pow10Tab, p) from hd)
  unfold Tab Lib.TabIs
  rw [hvar, ← hc]
end Go.Proofs.YtchamkbnapjidaaDoor
