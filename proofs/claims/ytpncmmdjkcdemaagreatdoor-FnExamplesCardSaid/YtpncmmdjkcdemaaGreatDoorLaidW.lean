/- What the listed variables read as, as the walks want it. No condition. -/
import Derived.Test.YtpncmmdjkcdemaaGreatDoorParseI
import Derived.Test.YtpncmmdjkcdemaaGreatDoorTie
import Derived.Test.YtpncmmdjkcdemaaGreatDoorCards
import Derived.Test.YtpncmmdjkcdemaaGreatDoorShap
import Derived.LaidMore
import Derived.Stop.Joined
import Derived.Lib.LaidTab
import Derived.Lay
import Derived.MakeChecks
namespace Go.Proofs.YtpncmmdjkcdemaaGreatDoor
open Go.ChangeShapes Go.WideShapes Go.ChangeAt Go.RowKit

theorem gPow : Tryz.prog.globalNamed "internal/strconv.uint64pow10" = some ((Tryz.prog.globalNamed "internal/strconv.uint64pow10").getD 0) := by kernel_rfl
theorem tPow : (Tryz.prog.globals[(Tryz.prog.globalNamed "internal/strconv.uint64pow10").getD 0]?).map (·.type) = some 123 := by kernel_rfl
theorem cellsU64 : Tryz.prog.cellsOf 103 = 1 := by kernel_rfl
theorem cellsPow : Tryz.prog.cellsOf 123 = 20 := by kernel_rfl
theorem laidPow : (Rows.laid_internal_strconv_uint64pow10 : DataW Unit) = Lib.tabData .u64 Lib.pow10Tab := by kernel_rfl
theorem laidW_of {W : World} (h : laidMetH Tryz.prog [("math/bits.deBruijn32tab", Rows.laid_math_bits_deBruijn32tab), ("math/bits.deBruijn64tab", Rows.laid_math_bits_deBruijn64tab), ("internal/strconv.uint64pow10", Rows.laid_internal_strconv_uint64pow10), ("unicode/utf8.acceptRanges", Rows.laid_unicode_utf8_acceptRanges), ("strconv.ErrRange", Rows.laid_strconv_ErrRange), ("strconv.ErrSyntax", Rows.laid_strconv_ErrSyntax), ("unicode/utf8.first", Rows.laid_unicode_utf8_first)] W) (hs : W.ShapedOpen Tryz.prog) : LaidW W := by
  refine ⟨?_, Tryz.laysM146.s1_3 W hs⟩
  rw [MakeChecks.laidMetH_plain _ _ _ (by kernel_rfl)] at h
  obtain ⟨ps, ⟨g0, t0, cs0, f0, p0, q0, hg0, ht0, hv0, hd0, ⟨g1, t1, cs1, f1, p1, q1, hg1, ht1, hv1, hd1, ⟨g2, t2, cs2, f2, p2, q2, hg2, ht2, hv2, hd2, _, _⟩, _⟩, _⟩, _, _⟩ := h
  obtain rfl := Option.some.inj (gPow.symm.trans hg2)
  obtain rfl := Option.some.inj (tPow.symm.trans ht2)
  rw [laidPow] at hd2
  unfold TabW Lib.TabIs
  rw [hv2, ← Lib.cells_of_tab Tryz.underlying123 Tryz.underlying103 cellsU64 cellsPow hd2]
end Go.Proofs.YtpncmmdjkcdemaaGreatDoor
