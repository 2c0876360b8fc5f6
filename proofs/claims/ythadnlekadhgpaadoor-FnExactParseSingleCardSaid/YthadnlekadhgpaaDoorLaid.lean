/-
  What the rows' listed variables give the walks: the library's tables and its two errors.
-/
import Derived.Test.YthadnlekadhgpaaDoorFmtI
import Derived.LaidMore
import Derived.Stop.LaidErr
namespace Go.Proofs.YthadnlekadhgpaaDoor
open Go.RowKit
theorem tBit : (Tryd.prog.globals[1]?).map (·.type) = some 60 := by kernel_rfl
theorem tPow : (Tryd.prog.globals[3]?).map (·.type) = some 99 := by kernel_rfl
theorem dBit : (Rows.laid_math_bits_deBruijn32tab : DataW Unit) = Lib.tabData .u8 dbTab := by kernel_rfl
theorem dPow : (Rows.laid_internal_strconv_uint64pow10 : DataW Unit) = Lib.tabData .u64 Lib.pow10Tab := by kernel_rfl
theorem tabs_of_met {W : World} {x : String × DataW Unit} {r : List (String × DataW Unit)}
    (h : laidMet Tryd.prog (("math/bits.deBruijn32tab", Rows.laid_math_bits_deBruijn32tab) :: x :: ("internal/strconv.uint64pow10", Rows.laid_internal_strconv_uint64pow10) :: r) W) : TabsAt W := by
  rw [dBit, dPow] at h
  exact ⟨Lib.tabIs_of_head gPow tPow Tryd.underlying99 Tryd.underlying71 (by kernel_rfl) (by kernel_rfl) h.tail.tail,
    Lib.tabIs_of_head gBit tBit Tryd.underlying60 Tryd.underlying5 (by kernel_rfl) (by kernel_rfl) h⟩
theorem tabs_of_laid {W : World} (h : laidMetH Tryd.prog Rows.fnExactFormatSingleRow.laid W) : TabsAt W := by
  rw [MakeChecks.laidMetH_plain _ _ _ (by kernel_rfl)] at h
  exact tabs_of_met h
end Go.Proofs.YthadnlekadhgpaaDoor
