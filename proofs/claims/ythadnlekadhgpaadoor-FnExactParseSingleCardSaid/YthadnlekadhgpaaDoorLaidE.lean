/-
  What the rows' listed variables give the walks, where the library's two errors are listed too.
-/
import Derived.Test.YthadnlekadhgpaaDoorLaid
import Derived.Test.YthadnlekadhgpaaDoorNum
namespace Go.Proofs.YthadnlekadhgpaaDoor
open Go.RowKit
theorem tSyn : (Tryd.prog.globals[4]?).map (·.type) = some 62 := by kernel_rfl
theorem tRng : (Tryd.prog.globals[5]?).map (·.type) = some 62 := by kernel_rfl
theorem cES : Tryd.prog.cellsOf 115 = 1 := by kernel_rfl
theorem cStr : Tryd.prog.cellsOf 9 = 1 := by kernel_rfl
theorem starES : "*" ++ "errors.errorString" = "*errors.errorString" := by decide
theorem rowES (u : TypeId) (h : Tryd.prog.typeName? 3 u = some "*errors.errorString") : u = 113 :=
  typeName_ptr_named (nm := "errors.errorString") (by rw [starES]; kernel_rfl) (by kernel_rfl) (by decide) u (by rw [starES]; exact h)
def laidAll : List (String × DataW Unit) := [("math/bits.deBruijn32tab", Rows.laid_math_bits_deBruijn32tab), ("math/bits.deBruijn64tab", Rows.laid_math_bits_deBruijn64tab), ("internal/strconv.uint64pow10", Rows.laid_internal_strconv_uint64pow10), ("strconv.ErrRange", Rows.laid_strconv_ErrRange), ("strconv.ErrSyntax", Rows.laid_strconv_ErrSyntax)]
theorem tabs_of_laid2 {W : World} (h : laidMetH Tryd.prog laidAll W) : TabsAt W := by
  rw [MakeChecks.laidMetH_plain _ _ _ (by kernel_rfl)] at h
  exact tabs_of_met h
theorem errs_of_laid {W : World} (h : laidMetH Tryd.prog laidAll W) : ErrsAt W := by
  rw [MakeChecks.laidMetH_plain _ _ _ (by kernel_rfl)] at h
  obtain ⟨a1, s1, h1, -, -, -⟩ := laid_sentinel h.tail.tail.tail gRng tRng Tryd.underlying62 rowES Tryd.underlying113 Tryd.underlying115 rfl rfl Tryd.underlying9 cES cStr
  obtain ⟨a2, s2, h2, -, -, -⟩ := laid_sentinel h.tail.tail.tail.tail gSyn tSyn Tryd.underlying62 rowES Tryd.underlying113 Tryd.underlying115 rfl rfl Tryd.underlying9 cES cStr
  exact ⟨⟨_, _, h2⟩, ⟨_, _, h1⟩⟩
end Go.Proofs.YthadnlekadhgpaaDoor
