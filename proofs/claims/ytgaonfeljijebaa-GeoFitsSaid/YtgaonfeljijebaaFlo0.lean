/-
  Small whole numbers as floats, a quarter of them: what a sum with 1, -1, 0 and -0 is, and what it is as an int again: by the kernel. No program in sight.
-/
import Derived.Test.YtgaonfeljijebaaBase
import Derived.Laws.ComplexArith
import Derived.Test.YtgaonfeljijebaaFlo
namespace Go.Proofs.Ytgaonfeljijebaa
set_option linter.unusedVariables false

theorem flOk_0 : flFrom (-4096) = true := by decide +kernel
theorem flOk_1 : flFrom (-3840) = true := by decide +kernel
theorem flOk_2 : flFrom (-3584) = true := by decide +kernel
theorem flOk_3 : flFrom (-3328) = true := by decide +kernel
theorem flOk_4 : flFrom (-3072) = true := by decide +kernel
theorem flOk_5 : flFrom (-2816) = true := by decide +kernel
theorem flOk_6 : flFrom (-2560) = true := by decide +kernel
theorem flOk_7 : flFrom (-2304) = true := by decide +kernel
end Go.Proofs.Ytgaonfeljijebaa
