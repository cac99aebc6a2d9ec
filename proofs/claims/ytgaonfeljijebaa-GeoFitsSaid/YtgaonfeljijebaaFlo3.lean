/-
  Small whole numbers as floats, a quarter of them: what a sum with 1, -1, 0 and -0 is, and what it is as an int again: by the kernel. No program in sight.
-/
import Derived.Test.YtgaonfeljijebaaBase
import Derived.Laws.ComplexArith
import Derived.Test.YtgaonfeljijebaaFlo
namespace Go.Proofs.Ytgaonfeljijebaa
set_option linter.unusedVariables false

theorem flOk_24 : flFrom (2048) = true := by decide +kernel
theorem flOk_25 : flFrom (2304) = true := by decide +kernel
theorem flOk_26 : flFrom (2560) = true := by decide +kernel
theorem flOk_27 : flFrom (2816) = true := by decide +kernel
theorem flOk_28 : flFrom (3072) = true := by decide +kernel
theorem flOk_29 : flFrom (3328) = true := by decide +kernel
theorem flOk_30 : flFrom (3584) = true := by decide +kernel
theorem flOk_31 : flFrom (3840) = true := by decide +kernel
end Go.Proofs.Ytgaonfeljijebaa
