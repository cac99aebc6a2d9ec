/-
  Small whole numbers as floats, a quarter of them: what a sum with 1, -1, 0 and -0 is, and what it is as an int again: by the kernel. No program in sight.
-/
import Derived.Test.YtgaonfeljijebaaBase
import Derived.Laws.ComplexArith
import Derived.Test.YtgaonfeljijebaaFlo
namespace Go.Proofs.Ytgaonfeljijebaa
set_option linter.unusedVariables false

theorem flOk_8 : flFrom (-2048) = true := by decide +kernel
theorem flOk_9 : flFrom (-1792) = true := by decide +kernel
theorem flOk_10 : flFrom (-1536) = true := by decide +kernel
theorem flOk_11 : flFrom (-1280) = true := by decide +kernel
theorem flOk_12 : flFrom (-1024) = true := by decide +kernel
theorem flOk_13 : flFrom (-768) = true := by decide +kernel
theorem flOk_14 : flFrom (-512) = true := by decide +kernel
theorem flOk_15 : flFrom (-256) = true := by decide +kernel
end Go.Proofs.Ytgaonfeljijebaa
