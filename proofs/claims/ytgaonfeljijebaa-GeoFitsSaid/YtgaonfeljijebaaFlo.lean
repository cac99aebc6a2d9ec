/-
  Whole numbers as floats, and what is asked of them (flOk). No program in sight.
-/
import Derived.Test.YtgaonfeljijebaaBase
import Derived.Laws.ComplexArith
namespace Go.Proofs.Ytgaonfeljijebaa
set_option linter.unusedVariables false

/-- A whole number as a float. -/
def fl (i : Int) : Nat := floatOfInt .f64 i
def flOk (z : Int) : Bool :=
  floatBits .add .f64 (fl z) (fl 1) == some (fl (z + 1)) && floatBits .add .f64 (fl z) (fl (-1)) == some (fl (z - 1)) && floatBits .add .f64 (fl z) 0 == some (fl z) && floatBits .add .f64 (fl z) 9223372036854775808 == some (fl z) && floatToIntVal .f64 (fl z) .i64 == some z
def flFrom (s : Int) : Bool := (List.range 256).all (fun i => flOk (s + i))
end Go.Proofs.Ytgaonfeljijebaa
