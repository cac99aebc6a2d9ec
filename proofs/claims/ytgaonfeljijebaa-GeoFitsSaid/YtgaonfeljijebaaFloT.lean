/-
  Small whole numbers as floats: what a sum with 1, -1, 0 and -0 is, and what it is as an int again: all that are no greater than 4096. No program in sight.
-/
import Derived.Test.YtgaonfeljijebaaBase
import Derived.Laws.ComplexArith
import Derived.Test.YtgaonfeljijebaaFlo0
import Derived.Test.YtgaonfeljijebaaFlo1
import Derived.Test.YtgaonfeljijebaaFlo2
import Derived.Test.YtgaonfeljijebaaFlo3
namespace Go.Proofs.Ytgaonfeljijebaa
set_option linter.unusedVariables false

theorem flOk_last : flOk 4096 = true := by decide +kernel
theorem flFrom_at {s z : Int} (h : flFrom s = true) (h0 : s ≤ z) (h1 : z < s + 256) : flOk z = true := by
  unfold flFrom at h
  rw [List.all_eq_true] at h
  have := h (z - s).toNat (by rw [List.mem_range]; omega)
  rwa [show s + ((z - s).toNat : Int) = z by omega] at this
theorem flOk_all {z : Int} (h0 : -4096 ≤ z) (h1 : z ≤ 4096) : flOk z = true := by
  by_cases c0 : z < -3840
  · exact flFrom_at flOk_0 (by omega) (by omega)
  by_cases c1 : z < -3584
  · exact flFrom_at flOk_1 (by omega) (by omega)
  by_cases c2 : z < -3328
  · exact flFrom_at flOk_2 (by omega) (by omega)
  by_cases c3 : z < -3072
  · exact flFrom_at flOk_3 (by omega) (by omega)
  by_cases c4 : z < -2816
  · exact flFrom_at flOk_4 (by omega) (by omega)
  by_cases c5 : z < -2560
  · exact flFrom_at flOk_5 (by omega) (by omega)
  by_cases c6 : z < -2304
  · exact flFrom_at flOk_6 (by omega) (by omega)
  by_cases c7 : z < -2048
  · exact flFrom_at flOk_7 (by omega) (by omega)
  by_cases c8 : z < -1792
  · exact flFrom_at flOk_8 (by omega) (by omega)
  by_cases c9 : z < -1536
  · exact flFrom_at flOk_9 (by omega) (by omega)
  by_cases c10 : z < -1280
  · exact flFrom_at flOk_10 (by omega) (by omega)
  by_cases c11 : z < -1024
  · exact flFrom_at flOk_11 (by omega) (by omega)
  by_cases c12 : z < -768
  · exact flFrom_at flOk_12 (by omega) (by omega)
  by_cases c13 : z < -512
  · exact flFrom_at flOk_13 (by omega) (by omega)
  by_cases c14 : z < -256
  · exact flFrom_at flOk_14 (by omega) (by omega)
  by_cases c15 : z < 0
  · exact flFrom_at flOk_15 (by omega) (by omega)
  by_cases c16 : z < 256
  · exact flFrom_at flOk_16 (by omega) (by omega)
  by_cases c17 : z < 512
  · exact flFrom_at flOk_17 (by omega) (by omega)
  by_cases c18 : z < 768
  · exact flFrom_at flOk_18 (by omega) (by omega)
  by_cases c19 : z < 1024
  · exact flFrom_at flOk_19 (by omega) (by omega)
  by_cases c20 : z < 1280
  · exact flFrom_at flOk_20 (by omega) (by omega)
  by_cases c21 : z < 1536
  · exact flFrom_at flOk_21 (by omega) (by omega)
  by_cases c22 : z < 1792
  · exact flFrom_at flOk_22 (by omega) (by omega)
  by_cases c23 : z < 2048
  · exact flFrom_at flOk_23 (by omega) (by omega)
  by_cases c24 : z < 2304
  · exact flFrom_at flOk_24 (by omega) (by omega)
  by_cases c25 : z < 2560
  · exact flFrom_at flOk_25 (by omega) (by omega)
  by_cases c26 : z < 2816
  · exact flFrom_at flOk_26 (by omega) (by omega)
  by_cases c27 : z < 3072
  · exact flFrom_at flOk_27 (by omega) (by omega)
  by_cases c28 : z < 3328
  · exact flFrom_at flOk_28 (by omega) (by omega)
  by_cases c29 : z < 3584
  · exact flFrom_at flOk_29 (by omega) (by omega)
  by_cases c30 : z < 3840
  · exact flFrom_at flOk_30 (by omega) (by omega)
  by_cases c31 : z < 4096
  · exact flFrom_at flOk_31 (by omega) (by omega)
  obtain rfl : z = 4096 := by omega
  exact flOk_last
theorem fl_facts {z : Int} (h0 : -4096 ≤ z) (h1 : z ≤ 4096) : floatBits .add .f64 (fl z) (fl 1) = some (fl (z + 1)) ∧ floatBits .add .f64 (fl z) (fl (-1)) = some (fl (z - 1)) ∧ floatBits .add .f64 (fl z) 0 = some (fl z) ∧ floatBits .add .f64 (fl z) 9223372036854775808 = some (fl z) ∧ floatToIntVal .f64 (fl z) .i64 = some z := by
  have h := flOk_all h0 h1
  simp only [flOk, Bool.and_eq_true, beq_iff_eq] at h
  exact ⟨h.1.1.1.1, h.1.1.1.2, h.1.1.2, h.1.2, h.2⟩
end Go.Proofs.Ytgaonfeljijebaa
