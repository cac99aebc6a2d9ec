/-
  Plain laws on squares and sides: turned round, and against the sum of the two ways. No program in sight.
-/
import Derived.Test.YtgaonfeljijebaaGeoI
namespace Go.Proofs.Ytgaonfeljijebaa
open Go.RowKit
set_option linter.unusedVariables false

theorem sqr_turn (a b c d : Int) : sqr c d a b = sqr a b c d := by
  unfold sqr
  have h1 : (c - a) * (c - a) = (a - c) * (a - c) := by
    have : c - a = -(a - c) := by omega
    rw [this, Int.neg_mul_neg]
  have h2 : (d - b) * (d - b) = (b - d) * (b - d) := by
    have : d - b = -(b - d) := by omega
    rw [this, Int.neg_mul_neg]
  rw [h1, h2]
  rcases plc a b <;> rcases plc c d <;> simp
theorem sgn_neg (n : Int) : sgn (-n) = -sgn n := by
  unfold sgn
  rcases Int.lt_trichotomy n 0 with h | h | h
  · rw [if_pos (by omega), if_neg (by omega), if_pos h]; rfl
  · subst h; rfl
  · rw [if_neg (by omega), if_pos (by omega), if_pos h]
theorem sgn_bd (n : Int) : -1 ≤ sgn n ∧ sgn n ≤ 1 := by
  unfold sgn
  split
  · omega
  · split <;> omega
theorem turn_turn (a b c d e f : Int) : turn c d a b e f = -turn a b c d e f := by
  unfold turn
  have h1 : f - d = (f - b) - (d - b) := by omega
  have h2 : e - c = (e - a) - (c - a) := by omega
  have h3 : a - c = -(c - a) := by omega
  have h4 : b - d = -(d - b) := by omega
  rw [h1, h2, h3, h4]
  generalize f - b = p
  generalize d - b = q
  generalize e - a = r
  generalize c - a = s
  rw [Int.neg_mul, Int.neg_mul, Int.mul_sub, Int.mul_sub, Int.mul_comm q s]
  omega
theorem sid_turn (a b c d e f : Int) : sid c d a b e f = -sid a b c d e f := by
  unfold sid
  rw [turn_turn, sgn_neg]
  rcases plc a b <;> rcases plc c d <;> rcases plc e f <;> simp
theorem sid_back (a b c d : Int) : sid a b c d a b = 0 := by
  unfold sid
  have : turn a b c d a b = 0 := by unfold turn; simp
  rw [this]
  split <;> rfl
theorem sid_bd (a b c d e f : Int) : -1 ≤ sid a b c d e f ∧ sid a b c d e f ≤ 1 := by
  unfold sid
  split
  · exact sgn_bd _
  · omega
theorem sqr_none {a b c d : Int} (h : plc a b = false ∨ plc c d = false) : sqr a b c d = 0 := by
  unfold sqr
  rw [if_neg]
  rcases h with h | h <;> rw [h] <;> simp
theorem sq_max (x : Int) : max x (-x) * max x (-x) = x * x := by
  rcases Int.le_total 0 x with h | h
  · rw [Int.max_eq_left (by omega)]
  · rw [Int.max_eq_right (by omega), Int.neg_mul_neg]
theorem mul_ge {x y : Int} (hx : 0 ≤ x) (hy : 0 ≤ y) : 0 ≤ x * y := Int.mul_nonneg hx hy
theorem both_facts {a b c d : Int} (h : plc a b = true) (h' : plc c d = true) :
    0 ≤ max (a - c) (c - a) ∧ max (a - c) (c - a) ≤ 67108864 ∧ 0 ≤ max (b - d) (d - b) ∧ max (b - d) (d - b) ≤ 67108864 ∧
    sqr a b c d ≤ (max (a - c) (c - a) + max (b - d) (d - b)) * (max (a - c) (c - a) + max (b - d) (d - b)) ∧
    (max (a - c) (c - a) + max (b - d) (d - b)) * (max (a - c) (c - a) + max (b - d) (d - b)) ≤ 2 * sqr a b c d ∧ sqr a b c d ≤ 9007199254740992 ∧ 0 ≤ sqr a b c d := by
  obtain ⟨a0, a1, b0, b1⟩ := plc_iff.1 h
  obtain ⟨c0, c1, d0, d1⟩ := plc_iff.1 h'
  have hs : sqr a b c d = (a - c) * (a - c) + (b - d) * (b - d) := by unfold sqr; rw [if_pos ⟨h, h'⟩]
  have e1 := sq_max (a - c)
  have e2 := sq_max (b - d)
  rw [show -(a - c) = c - a by omega] at e1
  rw [show -(b - d) = d - b by omega] at e2
  obtain ⟨_, p1⟩ := prod_bd (x := a - c) (y := a - c) (B := 67108864) (by omega) (by omega) (by omega) (by omega) (by omega)
  obtain ⟨_, q1⟩ := prod_bd (x := b - d) (y := b - d) (B := 67108864) (by omega) (by omega) (by omega) (by omega) (by omega)
  have X0 : 0 ≤ max (a - c) (c - a) := by omega
  have X1 : max (a - c) (c - a) ≤ 67108864 := by omega
  have Y0 : 0 ≤ max (b - d) (d - b) := by omega
  have Y1 : max (b - d) (d - b) ≤ 67108864 := by omega
  rw [hs, ← e1, ← e2]
  rw [← e1] at p1
  rw [← e2] at q1
  generalize max (a - c) (c - a) = X at X0 X1 p1 ⊢
  generalize max (b - d) (d - b) = Y at Y0 Y1 q1 ⊢
  have hx : (X + Y) * (X + Y) = X * X + Y * Y + 2 * (X * Y) := by
    rw [Int.add_mul, Int.mul_add, Int.mul_add, Int.mul_comm Y X]; omega
  have h0 := mul_ge X0 Y0
  have h1 : 0 ≤ (X - Y) * (X - Y) := by
    rcases Int.le_total 0 (X - Y) with h | h
    · exact Int.mul_nonneg h h
    · have := Int.mul_nonneg (show 0 ≤ -(X - Y) by omega) (show 0 ≤ -(X - Y) by omega)
      rwa [Int.neg_mul_neg] at this
  have hy : (X - Y) * (X - Y) = X * X + Y * Y - 2 * (X * Y) := by
    rw [Int.sub_mul, Int.mul_sub, Int.mul_sub, Int.mul_comm Y X]; omega
  have hX : 0 ≤ X * X := Int.mul_nonneg X0 X0
  have hY : 0 ≤ Y * Y := Int.mul_nonneg Y0 Y0
  refine ⟨X0, X1, Y0, Y1, by omega, by omega, by omega, by omega⟩
theorem goSqr_is {a b c d q : Int} {w : World} (h : sqr a b c d = q) : Calls Try.prog 41 #[.agg #[.int .i64 a, .int .i64 b], .agg #[.int .i64 c, .int .i64 d]] w fun e w' => e = .returned (.int .i64 q) ∧ Below w.heap.size w w' := by rw [← h]; exact goSqr a b c d w
theorem goSid_is {a b c d e f q : Int} {w : World} (h : sid a b c d e f = q) : Calls Try.prog 43 #[.agg #[.int .i64 a, .int .i64 b], .agg #[.int .i64 c, .int .i64 d], .agg #[.int .i64 e, .int .i64 f]] w fun en w' => en = .returned (.int .i64 q) ∧ Below w.heap.size w w' := by rw [← h]; exact goSid a b c d e f w
end Go.Proofs.Ytgaonfeljijebaa
