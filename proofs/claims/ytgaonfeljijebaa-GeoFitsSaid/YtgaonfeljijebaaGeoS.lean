/-
  Places, squares and sides: the functions of the package geo and those of its reference return plc, sqr and sid. No conditions but that the numbers are ints.
-/
import Derived.Test.YtgaonfeljijebaaRows
import Derived.Test.YtgaonfeljijebaaGeoR
namespace Go.Proofs.Ytgaonfeljijebaa
open Go.ChangeShapes Go.WideShapes Go.ChangeAt Go.RowKit
set_option linter.unusedVariables false

/-- Is there such a place? -/
def plc (x y : Int) : Bool := decide (0 ≤ x ∧ x < 67108864 ∧ 0 ≤ y ∧ y < 67108864)
theorem plc_iff {x y : Int} : plc x y = true ↔ 0 ≤ x ∧ x < 67108864 ∧ 0 ≤ y ∧ y < 67108864 := by simp [plc]
theorem prod_bd {x y B : Int} (hB : 0 ≤ B) (x0 : -B ≤ x) (x1 : x ≤ B) (y0 : -B ≤ y) (y1 : y ≤ B) : -(B * B) ≤ x * y ∧ x * y ≤ B * B := by
  have h1 : x.natAbs * y.natAbs ≤ B.natAbs * B.natAbs := Nat.mul_le_mul (by omega) (by omega)
  have h2 : (x * y).natAbs = x.natAbs * y.natAbs := Int.natAbs_mul x y
  have h3 : (B * B).natAbs = B.natAbs * B.natAbs := Int.natAbs_mul B B
  have h4 : 0 ≤ B * B := Int.mul_nonneg hB hB
  omega
theorem goPlc (x y : Int) (w : World) : Calls Try.prog 39 #[.int .i64 x, .int .i64 y] w fun e w' => e = .returned (.bool (plc x y)) ∧ w = w' := by
  by_cases h1 : 0 ≤ x <;> by_cases h2 : x < 67108864 <;> by_cases h3 : 0 ≤ y <;> by_cases h4 : y < 67108864
  all_goals
    go_enter Try.func39, Try.ntmps39
    go_wp2
    go_ret
    exact ⟨ret_bool (by rw [plc]; simp; omega), rfl⟩
theorem refPlc (x y : Int) (w : World) : Calls Try.prog 40 #[.int .i64 x, .int .i64 y] w fun e w' => e = .returned (.bool (plc x y)) ∧ w = w' := by
  by_cases h1 : 0 ≤ x <;> by_cases h2 : x < 67108864 <;> by_cases h3 : 0 ≤ y <;> by_cases h4 : y < 67108864
  all_goals
    go_enter Try.func40, Try.ntmps40
    go_wp2
    go_ret
    exact ⟨ret_bool (by rw [plc]; simp; omega), rfl⟩
theorem goPlc_is {x y : Int} {b : Bool} {w : World} (h : plc x y = b) : Calls Try.prog 39 #[.int .i64 x, .int .i64 y] w fun e w' => e = .returned (.bool b) ∧ w = w' := by rw [← h]; exact goPlc x y w
theorem refPlc_is {x y : Int} {b : Bool} {w : World} (h : plc x y = b) : Calls Try.prog 40 #[.int .i64 x, .int .i64 y] w fun e w' => e = .returned (.bool b) ∧ w = w' := by rw [← h]; exact refPlc x y w
theorem goIs {x y : Int} {b : Bool} {w : World} (h : plc x y = b) : Calls Try.prog 57 #[.agg #[.int .i64 x, .int .i64 y]] w fun e w' => e = .returned (.bool b) ∧ w.alloc (.cells #[.int .i64 x, .int .i64 y] 69) = w' := by
  have H := Lib.hid h
  clear h
  go_enter Try.func57, Try.ntmps57
  go_wp2_with (go_at_call 39; refine (goPlc_is H.out).mono ?_; rintro e w' ⟨rfl, rfl⟩)
  go_ret
  exact ⟨rfl, rfl⟩

/-- The square of two places' distance. -/
def sqr (a b c d : Int) : Int := if plc a b = true ∧ plc c d = true then (a - c) * (a - c) + (b - d) * (b - d) else 0
def sgn (n : Int) : Int := if 0 < n then 1 else if n < 0 then -1 else 0
def turn (a b c d e f : Int) : Int := (c - a) * (f - b) - (d - b) * (e - a)
/-- On which side of the way from (a, b) to (c, d) the place (e, f) lies. -/
def sid (a b c d e f : Int) : Int := if plc a b = true ∧ plc c d = true ∧ plc e f = true then sgn (turn a b c d e f) else 0

set_option maxHeartbeats 800000 in
theorem goSqr (a b c d : Int) (w : World) : Calls Try.prog 41 #[.agg #[.int .i64 a, .int .i64 b], .agg #[.int .i64 c, .int .i64 d]] w fun e w' => e = .returned (.int .i64 (sqr a b c d)) ∧ Below w.heap.size w w' := by
  rcases h1 : plc a b with _ | _
  · have E : Hid (sqr a b c d = 0) := by show _ = _; rw [sqr, if_neg (by rw [h1]; simp)]
    have H1 := Lib.hid h1
    clear h1
    go_enter Try.func41, Try.ntmps41
    go_wp2_with (go_at_call 57; refine (goIs H1.out).mono ?_; rintro e w' ⟨rfl, rfl⟩)
    go_ret
    exact ⟨ret_int E.out.symm, (((Below.refl _ _).alloc (Nat.le_refl _) _).alloc (by simp) _).alloc (by simp; omega) _⟩
  · rcases h2 : plc c d with _ | _
    · have E : Hid (sqr a b c d = 0) := by show _ = _; rw [sqr, if_neg (by rw [h2]; simp)]
      have H1 := Lib.hid h1
      have H2 := Lib.hid h2
      clear h1 h2
      go_enter Try.func41, Try.ntmps41
      go_wp2_with fail
      refine (goIs H1.out).mono ?_
      rintro e w' ⟨rfl, rfl⟩
      go_wp2_with fail
      refine (goIs H2.out).mono ?_
      rintro e w' ⟨rfl, rfl⟩
      go_wp2_with fail
      go_ret
      exact ⟨ret_int E.out.symm, ((((Below.refl _ _).alloc (Nat.le_refl _) _).alloc (by simp) _).alloc (by simp; omega) _).alloc (by simp; omega) _⟩
    · have E : Hid (sqr a b c d = (a - c) * (a - c) + (b - d) * (b - d)) := by show _ = _; rw [sqr, if_pos ⟨h1, h2⟩]
      have H1 := Lib.hid h1
      have H2 := Lib.hid h2
      obtain ⟨a0, a1, b0, b1⟩ := plc_iff.1 h1
      obtain ⟨c0, c1, d0, d1⟩ := plc_iff.1 h2
      obtain ⟨p0, p1⟩ := prod_bd (x := a - c) (y := a - c) (B := 67108864) (by omega) (by omega) (by omega) (by omega) (by omega)
      obtain ⟨q0, q1⟩ := prod_bd (x := b - d) (y := b - d) (B := 67108864) (by omega) (by omega) (by omega) (by omega) (by omega)
      have wx : IntKind.i64.wrap (a - c) = a - c := IntWalk.i64_in _ (by omega)
      have wy : IntKind.i64.wrap (b - d) = b - d := IntWalk.i64_in _ (by omega)
      have WX := Lib.hid wx
      have WY := Lib.hid wy
      clear h1 h2 wx wy
      go_enter Try.func41, Try.ntmps41
      go_wp2_with fail
      refine (goIs H1.out).mono ?_
      rintro e w' ⟨rfl, rfl⟩
      go_wp2_with fail
      refine (goIs H2.out).mono ?_
      rintro e w' ⟨rfl, rfl⟩
      go_wp2_with fail
      have wx := WX.out
      have wy := WY.out
      go_quiet (fail)
      clear wx wy
      go_wp2_with fail
      go_ret
      exact ⟨ret_int E.out.symm, below_dN (((((Below.refl _ _).alloc (Nat.le_refl _) _).alloc (by simp) _).alloc (by simp; omega) _).alloc (by simp; omega) _) nq⟩

set_option maxHeartbeats 800000 in
theorem refSqr (a b c d : Int) (w : World) : Calls Try.prog 42 #[.agg #[.int .i64 a, .int .i64 b], .agg #[.int .i64 c, .int .i64 d]] w fun e w' => e = .returned (.int .i64 (sqr a b c d)) ∧ Below w.heap.size w w' := by
  rcases h1 : plc a b with _ | _
  · have E : Hid (sqr a b c d = 0) := by show _ = _; rw [sqr, if_neg (by rw [h1]; simp)]
    have H1 := Lib.hid h1
    clear h1
    go_enter Try.func42, Try.ntmps42
    go_wp2_with fail
    refine (refPlc_is H1.out).mono ?_
    rintro e w' ⟨rfl, rfl⟩
    go_wp2_with fail
    go_ret
    exact ⟨ret_int E.out.symm, ((Below.refl _ _).alloc (Nat.le_refl _) _).alloc (by simp) _⟩
  · rcases h2 : plc c d with _ | _
    · have E : Hid (sqr a b c d = 0) := by show _ = _; rw [sqr, if_neg (by rw [h2]; simp)]
      have H1 := Lib.hid h1
      have H2 := Lib.hid h2
      clear h1 h2
      go_enter Try.func42, Try.ntmps42
      go_wp2_with fail
      refine (refPlc_is H1.out).mono ?_
      rintro e w' ⟨rfl, rfl⟩
      go_wp2_with fail
      refine (refPlc_is H2.out).mono ?_
      rintro e w' ⟨rfl, rfl⟩
      go_wp2_with fail
      go_ret
      exact ⟨ret_int E.out.symm, ((Below.refl _ _).alloc (Nat.le_refl _) _).alloc (by simp) _⟩
    · have E : Hid (sqr a b c d = (a - c) * (a - c) + (b - d) * (b - d)) := by show _ = _; rw [sqr, if_pos ⟨h1, h2⟩]
      have H1 := Lib.hid h1
      have H2 := Lib.hid h2
      obtain ⟨a0, a1, b0, b1⟩ := plc_iff.1 h1
      obtain ⟨c0, c1, d0, d1⟩ := plc_iff.1 h2
      obtain ⟨p0, p1⟩ := prod_bd (x := a - c) (y := a - c) (B := 67108864) (by omega) (by omega) (by omega) (by omega) (by omega)
      obtain ⟨q0, q1⟩ := prod_bd (x := b - d) (y := b - d) (B := 67108864) (by omega) (by omega) (by omega) (by omega) (by omega)
      clear h1 h2
      go_enter Try.func42, Try.ntmps42
      go_wp2_with fail
      refine (refPlc_is H1.out).mono ?_
      rintro e w' ⟨rfl, rfl⟩
      go_wp2_with fail
      refine (refPlc_is H2.out).mono ?_
      rintro e w' ⟨rfl, rfl⟩
      go_wp2_with fail
      go_ret
      exact ⟨ret_int E.out.symm, ((Below.refl _ _).alloc (Nat.le_refl _) _).alloc (by simp) _⟩

set_option maxHeartbeats 1600000 in
theorem goSid (a b c d e f : Int) (w : World) : Calls Try.prog 43 #[.agg #[.int .i64 a, .int .i64 b], .agg #[.int .i64 c, .int .i64 d], .agg #[.int .i64 e, .int .i64 f]] w fun en w' => en = .returned (.int .i64 (sid a b c d e f)) ∧ Below w.heap.size w w' := by
  rcases h1 : plc a b with _ | _
  · have E : Hid (sid a b c d e f = 0) := by show _ = _; rw [sid, if_neg (by rw [h1]; simp)]
    have H1 := Lib.hid h1
    clear h1
    go_enter Try.func43, Try.ntmps43
    go_wp2_with fail
    refine (goIs H1.out).mono ?_
    rintro en w' ⟨rfl, rfl⟩
    go_wp2_with fail
    go_ret
    exact ⟨ret_int E.out.symm, ((((Below.refl _ _).alloc (Nat.le_refl _) _).alloc (by simp) _).alloc (by simp; omega) _).alloc (by simp; omega) _⟩
  · skip
    rcases h2 : plc c d with _ | _
    · have E : Hid (sid a b c d e f = 0) := by show _ = _; rw [sid, if_neg (by rw [h2]; simp)]
      have H1 := Lib.hid h1
      have H2 := Lib.hid h2
      clear h1 h2
      go_enter Try.func43, Try.ntmps43
      go_wp2_with fail
      refine (goIs H1.out).mono ?_
      rintro en w' ⟨rfl, rfl⟩
      go_wp2_with fail
      refine (goIs H2.out).mono ?_
      rintro en w' ⟨rfl, rfl⟩
      go_wp2_with fail
      go_ret
      exact ⟨ret_int E.out.symm, (((((Below.refl _ _).alloc (Nat.le_refl _) _).alloc (by simp) _).alloc (by simp; omega) _).alloc (by simp; omega) _).alloc (by simp; omega) _⟩
    · skip
      rcases h3 : plc e f with _ | _
      · have E : Hid (sid a b c d e f = 0) := by show _ = _; rw [sid, if_neg (by rw [h3]; simp)]
        have H1 := Lib.hid h1
        have H2 := Lib.hid h2
        have H3 := Lib.hid h3
        clear h1 h2 h3
        go_enter Try.func43, Try.ntmps43
        go_wp2_with fail
        refine (goIs H1.out).mono ?_
        rintro en w' ⟨rfl, rfl⟩
        go_wp2_with fail
        refine (goIs H2.out).mono ?_
        rintro en w' ⟨rfl, rfl⟩
        go_wp2_with fail
        refine (goIs H3.out).mono ?_
        rintro en w' ⟨rfl, rfl⟩
        go_wp2_with fail
        go_ret
        exact ⟨ret_int E.out.symm, ((((((Below.refl _ _).alloc (Nat.le_refl _) _).alloc (by simp) _).alloc (by simp; omega) _).alloc (by simp; omega) _).alloc (by simp; omega) _).alloc (by simp; omega) _⟩
      · skip
        have E : Hid (sid a b c d e f = sgn (turn a b c d e f)) := by show _ = _; rw [sid, if_pos ⟨h1, h2, h3⟩]
        have H1 := Lib.hid h1
        have H2 := Lib.hid h2
        have H3 := Lib.hid h3
        obtain ⟨a0, a1, b0, b1⟩ := plc_iff.1 h1
        obtain ⟨c0, c1, d0, d1⟩ := plc_iff.1 h2
        obtain ⟨e0, e1, f0, f1⟩ := plc_iff.1 h3
        obtain ⟨p0, p1⟩ := prod_bd (x := c - a) (y := f - b) (B := 67108864) (by omega) (by omega) (by omega) (by omega) (by omega)
        obtain ⟨q0, q1⟩ := prod_bd (x := d - b) (y := e - a) (B := 67108864) (by omega) (by omega) (by omega) (by omega) (by omega)
        clear h1 h2 h3
        by_cases g : 0 < (c - a) * (f - b) - (d - b) * (e - a)
        · have G : Hid (sid a b c d e f = 1) := by show _ = _; rw [E.out, sgn]; unfold turn; rw [if_pos g]
          go_enter Try.func43, Try.ntmps43
          go_wp2_with fail
          refine (goIs H1.out).mono ?_
          rintro en w' ⟨rfl, rfl⟩
          go_wp2_with fail
          refine (goIs H2.out).mono ?_
          rintro en w' ⟨rfl, rfl⟩
          go_wp2_with fail
          refine (goIs H3.out).mono ?_
          rintro en w' ⟨rfl, rfl⟩
          go_wp2_with fail
          go_ret
          exact ⟨ret_int G.out.symm, ((((((Below.refl _ _).alloc (Nat.le_refl _) _).alloc (by simp) _).alloc (by simp; omega) _).alloc (by simp; omega) _).alloc (by simp; omega) _).alloc (by simp; omega) _⟩
        · skip
          have gp := g; clear g
          by_cases g : (c - a) * (f - b) - (d - b) * (e - a) < 0
          · have G : Hid (sid a b c d e f = -1) := by show _ = _; rw [E.out, sgn]; unfold turn; rw [if_neg (by omega), if_pos g]
            go_enter Try.func43, Try.ntmps43
            go_wp2_with fail
            refine (goIs H1.out).mono ?_
            rintro en w' ⟨rfl, rfl⟩
            go_wp2_with fail
            refine (goIs H2.out).mono ?_
            rintro en w' ⟨rfl, rfl⟩
            go_wp2_with fail
            refine (goIs H3.out).mono ?_
            rintro en w' ⟨rfl, rfl⟩
            go_wp2_with fail
            go_ret
            exact ⟨ret_int G.out.symm, ((((((Below.refl _ _).alloc (Nat.le_refl _) _).alloc (by simp) _).alloc (by simp; omega) _).alloc (by simp; omega) _).alloc (by simp; omega) _).alloc (by simp; omega) _⟩
          · skip
            have G : Hid (sid a b c d e f = 0) := by show _ = _; rw [E.out, sgn]; unfold turn; rw [if_neg gp, if_neg g]
            go_enter Try.func43, Try.ntmps43
            go_wp2_with fail
            refine (goIs H1.out).mono ?_
            rintro en w' ⟨rfl, rfl⟩
            go_wp2_with fail
            refine (goIs H2.out).mono ?_
            rintro en w' ⟨rfl, rfl⟩
            go_wp2_with fail
            refine (goIs H3.out).mono ?_
            rintro en w' ⟨rfl, rfl⟩
            go_wp2_with fail
            go_ret
            exact ⟨ret_int G.out.symm, ((((((Below.refl _ _).alloc (Nat.le_refl _) _).alloc (by simp) _).alloc (by simp; omega) _).alloc (by simp; omega) _).alloc (by simp; omega) _).alloc (by simp; omega) _⟩

set_option maxHeartbeats 1600000 in
theorem refSid (a b c d e f : Int) (w : World) : Calls Try.prog 44 #[.agg #[.int .i64 a, .int .i64 b], .agg #[.int .i64 c, .int .i64 d], .agg #[.int .i64 e, .int .i64 f]] w fun en w' => en = .returned (.int .i64 (sid a b c d e f)) ∧ Below w.heap.size w w' := by
  rcases h1 : plc a b with _ | _
  · have E : Hid (sid a b c d e f = 0) := by show _ = _; rw [sid, if_neg (by rw [h1]; simp)]
    have H1 := Lib.hid h1
    clear h1
    go_enter Try.func44, Try.ntmps44
    go_wp2_with fail
    refine (refPlc_is H1.out).mono ?_
    rintro en w' ⟨rfl, rfl⟩
    go_wp2_with fail
    go_ret
    exact ⟨ret_int E.out.symm, (((Below.refl _ _).alloc (Nat.le_refl _) _).alloc (by simp) _).alloc (by simp; omega) _⟩
  · skip
    rcases h2 : plc c d with _ | _
    · have E : Hid (sid a b c d e f = 0) := by show _ = _; rw [sid, if_neg (by rw [h2]; simp)]
      have H1 := Lib.hid h1
      have H2 := Lib.hid h2
      clear h1 h2
      go_enter Try.func44, Try.ntmps44
      go_wp2_with fail
      refine (refPlc_is H1.out).mono ?_
      rintro en w' ⟨rfl, rfl⟩
      go_wp2_with fail
      refine (refPlc_is H2.out).mono ?_
      rintro en w' ⟨rfl, rfl⟩
      go_wp2_with fail
      go_ret
      exact ⟨ret_int E.out.symm, (((Below.refl _ _).alloc (Nat.le_refl _) _).alloc (by simp) _).alloc (by simp; omega) _⟩
    · skip
      rcases h3 : plc e f with _ | _
      · have E : Hid (sid a b c d e f = 0) := by show _ = _; rw [sid, if_neg (by rw [h3]; simp)]
        have H1 := Lib.hid h1
        have H2 := Lib.hid h2
        have H3 := Lib.hid h3
        clear h1 h2 h3
        go_enter Try.func44, Try.ntmps44
        go_wp2_with fail
        refine (refPlc_is H1.out).mono ?_
        rintro en w' ⟨rfl, rfl⟩
        go_wp2_with fail
        refine (refPlc_is H2.out).mono ?_
        rintro en w' ⟨rfl, rfl⟩
        go_wp2_with fail
        refine (refPlc_is H3.out).mono ?_
        rintro en w' ⟨rfl, rfl⟩
        go_wp2_with fail
        go_ret
        exact ⟨ret_int E.out.symm, (((Below.refl _ _).alloc (Nat.le_refl _) _).alloc (by simp) _).alloc (by simp; omega) _⟩
      · skip
        have E : Hid (sid a b c d e f = sgn (turn a b c d e f)) := by show _ = _; rw [sid, if_pos ⟨h1, h2, h3⟩]
        have H1 := Lib.hid h1
        have H2 := Lib.hid h2
        have H3 := Lib.hid h3
        obtain ⟨a0, a1, b0, b1⟩ := plc_iff.1 h1
        obtain ⟨c0, c1, d0, d1⟩ := plc_iff.1 h2
        obtain ⟨e0, e1, f0, f1⟩ := plc_iff.1 h3
        obtain ⟨p0, p1⟩ := prod_bd (x := c - a) (y := f - b) (B := 67108864) (by omega) (by omega) (by omega) (by omega) (by omega)
        obtain ⟨q0, q1⟩ := prod_bd (x := d - b) (y := e - a) (B := 67108864) (by omega) (by omega) (by omega) (by omega) (by omega)
        clear h1 h2 h3
        by_cases g : 0 < (c - a) * (f - b) - (d - b) * (e - a)
        · have G : Hid (sid a b c d e f = 1) := by show _ = _; rw [E.out, sgn]; unfold turn; rw [if_pos g]
          go_enter Try.func44, Try.ntmps44
          go_wp2_with fail
          refine (refPlc_is H1.out).mono ?_
          rintro en w' ⟨rfl, rfl⟩
          go_wp2_with fail
          refine (refPlc_is H2.out).mono ?_
          rintro en w' ⟨rfl, rfl⟩
          go_wp2_with fail
          refine (refPlc_is H3.out).mono ?_
          rintro en w' ⟨rfl, rfl⟩
          go_wp2_with fail
          go_ret
          exact ⟨ret_int G.out.symm, (((Below.refl _ _).alloc (Nat.le_refl _) _).alloc (by simp) _).alloc (by simp; omega) _⟩
        · skip
          have gp := g; clear g
          by_cases g : (c - a) * (f - b) - (d - b) * (e - a) < 0
          · have G : Hid (sid a b c d e f = -1) := by show _ = _; rw [E.out, sgn]; unfold turn; rw [if_neg (by omega), if_pos g]
            go_enter Try.func44, Try.ntmps44
            go_wp2_with fail
            refine (refPlc_is H1.out).mono ?_
            rintro en w' ⟨rfl, rfl⟩
            go_wp2_with fail
            refine (refPlc_is H2.out).mono ?_
            rintro en w' ⟨rfl, rfl⟩
            go_wp2_with fail
            refine (refPlc_is H3.out).mono ?_
            rintro en w' ⟨rfl, rfl⟩
            go_wp2_with fail
            go_ret
            exact ⟨ret_int G.out.symm, (((Below.refl _ _).alloc (Nat.le_refl _) _).alloc (by simp) _).alloc (by simp; omega) _⟩
          · skip
            have G : Hid (sid a b c d e f = 0) := by show _ = _; rw [E.out, sgn]; unfold turn; rw [if_neg gp, if_neg g]
            go_enter Try.func44, Try.ntmps44
            go_wp2_with fail
            refine (refPlc_is H1.out).mono ?_
            rintro en w' ⟨rfl, rfl⟩
            go_wp2_with fail
            refine (refPlc_is H2.out).mono ?_
            rintro en w' ⟨rfl, rfl⟩
            go_wp2_with fail
            refine (refPlc_is H3.out).mono ?_
            rintro en w' ⟨rfl, rfl⟩
            go_wp2_with fail
            go_ret
            exact ⟨ret_int G.out.symm, (((Below.refl _ _).alloc (Nat.le_refl _) _).alloc (by simp) _).alloc (by simp; omega) _⟩
end Go.Proofs.Ytgaonfeljijebaa
