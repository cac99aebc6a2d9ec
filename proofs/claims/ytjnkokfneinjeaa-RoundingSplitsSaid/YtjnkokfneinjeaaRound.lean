/-
  The functions of the package rounding, and of its reference, return what the plain functions below compute. No conditions but the arguments' ranges.
-/
import Derived.Test.YtjnkokfneinjeaaRows
import Derived.Test.YtjnkokfneinjeaaBase
import Derived.Outline
namespace Go.Proofs.Ytjnkokfneinjeaa
open Go.ChangeShapes Go.WideShapes Go.ChangeAt Go.RowKit
set_option linter.unusedVariables false

/-- Is it rounded up? -/
def more (w q r u : Int) : Bool := (w == 1 && decide (0 < r)) || (w == 2 && decide (u ≤ 2 * r)) || (w == 3 && (decide (u < 2 * r) || (2 * r == u && q % 2 == 1)))
def roundV (w n u : Int) : Int := if more w (n / u) (n % u) u then (n / u + 1) * u else n / u * u

theorem parts (n u : Int) (h0 : 0 ≤ n) (h2 : n ≤ 281474976710656) (h1 : 1 ≤ u) (h3 : u ≤ 16777216) :
    0 ≤ n / u ∧ n / u ≤ 281474976710656 ∧ 0 ≤ n % u ∧ n % u < u ∧ n / u * u = n - n % u ∧ (n / u + 1) * u = n - n % u + u ∧ n % u ≤ n := by
  have e := Int.mul_ediv_add_emod n u
  have a := Int.emod_nonneg n (show u ≠ 0 by omega)
  have b := Int.emod_lt_of_pos n (show 0 < u by omega)
  have c : 0 ≤ n / u := Int.ediv_nonneg h0 (by omega)
  have d : n / u ≤ n := Int.ediv_le_self u h0
  have f : n / u * u = n - n % u := by rw [Int.mul_comm] at e; omega
  exact ⟨c, by omega, a, b, f, by rw [Int.add_mul, f]; omega, by have := Int.mul_nonneg c (show 0 ≤ u by omega); omega⟩

theorem round_bad (v n u : Int) (w : World) (h : ¬ (0 ≤ n ∧ n ≤ 281474976710656) ∨ ¬ (1 ≤ u ∧ u ≤ 16777216)) :
    Calls Try.prog 17 #[.int .i64 v, .int .i64 n, .int .i64 u] w fun e w' => e = .returned (.tuple #[.int .i64 0, .int .i64 2]) ∧ ∃ m, w' = w.drewN m := by
  have h' : n < 0 ∨ (0 ≤ n ∧ 281474976710656 < n) ∨ (0 ≤ n ∧ n ≤ 281474976710656 ∧ u < 1) ∨ (0 ≤ n ∧ n ≤ 281474976710656 ∧ 1 ≤ u ∧ 16777216 < u) := by omega
  clear h
  rcases h' with h | ⟨h, h1⟩ | ⟨h, h1, h2⟩ | ⟨h, h1, h2, h3⟩
  rotate_right
  · have b : decide (u ≤ 16777216) = false := by simp; omega
    go_enter Try.func17, Try.ntmps17
    go_wp2
    go_ret2
    exact ⟨rfl, 0, rfl⟩
  all_goals
    go_enter Try.func17, Try.ntmps17
    go_wp2
    go_ret2
    exact ⟨rfl, 0, rfl⟩

theorem round_way (v n u : Int) (w : World) (h0 : 0 ≤ n) (h2 : n ≤ 281474976710656) (h1 : 1 ≤ u) (h3 : u ≤ 16777216) (hv : v < 0 ∨ 3 < v) :
    Calls Try.prog 17 #[.int .i64 v, .int .i64 n, .int .i64 u] w fun e w' => e = .returned (.tuple #[.int .i64 0, .int .i64 2]) ∧ ∃ m, w' = w.drewN m := by
  obtain ⟨p1, p2, p3, p4, p5, p6, p7⟩ := parts n u h0 h2 h1 h3
  have b0 : (v == 0) = false := by simp; omega
  have b1 : (v == 1) = false := by simp; omega
  have b2 : (v == 2) = false := by simp; omega
  have b3 : (v == 3) = false := by simp; omega
  clear hv p5 p6
  go_enter Try.func17, Try.ntmps17
  go_wp2
  go_quiet (fail)
  go_wp2
  go_ret2
  exact ⟨rfl, nq, rfl⟩

set_option maxHeartbeats 1000000 in
theorem round_ok (v n u : Int) (w : World) (h0 : 0 ≤ n) (h2 : n ≤ 281474976710656) (h1 : 1 ≤ u) (h3 : u ≤ 16777216) (hv0 : 0 ≤ v) (hv3 : v ≤ 3) :
    Calls Try.prog 17 #[.int .i64 v, .int .i64 n, .int .i64 u] w fun e w' => e = .returned (.tuple #[.int .i64 (roundV v n u), .int .i64 0]) ∧ ∃ m, w' = w.drewN m := by
  obtain ⟨p1, p2, p3, p4, p5, p6, p7⟩ := parts n u h0 h2 h1 h3
  have q1 : 0 ≤ n / u * u := by omega
  have q2 : n / u * u ≤ 281474976710656 := by omega
  have q3 : 0 ≤ (n / u + 1) * u := by omega
  have q4 : (n / u + 1) * u ≤ 281474993487872 := by omega
  clear p5 p6
  have up : more v (n / u) (n % u) u = true → Hid (roundV v n u = (n / u + 1) * u) := fun h => by show _ = _; rw [roundV, if_pos h]
  have dn : more v (n / u) (n % u) u = false → Hid (roundV v n u = n / u * u) := fun h => by show _ = _; rw [roundV, if_neg (by rw [h]; simp)]
  have hv : v = 0 ∨ v = 1 ∨ v = 2 ∨ v = 3 := by omega
  rcases hv with rfl | rfl | rfl | rfl
  · have H := dn (by simp [more])
    clear up dn
    go_enter Try.func17, Try.ntmps17
    go_wp2
    go_quiet (fail)
    go_wp2
    go_ret2
    exact ⟨ret_ii H.out.symm rfl, nq, rfl⟩
  · by_cases c : 0 < n % u
    · have H := up (by simp [more]; omega)
      clear up dn
      go_enter Try.func17, Try.ntmps17
      go_wp2
      go_quiet (fail)
      go_wp2
      go_ret2
      exact ⟨ret_ii H.out.symm rfl, nq, rfl⟩
    · have H := dn (by simp [more]; omega)
      clear up dn
      go_enter Try.func17, Try.ntmps17
      go_wp2
      go_quiet (fail)
      go_wp2
      go_ret2
      exact ⟨ret_ii H.out.symm rfl, nq, rfl⟩
  · by_cases c : u ≤ 2 * (n % u)
    · have H := up (by simp [more]; omega)
      clear up dn
      go_enter Try.func17, Try.ntmps17
      go_wp2
      go_quiet (fail)
      go_wp2
      go_ret2
      exact ⟨ret_ii H.out.symm rfl, nq, rfl⟩
    · have H := dn (by simp [more]; omega)
      clear up dn
      go_enter Try.func17, Try.ntmps17
      go_wp2
      go_quiet (fail)
      go_wp2
      go_ret2
      exact ⟨ret_ii H.out.symm rfl, nq, rfl⟩
  · by_cases c : u < 2 * (n % u)
    · have H := up (by simp [more]; omega)
      clear up dn
      go_enter Try.func17, Try.ntmps17
      go_wp2
      go_quiet (fail)
      go_wp2
      go_ret2
      exact ⟨ret_ii H.out.symm rfl, nq, rfl⟩
    · by_cases d : 2 * (n % u) < u
      · have H := dn (by simp [more]; omega)
        have b : (2 * (n % u) == u) = false := by simp; omega
        clear up dn
        go_enter Try.func17, Try.ntmps17
        go_wp2
        go_quiet (fail)
        go_wp2
        go_ret2
        exact ⟨ret_ii H.out.symm rfl, nq, rfl⟩
      · have b : (2 * (n % u) == u) = true := by simp; omega
        by_cases e : n / u % 2 = 1
        · have H := up (by simp [more]; omega)
          have b' : (n / u % 2 == 1) = true := by simp; omega
          clear up dn e
          go_enter Try.func17, Try.ntmps17
          go_wp2
          go_quiet (fail)
          go_wp2
          go_ret2
          exact ⟨ret_ii H.out.symm rfl, nq, rfl⟩
        · have H := dn (by simp [more]; omega)
          have b' : (n / u % 2 == 1) = false := by simp; omega
          clear up dn e
          go_enter Try.func17, Try.ntmps17
          go_wp2
          go_quiet (fail)
          go_wp2
          go_ret2
          exact ⟨ret_ii H.out.symm rfl, nq, rfl⟩

set_option maxHeartbeats 1000000 in
theorem refRound_ok (v n u : Int) (w : World) (h0 : 0 ≤ n) (h2 : n ≤ 281474976710656) (h1 : 1 ≤ u) (h3 : u ≤ 16777216) (hv0 : 0 ≤ v) (hv3 : v ≤ 3) :
    Calls Try.prog 18 #[.int .i64 v, .int .i64 n, .int .i64 u] w fun e w' => e = .returned (.int .i64 (roundV v n u)) ∧ w' = w := by
  obtain ⟨p1, p2, p3, p4, p5, p6, p7⟩ := parts n u h0 h2 h1 h3
  have up : more v (n / u) (n % u) u = true → Hid (roundV v n u = n - n % u + u) := fun h => by show _ = _; rw [roundV, if_pos h, p6]
  have dn : more v (n / u) (n % u) u = false → Hid (roundV v n u = n - n % u) := fun h => by show _ = _; rw [roundV, if_neg (by rw [h]; simp), p5]
  have hq : Hid ((n - n % u) / u = n / u) := by show _ = _; rw [← p5]; exact Int.mul_ediv_cancel _ (by omega)
  clear p5 p6
  have hv : v = 0 ∨ v = 1 ∨ v = 2 ∨ v = 3 := by omega
  rcases hv with rfl | rfl | rfl | rfl
  · have H := dn (by simp [more])
    clear up dn
    by_cases c : 0 < n % u
    all_goals
      go_enter Try.func18, Try.ntmps18
      go_wp2
      go_ret
      exact ⟨ret_int H.out.symm, rfl⟩
  · by_cases c : 0 < n % u
    · have H := up (by simp [more]; omega)
      clear up dn
      go_enter Try.func18, Try.ntmps18
      go_wp2
      go_ret
      exact ⟨ret_int H.out.symm, rfl⟩
    · have H := dn (by simp [more]; omega)
      clear up dn
      go_enter Try.func18, Try.ntmps18
      go_wp2
      go_ret
      exact ⟨ret_int H.out.symm, rfl⟩
  · by_cases z : 0 < n % u
    · by_cases c : u ≤ 2 * (n % u)
      · have H := up (by simp [more]; omega)
        clear up dn
        by_cases d : u < 2 * (n % u)
        all_goals
          go_enter Try.func18, Try.ntmps18
          go_wp2
          go_ret
          exact ⟨ret_int H.out.symm, rfl⟩
      · have H := dn (by simp [more]; omega)
        clear up dn
        go_enter Try.func18, Try.ntmps18
        go_wp2
        go_ret
        exact ⟨ret_int H.out.symm, rfl⟩
    · have H := dn (by simp [more]; omega)
      have z' : n % u = 0 := by omega
      clear up dn
      go_enter Try.func18, Try.ntmps18
      go_wp2
      go_ret
      exact ⟨ret_int (by rw [H.out]; omega), rfl⟩
  · by_cases z : 0 < n % u
    · by_cases c : u < 2 * (n % u)
      · have H := up (by simp [more]; omega)
        clear up dn
        go_enter Try.func18, Try.ntmps18
        go_wp2
        go_ret
        exact ⟨ret_int H.out.symm, rfl⟩
      · by_cases d : 2 * (n % u) < u
        · have H := dn (by simp [more]; omega)
          clear up dn
          go_enter Try.func18, Try.ntmps18
          go_wp2
          go_ret
          exact ⟨ret_int H.out.symm, rfl⟩
        · by_cases e : n / u % 2 = 1
          · have H := up (by simp [more]; omega)
            have b' : ((n - n % u) / u % 2 == 0) = false := by rw [hq.out]; simp; omega
            have t0 : 0 ≤ (n - n % u) / u := by rw [hq.out]; omega
            have t1 : (n - n % u) / u ≤ 281474976710656 := by rw [hq.out]; omega
            clear up dn e
            go_enter Try.func18, Try.ntmps18
            go_wp2
            go_ret
            exact ⟨ret_int H.out.symm, rfl⟩
          · have H := dn (by simp [more]; omega)
            have b' : ((n - n % u) / u % 2 == 0) = true := by rw [hq.out]; simp; omega
            have t0 : 0 ≤ (n - n % u) / u := by rw [hq.out]; omega
            have t1 : (n - n % u) / u ≤ 281474976710656 := by rw [hq.out]; omega
            clear up dn e
            go_enter Try.func18, Try.ntmps18
            go_wp2
            go_ret
            exact ⟨ret_int H.out.symm, rfl⟩
    · have z' : n % u = 0 := by omega
      have b : (n - (n - n % u) == 0) = true := by simp; omega
      by_cases e : n / u % 2 = 1
      · have H := dn (by simp [more]; omega)
        have b' : ((n - n % u) / u % 2 == 0) = false := by rw [hq.out]; simp; omega
        have t0 : 0 ≤ (n - n % u) / u := by rw [hq.out]; omega
        have t1 : (n - n % u) / u ≤ 281474976710656 := by rw [hq.out]; omega
        clear up dn e z'
        go_enter Try.func18, Try.ntmps18
        go_wp2
        go_ret
        exact ⟨ret_int (by rw [H.out]), rfl⟩
      · have H := dn (by simp [more]; omega)
        have b' : ((n - n % u) / u % 2 == 0) = true := by rw [hq.out]; simp; omega
        have t0 : 0 ≤ (n - n % u) / u := by rw [hq.out]; omega
        have t1 : (n - n % u) / u ≤ 281474976710656 := by rw [hq.out]; omega
        clear up dn e z'
        go_enter Try.func18, Try.ntmps18
        go_wp2
        go_ret
        exact ⟨ret_int (by rw [H.out]), rfl⟩

theorem awake30 (w : World) : Calls Try.prog 16 #[] w fun e w' => e = .returned (.bool true) ∧ ∃ m, w' = w.drewN m := by
  have e0 : Hid (roundV 0 25 10 = 20) := by show _ = _; decide
  have e1 : Hid (roundV 1 25 10 = 30) := by show _ = _; decide
  have e2 : Hid (roundV 2 25 10 = 30) := by show _ = _; decide
  have e3 : Hid (roundV 3 25 10 = 20) := by show _ = _; decide
  go_enter Try.func16, Try.ntmps16
  go_wp2_with fail
  refine (round_ok 0 25 10 _ (by omega) (by omega) (by omega) (by omega) (by omega) (by omega)).mono ?_
  rw [e0.out]
  rintro e w' ⟨rfl, m0, rfl⟩
  go_wp2_with fail
  refine (round_ok 1 25 10 _ (by omega) (by omega) (by omega) (by omega) (by omega) (by omega)).mono ?_
  rw [e1.out]
  rintro e w' ⟨rfl, m1, rfl⟩
  go_wp2_with fail
  refine (round_ok 2 25 10 _ (by omega) (by omega) (by omega) (by omega) (by omega) (by omega)).mono ?_
  rw [e2.out]
  rintro e w' ⟨rfl, m2, rfl⟩
  go_wp2_with fail
  refine (round_ok 3 25 10 _ (by omega) (by omega) (by omega) (by omega) (by omega) (by omega)).mono ?_
  rw [e3.out]
  rintro e w' ⟨rfl, m3, rfl⟩
  go_wp2_with fail
  go_ret
  exact ⟨rfl, _, rfl⟩
end Go.Proofs.Ytjnkokfneinjeaa
