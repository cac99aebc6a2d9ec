/-
  The law RoundingNear returns true, for every number and unit, and leaves what was there as it was. No conditions.
-/
import Derived.Test.YtjnkokfneinjeaaRound
namespace Go.Proofs.Ytjnkokfneinjeaa.roundingNearWalk
open Go.ChangeShapes Go.WideShapes Go.ChangeAt Go.RowKit
set_option linter.unusedVariables false

theorem round_is (v n u x : Int) (w : World) (h0 : 0 ≤ n) (h2 : n ≤ 281474976710656) (h1 : 1 ≤ u) (h3 : u ≤ 16777216) (hv0 : 0 ≤ v) (hv3 : v ≤ 3) (h : Hid (roundV v n u = x)) :
    Calls Try.prog 17 #[.int .i64 v, .int .i64 n, .int .i64 u] w fun e w' => e = .returned (.tuple #[.int .i64 x, .int .i64 0]) ∧ ∃ m, w' = w.drewN m := by
  have := round_ok v n u w h0 h2 h1 h3 hv0 hv3
  rwa [h.out] at this

theorem up {v n u : Int} (h0 : 0 ≤ n) (h2 : n ≤ 281474976710656) (h1 : 1 ≤ u) (h3 : u ≤ 16777216) (h : more v (n / u) (n % u) u = true) : Hid (roundV v n u = n - n % u + u) := by
  show _ = _
  rw [roundV, if_pos h, (parts n u h0 h2 h1 h3).2.2.2.2.2.1]
theorem dn {v n u : Int} (h0 : 0 ≤ n) (h2 : n ≤ 281474976710656) (h1 : 1 ≤ u) (h3 : u ≤ 16777216) (h : more v (n / u) (n % u) u = false) : Hid (roundV v n u = n - n % u) := by
  show _ = _
  rw [roundV, if_neg (by rw [h]; simp), (parts n u h0 h2 h1 h3).2.2.2.2.1]

theorem mods (n u : Int) (h1 : 1 ≤ u) : (n - n % u) % u = 0 ∧ (n - n % u + u) % u = 0 ∧ (n - n % u) / u = n / u := by
  have e : n - n % u = u * (n / u) := by have := Int.mul_ediv_add_emod n u; omega
  refine ⟨by rw [e]; exact Int.mul_emod_right _ _, by rw [e, Int.add_emod_right]; exact Int.mul_emod_right _ _, by rw [e]; exact Int.mul_ediv_cancel_left _ (by omega)⟩

set_option maxRecDepth 100000 in
set_option maxHeartbeats 2000000 in
theorem low (n u : Int) (w : World) (h0 : 0 ≤ n) (h2 : n ≤ 281474976710656) (h1 : 1 ≤ u) (h3 : u ≤ 16777216) (p3 : 0 ≤ n % u) (p4 : n % u < u) (p7 : n % u ≤ n)
    (k1 : (n - n % u) % u = 0) (k2 : (n - n % u + u) % u = 0) (z : 0 < n % u) (z' : (n % u == 0) = false) (c : 2 * (n % u) < u)
    (a0 : Hid (roundV 0 n u = n - n % u)) (a1 : Hid (roundV 1 n u = n - n % u + u)) (a2 : Hid (roundV 2 n u = n - n % u)) (a3 : Hid (roundV 3 n u = n - n % u)) :
    Calls Try.prog 6 #[.int .i64 n, .int .i64 u] w fun e w' => e = .returned (.bool true) ∧ Below w.heap.size w w' := by
  go_enter Try.func6, Try.ntmps6
  go_wp2_with (go_at_call 16; refine (awake30 _).mono ?_; rintro e w' ⟨rfl, m, rfl⟩)
  refine (round_is _ _ _ _ _ h0 h2 h1 h3 (by omega) (by omega) a0).mono ?_; rintro e w' ⟨rfl, m0, rfl⟩; go_wp2_with fail
  refine (round_is _ _ _ _ _ h0 h2 h1 h3 (by omega) (by omega) a1).mono ?_; rintro e w' ⟨rfl, m1, rfl⟩; go_wp2_with fail
  refine (round_is _ _ _ _ _ h0 h2 h1 h3 (by omega) (by omega) a2).mono ?_; rintro e w' ⟨rfl, m2, rfl⟩; go_wp2_with fail
  refine (round_is _ _ _ _ _ h0 h2 h1 h3 (by omega) (by omega) a3).mono ?_; rintro e w' ⟨rfl, m3, rfl⟩; go_wp2_with fail
  go_quiet (fail)
  go_wp2_with fail
  go_ret
  exact ⟨ret_bool (by first | rfl | (simp; done) | (simp; omega)), below_dN (Below.refl _ _) _⟩

set_option maxRecDepth 100000 in
set_option maxHeartbeats 2000000 in
theorem high (n u : Int) (w : World) (h0 : 0 ≤ n) (h2 : n ≤ 281474976710656) (h1 : 1 ≤ u) (h3 : u ≤ 16777216) (p3 : 0 ≤ n % u) (p4 : n % u < u) (p7 : n % u ≤ n)
    (k1 : (n - n % u) % u = 0) (k2 : (n - n % u + u) % u = 0) (z : 0 < n % u) (z' : (n % u == 0) = false) (c : u ≤ 2 * (n % u))
    (a0 : Hid (roundV 0 n u = n - n % u)) (a1 : Hid (roundV 1 n u = n - n % u + u)) (a2 : Hid (roundV 2 n u = n - n % u + u)) (a3 : Hid (roundV 3 n u = n - n % u + u)) :
    Calls Try.prog 6 #[.int .i64 n, .int .i64 u] w fun e w' => e = .returned (.bool true) ∧ Below w.heap.size w w' := by
  go_enter Try.func6, Try.ntmps6
  go_wp2_with (go_at_call 16; refine (awake30 _).mono ?_; rintro e w' ⟨rfl, m, rfl⟩)
  refine (round_is _ _ _ _ _ h0 h2 h1 h3 (by omega) (by omega) a0).mono ?_; rintro e w' ⟨rfl, m0, rfl⟩; go_wp2_with fail
  refine (round_is _ _ _ _ _ h0 h2 h1 h3 (by omega) (by omega) a1).mono ?_; rintro e w' ⟨rfl, m1, rfl⟩; go_wp2_with fail
  refine (round_is _ _ _ _ _ h0 h2 h1 h3 (by omega) (by omega) a2).mono ?_; rintro e w' ⟨rfl, m2, rfl⟩; go_wp2_with fail
  refine (round_is _ _ _ _ _ h0 h2 h1 h3 (by omega) (by omega) a3).mono ?_; rintro e w' ⟨rfl, m3, rfl⟩; go_wp2_with fail
  go_quiet (fail)
  go_wp2_with fail
  go_ret
  exact ⟨ret_bool (by first | rfl | (simp; done) | (simp; omega)), below_dN (Below.refl _ _) _⟩

set_option maxRecDepth 100000 in
set_option maxHeartbeats 2000000 in
theorem mid (n u : Int) (w : World) (h0 : 0 ≤ n) (h2 : n ≤ 281474976710656) (h1 : 1 ≤ u) (h3 : u ≤ 16777216) (p3 : 0 ≤ n % u) (p4 : n % u < u) (p7 : n % u ≤ n)
    (k1 : (n - n % u) % u = 0) (k2 : (n - n % u + u) % u = 0) (z : 0 < n % u) (z' : (n % u == 0) = false) (c : u ≤ 2 * (n % u)) (c' : 2 * (n % u) ≤ u) (b : ((n - n % u) / u % 2 == 0) = true) (b1 : 0 ≤ (n - n % u) / u) (b2 : (n - n % u) / u ≤ 281474976710656)
    (a0 : Hid (roundV 0 n u = n - n % u)) (a1 : Hid (roundV 1 n u = n - n % u + u)) (a2 : Hid (roundV 2 n u = n - n % u + u)) (a3 : Hid (roundV 3 n u = n - n % u)) :
    Calls Try.prog 6 #[.int .i64 n, .int .i64 u] w fun e w' => e = .returned (.bool true) ∧ Below w.heap.size w w' := by
  go_enter Try.func6, Try.ntmps6
  go_wp2_with (go_at_call 16; refine (awake30 _).mono ?_; rintro e w' ⟨rfl, m, rfl⟩)
  refine (round_is _ _ _ _ _ h0 h2 h1 h3 (by omega) (by omega) a0).mono ?_; rintro e w' ⟨rfl, m0, rfl⟩; go_wp2_with fail
  refine (round_is _ _ _ _ _ h0 h2 h1 h3 (by omega) (by omega) a1).mono ?_; rintro e w' ⟨rfl, m1, rfl⟩; go_wp2_with fail
  refine (round_is _ _ _ _ _ h0 h2 h1 h3 (by omega) (by omega) a2).mono ?_; rintro e w' ⟨rfl, m2, rfl⟩; go_wp2_with fail
  refine (round_is _ _ _ _ _ h0 h2 h1 h3 (by omega) (by omega) a3).mono ?_; rintro e w' ⟨rfl, m3, rfl⟩; go_wp2_with fail
  go_quiet (fail)
  go_wp2_with fail
  go_ret
  exact ⟨ret_bool (by first | rfl | (simp; done) | (simp; omega)), below_dN (Below.refl _ _) _⟩

set_option maxRecDepth 100000 in
set_option maxHeartbeats 2000000 in
theorem even (n u : Int) (w : World) (h0 : 0 ≤ n) (h2 : n ≤ 281474976710656) (h1 : 1 ≤ u) (h3 : u ≤ 16777216) (z : n % u = 0)
    (a0 : Hid (roundV 0 n u = n)) (a1 : Hid (roundV 1 n u = n)) (a2 : Hid (roundV 2 n u = n)) (a3 : Hid (roundV 3 n u = n)) :
    Calls Try.prog 6 #[.int .i64 n, .int .i64 u] w fun e w' => e = .returned (.bool true) ∧ Below w.heap.size w w' := by
  go_enter Try.func6, Try.ntmps6
  go_wp2_with (go_at_call 16; refine (awake30 _).mono ?_; rintro e w' ⟨rfl, m, rfl⟩)
  refine (round_is _ _ _ _ _ h0 h2 h1 h3 (by omega) (by omega) a0).mono ?_; rintro e w' ⟨rfl, m0, rfl⟩; go_wp2_with fail
  refine (round_is _ _ _ _ _ h0 h2 h1 h3 (by omega) (by omega) a1).mono ?_; rintro e w' ⟨rfl, m1, rfl⟩; go_wp2_with fail
  refine (round_is _ _ _ _ _ h0 h2 h1 h3 (by omega) (by omega) a2).mono ?_; rintro e w' ⟨rfl, m2, rfl⟩; go_wp2_with fail
  refine (round_is _ _ _ _ _ h0 h2 h1 h3 (by omega) (by omega) a3).mono ?_; rintro e w' ⟨rfl, m3, rfl⟩; go_wp2_with fail
  go_quiet (fail)
  go_wp2_with fail
  go_ret
  exact ⟨ret_bool (by first | rfl | (simp; done) | (simp; omega)), below_dN (Below.refl _ _) _⟩

theorem good (n u : Int) (w : World) (h0 : 0 ≤ n) (h2 : n ≤ 281474976710656) (h1 : 1 ≤ u) (h3 : u ≤ 16777216) :
    Calls Try.prog 6 #[.int .i64 n, .int .i64 u] w fun e w' => e = .returned (.bool true) ∧ Below w.heap.size w w' := by
  obtain ⟨p1, p2, p3, p4, _, _, p7⟩ := parts n u h0 h2 h1 h3
  obtain ⟨k1, k2, k3⟩ := mods n u h1
  have a0 := dn (v := 0) h0 h2 h1 h3 (by simp [more])
  by_cases z : 0 < n % u
  · have z' : (n % u == 0) = false := by simp; omega
    have a1 := up (v := 1) h0 h2 h1 h3 (by simp [more]; omega)
    by_cases c : 2 * (n % u) < u
    · exact low n u w h0 h2 h1 h3 p3 p4 p7 k1 k2 z z' c a0 a1 (dn h0 h2 h1 h3 (by simp [more]; omega)) (dn h0 h2 h1 h3 (by simp [more]; omega))
    · have a2 := up (v := 2) h0 h2 h1 h3 (by simp [more]; omega)
      by_cases d : 2 * (n % u) = u ∧ n / u % 2 = 0
      · exact mid n u w h0 h2 h1 h3 p3 p4 p7 k1 k2 z z' (by omega) (by omega) (by rw [k3]; simpa using d.2) (by omega) (by omega) a0 a1 a2 (dn h0 h2 h1 h3 (by simp [more]; omega))
      · exact high n u w h0 h2 h1 h3 p3 p4 p7 k1 k2 z z' (by omega) a0 a1 a2 (up h0 h2 h1 h3 (by simp [more]; omega))
  · have z0 : n % u = 0 := by omega
    have e : n - n % u = n := by omega
    have f : ∀ v, more v (n / u) (n % u) u = false → Hid (roundV v n u = n) := fun v h => by
      show _ = _
      have := (dn h0 h2 h1 h3 h).out
      rw [this, e]
    exact even n u w h0 h2 h1 h3 z0 (f 0 (by simp [more])) (f 1 (by simp [more]; omega)) (f 2 (by simp [more]; omega)) (f 3 (by simp [more]; omega))

set_option maxRecDepth 100000 in
set_option maxHeartbeats 1000000 in
theorem walk (a0 : Int) (a1 : Int) (w : World) (w0 : (Lit.int .i64 a0).wf = true) (w1 : (Lit.int .i64 a1).wf = true) :
    Calls Try.prog 6 #[.int .i64 a0, .int .i64 a1] w fun e w' => e = .returned (.bool true) ∧ Below w.heap.size w w' := by
  by_cases hg : ¬ (0 ≤ a0 ∧ a0 ≤ 281474976710656) ∨ ¬ (1 ≤ a1 ∧ a1 ≤ 16777216)
  · have G := Lib.hid hg
    clear hg w0 w1
    go_enter Try.func6, Try.ntmps6
    go_wp2_with (first
      | (go_at_call 16; refine (awake30 _).mono ?_; rintro e w' ⟨rfl, m, rfl⟩)
      | (go_at_call 17; refine (round_bad _ _ _ _ G.out).mono ?_; rintro e w' ⟨rfl, m1, rfl⟩))
    go_ret
    exact ⟨rfl, below_dN (Below.refl _ _) _⟩
  · exact good a0 a1 w (by omega) (by omega) (by omega) (by omega)
end Go.Proofs.Ytjnkokfneinjeaa.roundingNearWalk
