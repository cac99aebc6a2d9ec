/-
  The law RoundingSplits returns true, for every number and every count of parts, and leaves what was there as it was. No conditions.
-/
import Derived.Test.YtjnkokfneinjeaaSplit
namespace Go.Proofs.Ytjnkokfneinjeaa.roundingSplitsWalk
open Go.ChangeShapes Go.WideShapes Go.ChangeAt Go.RowKit
set_option linter.unusedVariables false

set_option maxRecDepth 100000 in
theorem bad (a0 : Int) (a1 : Int) (w : World) (hg : ¬ (0 ≤ a0 ∧ a0 ≤ 281474976710656) ∨ ¬ (1 ≤ a1 ∧ a1 ≤ 2048)) :
    Calls Try.prog 8 #[.int .i64 a0, .int .i64 a1] w fun e w' => e = .returned (.bool true) ∧ Below w.heap.size w w' := by
  have G := Lib.hid hg
  have h' : a0 < 0 ∨ (0 ≤ a0 ∧ 281474976710656 < a0) ∨ (0 ≤ a0 ∧ a0 ≤ 281474976710656 ∧ a1 < 1) ∨ (0 ≤ a0 ∧ a0 ≤ 281474976710656 ∧ 1 ≤ a1 ∧ 2048 < a1) := by omega
  clear hg
  rcases h' with h | ⟨h, h1⟩ | ⟨h, h1, h2⟩ | ⟨h, h1, h2, h3⟩
  all_goals
    go_enter Try.func8, Try.ntmps8
    go_wp2_with (first
      | (go_at_call 16; refine (awake30 _).mono ?_; rintro e w' ⟨rfl, m0, rfl⟩)
      | (go_at_call 21; refine (split_bad _ _ _ G.out).mono ?_; rintro e w' ⟨rfl, rfl⟩))
    go_ret
    exact ⟨rfl, below_dN (Below.refl _ _) _⟩

theorem facts (n : Int) (p k : Nat) (h0 : 0 ≤ n) (h2 : n ≤ 281474976710656) (h1 : 1 ≤ p) : 0 ≤ part n p k ∧ part n p k ≤ 281474976710656 ∧ part n p 0 - part n p k ≤ 1 ∧ part n p (k + 1) ≤ part n p k ∧ part n p k ≤ part n p 0 ∧ part n p 0 ≤ 281474976710657 := by
  have q1 : 0 ≤ n / (p : Int) := Int.ediv_nonneg h0 (by omega)
  have q2 : n / (p : Int) ≤ n := Int.ediv_le_self (p : Int) h0
  have q3 := Int.emod_nonneg n (show (p : Int) ≠ 0 by omega)
  have q4 := Int.emod_lt_of_pos n (show (0 : Int) < p by omega)
  have e := Int.mul_ediv_add_emod n p
  have q5 : n / (p : Int) + n % p ≤ n := by
    have : 1 * (n / (p : Int)) ≤ p * (n / (p : Int)) := Int.mul_le_mul_of_nonneg_right (by omega) q1
    omega
  unfold part
  refine ⟨?_, ?_, ?_, ?_, ?_, ?_⟩ <;> (repeat' split) <;> omega

set_option maxRecDepth 100000 in
set_option maxHeartbeats 800000 in
theorem good (n : Int) (p : Nat) (w : World) (h0 : 0 ≤ n) (h2 : n ≤ 281474976710656) (h1 : 1 ≤ p) (h3 : p ≤ 2048) :
    Calls Try.prog 8 #[.int .i64 n, .int .i64 p] w fun e w' => e = .returned (.bool true) ∧ Below w.heap.size w w' := by
  have h3' : (p : Int) ≤ 2048 := by omega
  have h1' : (1 : Int) ≤ p := by omega
  go_enter Try.func8, Try.ntmps8
  go_wp2_with (first
    | (go_at_call 16; refine (awake30 _).mono ?_; rintro e w' ⟨rfl, m0, rfl⟩)
    | (go_at_call 21; refine (split_ok n p _ h0 h2 h1 h3).mono ?_; rintro e w1 ⟨rfl, hown, hb⟩))
  have hrd : Rd one 1 w1 (some ⟨w.heap.size, 0, none⟩) p (partsL n p p) := Rd.own (base := w.heap.size) (e := 3) (c := p) (by rw [← partsL_cells]; exact hown) (by simp [one]) (by omega)
  have hb' : Below w.heap.size w w1 := (below_dN (Below.refl _ _) m0).trans hb
  have HB := Lib.hid hb'
  clear hown hb hb'
  go_loop [41, 7] (fun i s => ∃ k : Nat, k ≤ p ∧ i = .int .i64 k ∧ s = .int .i64 (sumTo n p k)) (fun i _ => p - (intOf i).toNat)
  case atStart => exact ⟨0, Nat.zero_le _, rfl, by rw [sumTo_zero n p (Int.emod_nonneg n (show (p : Int) ≠ 0 by omega))]⟩
  case round =>
    obtain ⟨k, hk, rfl, rfl⟩ := hrel
    obtain ⟨s0, s1, s2⟩ := sumTo_bd n p k h0 h1 hk
    have S2 := Lib.hid s2
    clear s2
    by_cases hlt : k < p
    · have hs := Lib.hid (sumTo_succ n p k (Int.emod_nonneg n (show (p : Int) ≠ 0 by omega)))
      have hc : w1.cell? ⟨w.heap.size, k, none⟩ = some (.int .i64 (part n p k)) := by
        obtain ⟨x, b, off, hA, hx, hc⟩ := hrd.at1 hlt
        obtain ⟨rfl, rfl⟩ : w.heap.size = b ∧ 0 = off := by simpa using hA
        have hx' := hx.out
        rw [partsL_at n p hlt] at hx'
        injection hx' with hx'
        rw [hx']; simpa using hc
      have hz : w1.cell? ⟨w.heap.size, 0, none⟩ = some (.int .i64 (part n p 0)) := by
        obtain ⟨x, b, off, hA, hx, hc⟩ := hrd.hd1 (by omega)
        obtain ⟨rfl, rfl⟩ : w.heap.size = b ∧ 0 = off := by simpa using hA
        have hx' := hx.out
        rw [partsL_at n p (by omega)] at hx'
        injection hx' with hx'
        rw [hx']; exact hc
      obtain ⟨f1, f2, f3, _, f5, f6⟩ := facts n p k h0 h2 h1
      rcases Nat.eq_zero_or_pos k with rfl | hpos
      · clear hz
        go_wp2
        go_round
        case rel => exact ⟨1, by omega, by go_num, by rw [← hs.out]⟩
        case measure => simp [intOf]; omega
      · obtain ⟨j, rfl⟩ : ∃ j, k = j + 1 := ⟨k - 1, by omega⟩
        have hj : w1.cell? ⟨w.heap.size, j, none⟩ = some (.int .i64 (part n p j)) := by
          obtain ⟨x, b, off, hA, hx, hc⟩ := hrd.at1 (k := j) (by omega)
          obtain ⟨rfl, rfl⟩ : w.heap.size = b ∧ 0 = off := by simpa using hA
          have hx' := hx.out
          rw [partsL_at n p (by omega)] at hx'
          injection hx' with hx'
          rw [hx']; simpa using hc
        have f4 := (facts n p j h0 h2 h1).2.2.2.1
        go_wp2
        go_round
        case rel => exact ⟨j + 1 + 1, by omega, by go_num, by rw [← hs.out]⟩
        case measure => simp [intOf]; omega
    · obtain rfl : k = p := by omega
      have e : sumTo n k k = n := S2.out
      go_wp2
      go_ret
      exact ⟨ret_bool (by first | rfl | simp), HB.out⟩

theorem walk (a0 : Int) (a1 : Int) (w : World) (w0 : (Lit.int .i64 a0).wf = true) (w1 : (Lit.int .i64 a1).wf = true) :
    Calls Try.prog 8 #[.int .i64 a0, .int .i64 a1] w fun e w' => e = .returned (.bool true) ∧ Below w.heap.size w w' := by
  by_cases hg : ¬ (0 ≤ a0 ∧ a0 ≤ 281474976710656) ∨ ¬ (1 ≤ a1 ∧ a1 ≤ 2048)
  · exact bad a0 a1 w hg
  · obtain ⟨p, rfl⟩ := Int.eq_ofNat_of_zero_le (show 0 ≤ a1 by omega)
    exact good a0 p w (by omega) (by omega) (by omega) (by omega)
end Go.Proofs.Ytjnkokfneinjeaa.roundingSplitsWalk
