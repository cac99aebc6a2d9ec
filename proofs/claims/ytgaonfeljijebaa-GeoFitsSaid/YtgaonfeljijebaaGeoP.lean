/-
  Whole roots in plain words (IsRoot), how a root is found digit by digit and by halves; and places, squares, sides. No program in sight.
-/
import Derived.Test.YtgaonfeljijebaaBase
import Derived.Lib.BitFns
import Derived.Laws.BitsAllLaws
import Derived.Laws.BitsLemmas
namespace Go.Proofs.Ytgaonfeljijebaa
open Go.RowKit
set_option linter.unusedVariables false

theorem sq_le {a b : Int} (h0 : 0 ≤ a) (h : a ≤ b) : a * a ≤ b * b := Int.le_trans (Int.mul_le_mul_of_nonneg_left h h0) (Int.mul_le_mul_of_nonneg_right h (by omega))
theorem sq_lt {a b : Int} (h0 : 0 ≤ b) (h : a * a < b * b) (ha : 0 ≤ a) : a < b := by
  rcases Int.lt_or_le a b with h1 | h1
  · exact h1
  · have := sq_le h0 h1; omega
/-- r is the whole root of n, downwards; of what is not above 0 it is 0. -/
def IsRoot (n r : Int) : Prop := (n ≤ 0 ∧ r = 0) ∨ (0 < n ∧ 0 ≤ r ∧ r * r ≤ n ∧ n < (r + 1) * (r + 1))
theorem root_same {n r s : Int} (h : IsRoot n r) (h' : IsRoot n s) : r = s := by
  rcases h with ⟨h1, h2⟩ | ⟨h1, h2, h3, h4⟩ <;> rcases h' with ⟨k1, k2⟩ | ⟨k1, k2, k3, k4⟩
  · omega
  · omega
  · omega
  · have a := sq_lt (a := r) (b := s + 1) (by omega) (by omega) h2
    have b := sq_lt (a := s) (b := r + 1) (by omega) (by omega) k2
    omega
theorem root_ex (n : Int) : ∃ r, IsRoot n r := by
  rcases Int.lt_or_le 0 n with h | h
  · have key : ∀ k : Nat, ∃ r : Int, 0 ≤ r ∧ r * r ≤ k ∧ (k : Int) < (r + 1) * (r + 1) := by
      intro k
      induction k with
      | zero => exact ⟨0, by omega, by omega, by omega⟩
      | succ k ih =>
        obtain ⟨r, h0, h1, h2⟩ := ih
        by_cases hk : ((k + 1 : Nat) : Int) < (r + 1) * (r + 1)
        · exact ⟨r, h0, by omega, hk⟩
        · refine ⟨r + 1, by omega, by omega, ?_⟩
          have : (r + 1 + 1) * (r + 1 + 1) = (r + 1) * (r + 1) + (r + 1) + (r + 1) + 1 := by
            rw [Int.add_mul, Int.mul_add]; omega
          omega
    obtain ⟨k, rfl⟩ := Int.eq_ofNat_of_zero_le (show 0 ≤ n by omega)
    obtain ⟨r, h0, h1, h2⟩ := key k
    exact ⟨r, .inr ⟨h, h0, h1, h2⟩⟩
  · exact ⟨0, .inl ⟨h, rfl⟩⟩

theorem bitLen_lt : ∀ (f x : Nat), x < 2 ^ f → x < 2 ^ Lib.bitLenAux f x
  | 0, x, h => by simpa [Lib.bitLenAux] using h
  | f + 1, x, h => by
    rw [Lib.bitLenAux]
    by_cases h0 : x = 0
    · rw [if_pos h0, h0]; simp
    · rw [if_neg h0]
      have h1 := bitLen_lt f (x / 2) (by rw [Nat.pow_succ] at h; omega)
      rw [Nat.add_comm, Nat.pow_succ]
      omega
theorem or_pow (R j q : Nat) (h : R = 2 ^ (j + 1) * q) : R ||| 2 ^ j = R + 2 ^ j := by
  subst h
  exact (Nat.two_pow_add_eq_or_of_lt (Nat.pow_lt_pow_right (by omega) (by omega)) q).symm
theorem ofInt_i64 (a : Nat) (ha : a < 9223372036854775808) : (BitVec.ofInt 64 (a : Int)).toNat = a := by
  rw [BitVec.ofInt_natCast, BitVec.toNat_ofNat]; exact Nat.mod_eq_of_lt (by omega)
theorem i64_or_nat (a b : Nat) (ha : a < 9223372036854775808) (hb : b < 9223372036854775808) : bits .or .i64 (a : Int) (b : Int) = ((a ||| b : Nat) : Int) := by
  have hx : a ||| b < 2 ^ 63 := Nat.or_lt_two_pow (by omega) (by omega)
  show IntKind.i64.wrap ((BitVec.ofInt 64 (a : Int) ||| BitVec.ofInt 64 (b : Int)).toNat : Int) = _
  rw [BitVec.toNat_or, ofInt_i64 a ha, ofInt_i64 b hb, IntKind.wrap_i64]
  omega
/-- The number that is tried: a root so far, and one digit more. -/
theorem tried (R j q : Nat) (h : R = 2 ^ (j + 1) * q) (hj : j ≤ 31) (hR : R ≤ 4294967295) : bits .or .i64 (R : Int) (wrap64 (2 ^ j)) = ((R + 2 ^ j : Nat) : Int) := by
  have hp : 2 ^ j ≤ 2147483648 := Nat.pow_le_pow_right (n := 2) (by omega) (j := 31) hj
  have e : wrap64 ((2 : Int) ^ j) = ((2 ^ j : Nat) : Int) := by
    have : ((2 : Int) ^ j) = ((2 ^ j : Nat) : Int) := by simp
    rw [this]
    generalize 2 ^ j = p at hp
    exact IntWalk.wrap64_in _ ⟨by omega, by omega⟩
  rw [e, i64_or_nat R (2 ^ j) (by omega) (by omega), or_pow R j q h]

/-- Where the search digit by digit stands: k digits are still to come. -/
def RootTo (n : Int) (k R : Nat) : Prop := (∃ q, R = 2 ^ k * q) ∧ (R : Int) * R ≤ n ∧ n < ((R + 2 ^ k : Nat) : Int) * ((R + 2 ^ k : Nat) : Int)
theorem rootTo_start {n : Int} (h0 : 0 < n) (h1 : n ≤ 9223372036854775807) : RootTo n ((Lib.bitLen n.toNat + 1) / 2) 0 := by
  refine ⟨⟨0, by simp⟩, by simp; omega, ?_⟩
  have h := bitLen_lt 64 n.toNat (by omega)
  have h2 : 2 ^ Lib.bitLenAux 64 n.toNat ≤ 2 ^ ((Lib.bitLenAux 64 n.toNat + 1) / 2 + (Lib.bitLenAux 64 n.toNat + 1) / 2) := Nat.pow_le_pow_right (by omega) (by omega)
  rw [Nat.pow_add] at h2
  rw [Nat.zero_add]
  have h3 : n.toNat < 2 ^ ((Lib.bitLen n.toNat + 1) / 2) * 2 ^ ((Lib.bitLen n.toNat + 1) / 2) := Nat.lt_of_lt_of_le h h2
  have h4 : ((n.toNat : Nat) : Int) < ((2 ^ ((Lib.bitLen n.toNat + 1) / 2) * 2 ^ ((Lib.bitLen n.toNat + 1) / 2) : Nat) : Int) := by exact_mod_cast h3
  rw [Int.natCast_mul] at h4
  omega
theorem rootTo_more {n : Int} {j R : Nat} (h : RootTo n (j + 1) R) (hx : ((R + 2 ^ j : Nat) : Int) * ((R + 2 ^ j : Nat) : Int) ≤ n) : RootTo n j (R + 2 ^ j) := by
  obtain ⟨⟨q, hq⟩, _, h2⟩ := h
  refine ⟨⟨2 * q + 1, by rw [hq, Nat.pow_succ, Nat.mul_add, Nat.mul_assoc]; omega⟩, hx, ?_⟩
  rw [show R + 2 ^ j + 2 ^ j = R + 2 ^ (j + 1) by rw [Nat.pow_succ]; omega]; exact h2
theorem rootTo_less {n : Int} {j R : Nat} (h : RootTo n (j + 1) R) (hx : n < ((R + 2 ^ j : Nat) : Int) * ((R + 2 ^ j : Nat) : Int)) : RootTo n j R := by
  obtain ⟨⟨q, hq⟩, h1, _⟩ := h
  exact ⟨⟨2 * q, by rw [hq, Nat.pow_succ, Nat.mul_assoc]⟩, h1, hx⟩
theorem rootTo_end {n : Int} {R : Nat} (h0 : 0 < n) (h : RootTo n 0 R) : IsRoot n R := by
  obtain ⟨_, h1, h2⟩ := h
  rw [Nat.pow_zero] at h2
  exact .inr ⟨h0, by omega, h1, by exact_mod_cast h2⟩
theorem rootTo_bd {n : Int} {k R : Nat} (h : RootTo n k R) (h1 : n ≤ 9223372036854775807) : R ≤ 4294967295 := by
  obtain ⟨_, h2, _⟩ := h
  rcases Nat.lt_or_ge R 4294967296 with h3 | h3
  · omega
  · have := sq_le (a := 4294967296) (b := (R : Int)) (by omega) (by omega)
    omega
/-- 'x is no more than n / x' says that its square is no more than n. -/
theorem le_div_iff {x n : Int} (hx : 0 < x) : x ≤ n / x ↔ x * x ≤ n := by
  rw [Int.le_ediv_iff_mul_le hx]
end Go.Proofs.Ytgaonfeljijebaa
