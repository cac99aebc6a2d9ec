/-
  What a text is read as, in plain words: its ten bytes, which are right, and the three numbers. No program in sight.
-/
import Derived.Test.YtaanmikdhhdeiaaDoorTxtS
import Derived.Lib.RabinKarpLaws
namespace Go.Proofs.YtaanmikdhhdeiaaDoor
open Go.RowKit
set_option linter.unusedVariables false

/-- Byte k of a text. -/
def bt (s : ByteArray) (k : Nat) : Int := match s.data.toList[k]? with | some c => (c.toNat : Int) | none => 0
theorem bt_at {s : ByteArray} {k : Nat} (h : k < s.size) : ((s[k]).toNat : Int) = bt s k := by
  unfold bt
  rw [Go.Proofs.byte_at s k h]
/-- Byte k is as it should be. -/
def okAt (s : ByteArray) (k : Nat) : Prop := if k = 4 ∨ k = 7 then bt s k = 45 else 48 ≤ bt s k ∧ bt s k ≤ 57
def OkTo (s : ByteArray) (k : Nat) : Prop := ∀ j, j < k → okAt s j
theorem okTo_zero (s : ByteArray) : OkTo s 0 := fun j h => by omega
theorem okTo_succ {s : ByteArray} {k : Nat} (h : OkTo s k) (h' : okAt s k) : OkTo s (k + 1) := fun j hj => by
  rcases Nat.lt_or_ge j k with h1 | h1
  · exact h j h1
  · obtain rfl : j = k := by omega
    exact h'
theorem ok_dash {s : ByteArray} {k : Nat} (hk : k = 4 ∨ k = 7) : okAt s k ↔ bt s k = 45 := by unfold okAt; rw [if_pos hk]
theorem ok_digit {s : ByteArray} {k : Nat} (hk : ¬(k = 4 ∨ k = 7)) : okAt s k ↔ 48 ≤ bt s k ∧ bt s k ≤ 57 := by unfold okAt; rw [if_neg hk]
/-- A text that may be a date. -/
def Good (s : ByteArray) : Prop := s.size = 10 ∧ OkTo s 10
theorem good_no {s : ByteArray} {k : Nat} (hk : k < 10) (h : ¬ okAt s k) : ¬ Good s := fun hg => h (hg.2 k hk)
/-- Which number byte k belongs to. -/
def place (k : Nat) : Nat := if k < 5 then 0 else if k < 8 then 1 else 2
/-- The three numbers, as far as the first k bytes tell them. -/
def pN (s : ByteArray) (a b : Nat) : Nat → Int
  | 0 => 0
  | k + 1 => if a ≤ k ∧ k < b then 10 * pN s a b k + (bt s k - 48) else pN s a b k
def pY (s : ByteArray) : Nat → Int := pN s 0 4
def pM (s : ByteArray) : Nat → Int := pN s 5 7
def pD (s : ByteArray) : Nat → Int := pN s 8 10
theorem pN_in {s : ByteArray} {a b k : Nat} (h0 : a ≤ k) (h1 : k < b) : pN s a b (k + 1) = 10 * pN s a b k + (bt s k - 48) := by rw [pN, if_pos ⟨h0, h1⟩]
theorem pN_out {s : ByteArray} {a b k : Nat} (h : k < a ∨ b ≤ k) : pN s a b (k + 1) = pN s a b k := by rw [pN, if_neg (by omega)]
theorem pN_bd {s : ByteArray} {a b : Nat} (hab : ∀ j, a ≤ j → j < b → j ≠ 4 ∧ j ≠ 7) : ∀ k, OkTo s k → 0 ≤ pN s a b k ∧ pN s a b k < (10 : Int) ^ (min k b - a)
  | 0, _ => by simp [pN]
  | k + 1, h => by
    have ih := pN_bd hab k (fun j hj => h j (by omega))
    by_cases hk : a ≤ k ∧ k < b
    · have hn := hab k hk.1 hk.2
      have ho := (ok_digit (s := s) (k := k) (by omega)).1 (h k (by omega))
      rw [pN_in hk.1 hk.2, show min (k + 1) b - a = (min k b - a) + 1 by omega, Int.pow_succ]
      omega
    · rw [pN_out (by omega)]
      refine ⟨ih.1, Int.lt_of_lt_of_le ih.2 ?_⟩
      have : (10 : Nat) ^ (min k b - a) ≤ 10 ^ (min (k + 1) b - a) := Nat.pow_le_pow_right (by omega) (by omega)
      exact_mod_cast this
theorem pow_le4 {e : Nat} (h : e ≤ 4) : (10 : Int) ^ e ≤ 10000 := by
  match e, h with
  | 0, _ | 1, _ | 2, _ | 3, _ | 4, _ => decide
theorem pY_bd {s : ByteArray} {k : Nat} (h : OkTo s k) : 0 ≤ pY s k ∧ pY s k ≤ 9999 := by
  have h1 := pN_bd (s := s) (a := 0) (b := 4) (by omega) k h
  have h2 := pow_le4 (e := min k 4 - 0) (by omega)
  unfold pY
  omega
theorem pM_bd {s : ByteArray} {k : Nat} (h : OkTo s k) : 0 ≤ pM s k ∧ pM s k ≤ 9999 := by
  have h1 := pN_bd (s := s) (a := 5) (b := 7) (by omega) k h
  have h2 := pow_le4 (e := min k 7 - 5) (by omega)
  unfold pM
  omega
theorem pD_bd {s : ByteArray} {k : Nat} (h : OkTo s k) : 0 ≤ pD s k ∧ pD s k ≤ 9999 := by
  have h1 := pN_bd (s := s) (a := 8) (b := 10) (by omega) k h
  have h2 := pow_le4 (e := min k 10 - 8) (by omega)
  unfold pD
  omega
end Go.Proofs.YtaanmikdhhdeiaaDoor
