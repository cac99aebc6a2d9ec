/-
  Days and dates in plain words: when a year begins (yst), how many days lie ahead of a month (mst), and that a day has one date. No program in sight.
-/
import Derived.Test.YtaanmikdhhdeiaaDoorCalG
namespace Go.Proofs.YtaanmikdhhdeiaaDoor
open Go.RowKit
set_option linter.unusedVariables false

theorem tmod_nn {y c : Int} (h : 0 ≤ y) : y.tmod c = y % c := Int.tmod_eq_emod_of_nonneg h
theorem leap_iff {y : Int} (h : 0 ≤ y) : leapB y = true ↔ (y % 4 = 0 ∧ y % 100 ≠ 0) ∨ y % 400 = 0 := by
  unfold leapB
  rw [tmod_nn h, tmod_nn h, tmod_nn h]
  simp
theorem long_is {y : Int} (h : 0 ≤ y) : longI y = if (y % 4 = 0 ∧ y % 100 ≠ 0) ∨ y % 400 = 0 then 366 else 365 := by
  unfold longI
  rcases hl : leapB y with _ | _
  · rw [if_neg (by simp), if_neg (fun hh => by rw [(leap_iff h).2 hh] at hl; cases hl)]
  · rw [if_pos rfl, if_pos ((leap_iff h).1 hl)]
/-- Leap years up to a year. -/
def lps (y : Int) : Int := y / 4 - y / 100 + y / 400
/-- The day on which a year begins. -/
def yst (y : Int) : Int := 365 * (y - 1970) + lps (y - 1) - lps 1969
theorem yst_zero : yst 1970 = 0 := by decide
theorem yst_end : yst 10000 = 2932897 := by decide
theorem yst_succ {y : Int} (h : 0 ≤ y) : yst (y + 1) = yst y + longI y := by
  rw [long_is h]
  unfold yst lps
  split <;> rename_i h1 <;> omega
theorem yst_cycle (q : Int) : yst (1970 + 400 * q) = 146097 * q := by
  unfold yst lps
  omega
theorem long_bd (y : Int) : 365 ≤ longI y ∧ longI y ≤ 366 := by unfold longI; split <;> omega
theorem yst_mono {y : Int} (h : 0 ≤ y) : ∀ d : Nat, yst y + 365 * d ≤ yst (y + d)
  | 0 => by simp
  | d + 1 => by
    have h1 := yst_mono h d
    have h2 := yst_succ (y := y + d) (by omega)
    have h3 := (long_bd (y + d)).1
    have : yst (y + ((d + 1 : Nat) : Int)) = yst (y + d + 1) := by congr 1; omega
    omega
theorem yst_lt {y z : Int} (h : 0 ≤ y) (hz : y < z) : yst y + 365 ≤ yst z := by
  obtain ⟨d, hd⟩ := Int.eq_ofNat_of_zero_le (show 0 ≤ z - y - 1 by omega)
  have := yst_mono h (d + 1)
  have e : y + ((d + 1 : Nat) : Int) = z := by omega
  rw [e] at this
  omega
/-- The days of the first k months. -/
def mst (y : Int) : Nat → Int
  | 0 => 0
  | k + 1 => mst y k + daysI y ((k + 1 : Nat) : Int)
theorem days_bd (y m : Int) : 0 ≤ daysI y m ∧ daysI y m ≤ 31 := by
  unfold daysI
  split
  · omega
  · split
    · omega
    · rename_i h _
      have h0 : m.toNat < 13 := by omega
      generalize m.toNat = k at h0
      have : ∀ k, k < 13 → 0 ≤ tabD k ∧ tabD k ≤ 31 := by decide
      exact this k h0
theorem mst_year (y : Int) : mst y 12 = longI y := by
  unfold longI
  simp only [mst, daysI]
  rcases leapB y <;> decide
theorem mst_mono (y : Int) (k : Nat) : ∀ d, mst y k ≤ mst y (k + d)
  | 0 => Int.le_refl _
  | d + 1 => by
    have h1 := mst_mono y k d
    have h2 : mst y (k + (d + 1)) = mst y (k + d) + daysI y ((k + d + 1 : Nat) : Int) := rfl
    have := (days_bd y ((k + d + 1 : Nat) : Int)).1
    omega
/-- The date y-m-d is the day n. -/
def IsDate (n y m d : Int) : Prop := 1970 ≤ y ∧ y ≤ 9999 ∧ 1 ≤ m ∧ m ≤ 12 ∧ 1 ≤ d ∧ d ≤ daysI y m ∧ n = yst y + mst y (m - 1).toNat + (d - 1)
theorem date_in {n y m d : Int} (h : IsDate n y m d) : yst y ≤ n ∧ n < yst (y + 1) ∧ mst y (m - 1).toNat ≤ n - yst y ∧ n - yst y < mst y m.toNat := by
  obtain ⟨y0, _, m0, m1, d0, d1, hn⟩ := h
  have e : m.toNat = (m - 1).toNat + 1 := by omega
  have h1 : mst y m.toNat = mst y (m - 1).toNat + daysI y m := by
    rw [e]
    show mst y (m - 1).toNat + daysI y _ = _
    congr 2; omega
  have h2 := mst_mono y 0 (m - 1).toNat
  rw [Nat.zero_add] at h2
  have h3 := mst_mono y m.toNat (12 - m.toNat)
  rw [show m.toNat + (12 - m.toNat) = 12 by omega, mst_year] at h3
  have h4 := yst_succ (y := y) (by omega)
  have h5 : mst y 0 = 0 := rfl
  omega
theorem date_one {n y m d y' m' d' : Int} (h : IsDate n y m d) (h' : IsDate n y' m' d') : y = y' ∧ m = m' ∧ d = d' := by
  obtain ⟨a0, a1, a2, a3⟩ := date_in h
  obtain ⟨b0, b1, b2, b3⟩ := date_in h'
  obtain ⟨y0, _, m0, m1, d0, d1, hn⟩ := h
  obtain ⟨y0', _, m0', m1', d0', d1', hn'⟩ := h'
  have hy : y = y' := by
    rcases Int.lt_trichotomy y y' with hh | hh | hh
    · have := yst_lt (y := y + 1) (z := y') (by omega)
      rcases Int.lt_or_le (y + 1) y' with h1 | h1
      · have := this h1; omega
      · obtain rfl : y' = y + 1 := by omega
        omega
    · exact hh
    · have := yst_lt (y := y' + 1) (z := y) (by omega)
      rcases Int.lt_or_le (y' + 1) y with h1 | h1
      · have := this h1; omega
      · obtain rfl : y = y' + 1 := by omega
        omega
  subst hy
  have hm : m = m' := by
    rcases Int.lt_trichotomy m m' with hh | hh | hh
    · have := mst_mono y m.toNat ((m' - 1).toNat - m.toNat)
      rw [show m.toNat + ((m' - 1).toNat - m.toNat) = (m' - 1).toNat by omega] at this
      omega
    · exact hh
    · have := mst_mono y m'.toNat ((m - 1).toNat - m'.toNat)
      rw [show m'.toNat + ((m - 1).toNat - m'.toNat) = (m - 1).toNat by omega] at this
      omega
  subst hm
  exact ⟨rfl, rfl, by omega⟩
theorem date_bd {n y m d : Int} (h : IsDate n y m d) : 0 ≤ n ∧ n ≤ 2932896 := by
  obtain ⟨a0, a1, _, _⟩ := date_in h
  obtain ⟨y0, y1, _⟩ := h
  have h1 := yst_mono (y := 1970) (by omega) (y - 1970).toNat
  rw [show (1970 : Int) + ((y - 1970).toNat : Int) = y by omega, yst_zero] at h1
  have h2 := yst_mono (y := y + 1) (by omega) (9999 - y).toNat
  rw [show y + 1 + ((9999 - y).toNat : Int) = 10000 by omega, yst_end] at h2
  omega
end Go.Proofs.YtaanmikdhhdeiaaDoor
