/-
  Leap years and the days of months: the functions of the package calendar and of its reference. Condition (Days): the variable calendar.days reads as its text says.
-/
import Derived.Test.YtaanmikdhhdeiaaDoorRows
import Derived.Test.YtaanmikdhhdeiaaDoorBase
namespace Go.Proofs.YtaanmikdhhdeiaaDoor
open Go.ChangeShapes Go.WideShapes Go.ChangeAt Go.RowKit
set_option linter.unusedVariables false

def leapB (y : Int) : Bool := (y.tmod 4 == 0 && !(y.tmod 100 == 0)) || y.tmod 400 == 0
theorem goLeap (y : Int) (w : World) : Calls Tryd.prog 7 #[.int .i64 y] w fun e w' => e = .returned (.bool (leapB y)) ∧ w = w' := by
  have E : Hid (leapB y = ((y.tmod 4 == 0 && !(y.tmod 100 == 0)) || y.tmod 400 == 0)) := rfl
  by_cases p1 : y.tmod 4 = 0 <;> by_cases p2 : y.tmod 100 = 0 <;> by_cases p3 : y.tmod 400 = 0
  all_goals
    go_enter Tryd.func7, Tryd.ntmps7
    go_wp2
    go_ret
    exact ⟨ret_bool (by rw [E.out]; first | (simp [p1, p2, p3]; done) | (simp [bne, p1, p2, p3]; done) | (rw [bne, beq_false_of_ne p2]; simp [p1, p2, p3])), rfl⟩
theorem goLeap_is {y : Int} {b : Bool} {w : World} (h : leapB y = b) : Calls Tryd.prog 7 #[.int .i64 y] w fun e w' => e = .returned (.bool b) ∧ w = w' := by rw [← h]; exact goLeap y w
theorem refLeap (y : Int) (w : World) : Calls Tryd.prog 8 #[.int .i64 y] w fun e w' => e = .returned (.bool (leapB y)) ∧ w = w' := by
  have E : Hid (leapB y = ((y.tmod 4 == 0 && !(y.tmod 100 == 0)) || y.tmod 400 == 0)) := rfl
  by_cases p1 : y.tmod 4 = 0 <;> by_cases p2 : y.tmod 100 = 0 <;> by_cases p3 : y.tmod 400 = 0
  all_goals
    go_enter Tryd.func8, Tryd.ntmps8
    go_wp2
    go_ret
    exact ⟨ret_bool (by rw [E.out]; first | (simp [p1, p2, p3]; done) | (simp [bne, p1, p2, p3]; done) | (rw [bne, beq_false_of_ne p2]; simp [p1, p2, p3])), rfl⟩
theorem refLeap_is {y : Int} {b : Bool} {w : World} (h : leapB y = b) : Calls Tryd.prog 8 #[.int .i64 y] w fun e w' => e = .returned (.bool b) ∧ w = w' := by rw [← h]; exact refLeap y w
def longI (y : Int) : Int := if leapB y = true then 366 else 365
theorem goLong (y : Int) (w : World) : Calls Tryd.prog 21 #[.int .i64 y] w fun e w' => e = .returned (.int .i64 (longI y)) ∧ w = w' := by
  rcases h : leapB y with _ | _
  all_goals
    have E := Lib.hid h
    clear h
    go_enter Tryd.func21, Tryd.ntmps21
    go_wp2_with fail
    refine (goLeap_is E.out).mono ?_
    rintro e w' ⟨rfl, rfl⟩
    go_wp2_with fail
    go_ret
    exact ⟨ret_int (by rw [longI, E.out]; rfl), rfl⟩
/-- The days of months, as the variable has them. -/
def tabD (m : Nat) : Int := [0, 31, 28, 31, 30, 31, 30, 31, 31, 30, 31, 30, 31].getD m 0
/-- The variable calendar.days reads as its text says. -/
def Tab (w : World) : Prop := 0 < w.heap.size ∧ ∀ m, m < 13 → w.cell? ⟨0, m, none⟩ = some (.int .i64 (tabD m))
theorem Tab.below {B : Nat} {w w' : World} (h : Tab w) (hb : Below B w w') (hB : 0 < B) : Tab w' := ⟨Nat.lt_of_lt_of_le h.1 hb.size, fun m hm => (hb.cell (p := ⟨0, m, none⟩) hB).trans (h.2 m hm)⟩
def daysI (y m : Int) : Int := if m < 1 ∨ 12 < m then 0 else if m = 2 ∧ leapB y = true then 29 else tabD m.toNat
theorem goDays (y m : Int) (w : World) (hT : Tab w) : Calls Tryd.prog 9 #[.int .i64 y, .int .i64 m] w fun e w' => e = .returned (.int .i64 (daysI y m)) ∧ w = w' := by
  by_cases h1 : m < 1
  · have E : Hid (daysI y m = 0) := by show _ = _; rw [daysI, if_pos (.inl h1)]
    go_enter Tryd.func9, Tryd.ntmps9
    go_wp2
    go_ret
    exact ⟨ret_int E.out.symm, rfl⟩
  by_cases h2 : 12 < m
  · have E : Hid (daysI y m = 0) := by show _ = _; rw [daysI, if_pos (.inr h2)]
    go_enter Tryd.func9, Tryd.ntmps9
    go_wp2
    go_ret
    exact ⟨ret_int E.out.symm, rfl⟩
  obtain ⟨k, rfl⟩ := Int.eq_ofNat_of_zero_le (show 0 ≤ m by omega)
  have hc := hT.2 k (by omega)
  by_cases h3 : k = 2
  · subst h3
    rcases hl : leapB y with _ | _
    · have E : Hid (daysI y (2 : Nat) = tabD 2) := by show _ = _; rw [daysI, if_neg (by omega), if_neg (by rw [hl]; simp)]; rfl
      have HL := Lib.hid hl
      clear hl
      go_enter Tryd.func9, Tryd.ntmps9
      go_wp2_with (go_at_call 7; refine (goLeap_is HL.out).mono ?_; rintro e w' ⟨rfl, rfl⟩)
      go_ret
      exact ⟨ret_int E.out.symm, rfl⟩
    · have E : Hid (daysI y (2 : Nat) = 29) := by show _ = _; rw [daysI, if_neg (by omega), if_pos ⟨rfl, hl⟩]
      have HL := Lib.hid hl
      clear hl
      go_enter Tryd.func9, Tryd.ntmps9
      go_wp2_with (go_at_call 7; refine (goLeap_is HL.out).mono ?_; rintro e w' ⟨rfl, rfl⟩)
      go_ret
      exact ⟨ret_int E.out.symm, rfl⟩
  · have E : Hid (daysI y (k : Nat) = tabD k) := by show _ = _; rw [daysI, if_neg (by omega), if_neg (by omega)]; simp
    have b2 : ((k : Int) == 2) = false := by simp; omega
    go_enter Tryd.func9, Tryd.ntmps9
    go_wp2_with fail
    go_ret
    exact ⟨ret_int E.out.symm, rfl⟩
end Go.Proofs.YtaanmikdhhdeiaaDoor
