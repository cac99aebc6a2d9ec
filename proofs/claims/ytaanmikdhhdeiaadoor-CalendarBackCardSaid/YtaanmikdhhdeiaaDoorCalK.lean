/-
  calendar.Day of what is no date, and the reference's Day. Condition (Tab, at the former): the variable calendar.days reads as its text says.
-/
import Derived.Test.YtaanmikdhhdeiaaDoorCalJ
namespace Go.Proofs.YtaanmikdhhdeiaaDoor
open Go.ChangeShapes Go.WideShapes Go.ChangeAt Go.RowKit
set_option linter.unusedVariables false

/-- y-m-d is a date. -/
def Vld (y m d : Int) : Prop := 1970 ≤ y ∧ y ≤ 9999 ∧ 1 ≤ d ∧ d ≤ daysI y m
theorem vld_month {y m d : Int} (h : Vld y m d) : 1 ≤ m ∧ m ≤ 12 := by
  obtain ⟨_, _, h1, h2⟩ := h
  unfold daysI at h2
  split at h2 <;> omega
theorem vld_date {y m d : Int} (h : Vld y m d) : IsDate (yst y + mst y (m - 1).toNat + (d - 1)) y m d := by
  have hm := vld_month h
  obtain ⟨h0, h1, h2, h3⟩ := h
  exact ⟨h0, h1, hm.1, hm.2, h2, h3, rfl⟩
theorem date_vld {n y m d : Int} (h : IsDate n y m d) : Vld y m d := ⟨h.1, h.2.1, h.2.2.2.2.1, h.2.2.2.2.2.1⟩
set_option maxHeartbeats 1000000 in
theorem goDay_no (y m d : Int) (w : World) (hT : Tab w) (hD : ¬ Vld y m d) : Calls Tryd.prog 11 #[.agg #[.int .i64 y, .int .i64 m, .int .i64 d]] w fun e w' => e = .returned (.tuple #[.int .i64 0, .int .i64 2]) ∧ Below w.heap.size w w' := by
  have HT := Lib.hid (hT.alloc (.cells #[.int .i64 y, .int .i64 m, .int .i64 d] 23))
  have HD := Lib.hid hD
  clear hT hD
  by_cases h1 : y < 1970
  · have g1 : decide (y < 1970) = true := by simpa using h1
    go_enter Tryd.func11, Tryd.ntmps11
    go_wp2
    go_quiet (fail)
    go_wp2
    go_ret2
    exact ⟨rfl, below_dN ((Below.refl _ _).alloc (Nat.le_refl _) _) nq⟩
  have g1 : decide (y < 1970) = false := by simp; omega
  by_cases h2 : 9999 < y
  · have g2 : decide (9999 < y) = true := by simpa using h2
    go_enter Tryd.func11, Tryd.ntmps11
    go_wp2
    go_quiet (fail)
    go_wp2
    go_ret2
    exact ⟨rfl, below_dN ((Below.refl _ _).alloc (Nat.le_refl _) _) nq⟩
  have g2 : decide (9999 < y) = false := by simp; omega
  by_cases h3 : d < 1
  · have g3 : decide (d < 1) = true := by simpa using h3
    go_enter Tryd.func11, Tryd.ntmps11
    go_wp2
    go_quiet (fail)
    go_wp2
    go_ret2
    exact ⟨rfl, below_dN ((Below.refl _ _).alloc (Nat.le_refl _) _) nq⟩
  have g3 : decide (d < 1) = false := by simp; omega
  have h4 : daysI y m < d := by
    rcases Int.lt_or_le (daysI y m) d with h | h
    · exact h
    · exact absurd ⟨by omega, by omega, by omega, h⟩ HD.out
  have g4 : decide (daysI y m < d) = true := by simpa using h4
  go_enter Tryd.func11, Tryd.ntmps11
  go_wp2
  go_quiet ((go_at_call 9; exact quiet_same (goDays y m _ (HT.out.drewN _))))
  go_wp2
  go_ret2
  exact ⟨rfl, below_dN ((Below.refl _ _).alloc (Nat.le_refl _) _) nq⟩
set_option maxHeartbeats 1000000 in
theorem refDay_no (y m d : Int) (w : World) (hD : ¬ Vld y m d) : Calls Tryd.prog 12 #[.agg #[.int .i64 y, .int .i64 m, .int .i64 d]] w fun e w' => e = .returned (.int .i64 (-1)) ∧ Below w.heap.size w w' := by
  have HD := Lib.hid hD
  clear hD
  by_cases h1 : y < 1970
  · have g1 : decide (y < 1970) = true := by simpa using h1
    go_enter Tryd.func12, Tryd.ntmps12
    go_wp2
    go_quiet (fail)
    go_wp2
    go_ret
    exact ⟨rfl, below_dN ((Below.refl _ _).alloc (Nat.le_refl _) _) nq⟩
  have g1 : decide (y < 1970) = false := by simp; omega
  by_cases h2 : 9999 < y
  · have g2 : decide (9999 < y) = true := by simpa using h2
    go_enter Tryd.func12, Tryd.ntmps12
    go_wp2
    go_quiet (fail)
    go_wp2
    go_ret
    exact ⟨rfl, below_dN ((Below.refl _ _).alloc (Nat.le_refl _) _) nq⟩
  have g2 : decide (9999 < y) = false := by simp; omega
  by_cases h5 : m < 1
  · have g5 : decide (m < 1) = true := by simpa using h5
    go_enter Tryd.func12, Tryd.ntmps12
    go_wp2
    go_quiet (fail)
    go_wp2
    go_ret
    exact ⟨rfl, below_dN ((Below.refl _ _).alloc (Nat.le_refl _) _) nq⟩
  have g5 : decide (m < 1) = false := by simp; omega
  by_cases h6 : 12 < m
  · have g6 : decide (12 < m) = true := by simpa using h6
    go_enter Tryd.func12, Tryd.ntmps12
    go_wp2
    go_quiet (fail)
    go_wp2
    go_ret
    exact ⟨rfl, below_dN ((Below.refl _ _).alloc (Nat.le_refl _) _) nq⟩
  have g6 : decide (12 < m) = false := by simp; omega
  by_cases h3 : d < 1
  · have g3 : decide (d < 1) = true := by simpa using h3
    go_enter Tryd.func12, Tryd.ntmps12
    go_wp2
    go_quiet (fail)
    go_wp2
    go_ret
    exact ⟨rfl, below_dN ((Below.refl _ _).alloc (Nat.le_refl _) _) nq⟩
  have g3 : decide (d < 1) = false := by simp; omega
  have h4 : daysI y m < d := by
    rcases Int.lt_or_le (daysI y m) d with h | h
    · exact h
    · exact absurd ⟨by omega, by omega, by omega, h⟩ HD.out
  have g4 : decide (daysI y m < d) = true := by simpa using h4
  go_enter Tryd.func12, Tryd.ntmps12
  go_wp2
  go_quiet ((go_at_call 10; exact quiet_same (refDays y m _)))
  go_wp2
  go_ret
  exact ⟨rfl, below_dN ((Below.refl _ _).alloc (Nat.le_refl _) _) nq⟩
set_option maxHeartbeats 1000000 in
theorem refDay_yes (n y m d : Int) (w : World) (hD : IsDate n y m d) : Calls Tryd.prog 12 #[.agg #[.int .i64 y, .int .i64 m, .int .i64 d]] w fun e w' => e = .returned (.int .i64 n) ∧ Below w.heap.size w w' := by
  have HD := Lib.hid hD
  obtain ⟨y0, y1, m0, m1, d0, d1, -⟩ := hD
  have N := Lib.hid (date_bd HD.out)
  have g1 : decide (y < 1970) = false := by simp; omega
  have g2 : decide (9999 < y) = false := by simp; omega
  have g5 : decide (m < 1) = false := by simp; omega
  have g6 : decide (12 < m) = false := by simp; omega
  have g3 : decide (d < 1) = false := by simp; omega
  have g4 : decide (daysI y m < d) = false := by simp; omega
  go_enter Tryd.func12, Tryd.ntmps12
  go_wp2
  go_quiet ((go_at_call 10; exact quiet_same (refDays y m _)))
  go_wp2
  have hbk : Bk ((w.alloc (.cells #[.int .i64 y, .int .i64 m, .int .i64 d] 23)).drewN nq) w.heap.size 23 #[.int .i64 y, .int .i64 m, .int .i64 d] := Bk.dN (Bk.new _ _ _) nq
  have hbl : Below w.heap.size w ((w.alloc (.cells #[.int .i64 y, .int .i64 m, .int .i64 d] 23)).drewN nq) := below_dN ((Below.refl _ _).alloc (Nat.le_refl _) _) nq
  generalize (w.alloc (.cells #[.int .i64 y, .int .i64 m, .int .i64 d] 23)).drewN nq = w2 at hbk hbl ⊢
  have c0 := hbk.cell 0
  have c1 := hbk.cell 1
  have c2 := hbk.cell 2
  have HL := Lib.hid hbl
  clear hbk hbl
  go_loop [3, 4] (fun v i => ∃ (Y V : Int), 1970 ≤ Y ∧ Y ≤ y ∧ i = .int .i64 Y ∧ v = .int .i64 V ∧ Hid (V = yst Y)) (fun _ i => (y - intOf i).toNat)
  case atStart => exact ⟨1970, 0, by omega, by omega, rfl, rfl, yst_zero.symm⟩
  case round =>
    obtain ⟨Y, V, hY0, hY1, rfl, rfl, hV⟩ := hrel
    have v0 : 0 ≤ V := by have := hV.out; have := yst_nn hY0; omega
    have v1 : V ≤ 2932897 := by have := hV.out; have := yst_hi hY0 (by omega); omega
    by_cases hlt : Y < y
    · have YS := Lib.hid (yst_succ (y := Y) (by omega))
      rcases hl : leapB Y with _ | _
      · have LI : Hid (longI Y = 365) := by show _ = _; rw [longI, hl]; rfl
        have HLe := Lib.hid hl
        clear hl
        go_wp2_with (go_at_call 8; refine (refLeap_is HLe.out).mono ?_; rintro e w' ⟨rfl, rfl⟩)
        go_round
        case rel => exact ⟨Y + 1, V + 365, by omega, by omega, rfl, rfl, by have := YS.out; have := LI.out; have := hV.out; show _ = _; omega⟩
        case measure => simp [intOf]; omega
      · have LI : Hid (longI Y = 366) := by show _ = _; rw [longI, hl]; rfl
        have HLe := Lib.hid hl
        clear hl
        go_wp2_with (go_at_call 8; refine (refLeap_is HLe.out).mono ?_; rintro e w' ⟨rfl, rfl⟩)
        go_round
        case rel => exact ⟨Y + 1, V + 365 + 1, by omega, by omega, rfl, rfl, by have := YS.out; have := LI.out; have := hV.out; show _ = _; omega⟩
        case measure => simp [intOf]; omega
    · obtain rfl : Y = y := by omega
      go_wp2
      go_loop [3, 5] (fun v i => ∃ (k : Nat) (U : Int), 1 ≤ k ∧ (k : Int) ≤ m ∧ i = .int .i64 k ∧ v = .int .i64 U ∧ Hid (U = yst Y + mst Y (k - 1))) (fun _ i => m.toNat - (intOf i).toNat)
      case atStart => exact ⟨1, V, by omega, by omega, rfl, rfl, by show _ = _; rw [hV.out]; simp [mst_zero]⟩
      case round =>
        obtain ⟨k, U, hk0, hk1, rfl, rfl, hU⟩ := hrel
        have u0 : 0 ≤ U := by have := hU.out; have := yst_nn y0; have := mst_nn Y (k - 1); omega
        have u1 : U ≤ 3000000 := by
          have h1 := hU.out
          have h2 := yst_hi y0 y1
          have h3 := mst_hi Y (show k - 1 ≤ 12 by omega)
          omega
        have db := Lib.hid (days_bd Y (k : Nat))
        have db1 := db.out.1
        have db2 := db.out.2
        by_cases hlt : (k : Int) < m
        · have MS := Lib.hid (mst_succ Y (k - 1))
          go_wp2_with (go_at_call 10; refine (refDays Y (k : Nat) _).mono ?_; rintro e w' ⟨rfl, rfl⟩)
          go_round
          case rel =>
            refine ⟨k + 1, U + daysI Y (k : Nat), by omega, by omega, by go_num, rfl, ?_⟩
            have h1 := MS.out
            have h2 := hU.out
            show _ = _
            rw [show k - 1 + 1 = k by omega] at h1
            rw [show k + 1 - 1 = k by omega]
            omega
          case measure => simp [intOf]; omega
        · have E : Hid (U + d - 1 = n) := by
            obtain ⟨_, _, _, _, _, _, hn⟩ := HD.out
            have h2 := hU.out
            have e : (m - 1).toNat = k - 1 := by omega
            rw [e] at hn
            show _ = _
            omega
          have e1 : d ≤ 31 := by have := (days_bd Y m).2; omega
          go_wp2
          go_ret
          exact ⟨ret_int E.out, HL.out⟩
end Go.Proofs.YtaanmikdhhdeiaaDoor
