/-
  CalendarDays, walked: it returns true, whatever the day and the date. Condition (Tab): the variable calendar.days reads as its text says.
-/
import Derived.Test.YtaanmikdhhdeiaaDoorCalL
import Derived.Test.YtaanmikdhhdeiaaDoorLater
namespace Go.Proofs.YtaanmikdhhdeiaaDoor
open Go.ChangeShapes Go.WideShapes Go.ChangeAt Go.RowKit
set_option linter.unusedVariables false

theorem date59 : IsDate 59 1970 3 1 := by unfold IsDate; decide
theorem goAwake (w : World) (hT : Tab w) : Calls Tryd.prog 6 #[] w fun e w' => e = .returned (.bool true) ∧ Below w.heap.size w w' := by
  have HT := Lib.hid hT
  clear hT
  go_enter Tryd.func6, Tryd.ntmps6
  go_wp2_with fail
  refine (goOf_is 59 1970 3 1 _ HT.out date59).mono ?_
  rintro e w1 ⟨rfl, hb⟩
  go_wp2_with fail
  go_ret
  exact ⟨rfl, hb.alloc hb.size _⟩
namespace calendarDaysWalk
theorem walk (a0 : Int) (s1a s1b s1c : Int) (w : World) (hT : Tab w) (w0 : (Lit.int .i64 a0).wf = true) (ws1a : Fits s1a) (ws1b : Fits s1b) (ws1c : Fits s1c) :
    Calls Tryd.prog 3 #[.int .i64 a0, .agg #[.int .i64 s1a, .int .i64 s1b, .int .i64 s1c]] w fun e w' => e = .returned (.bool true) ∧ Below w.heap.size w w' := by
  have HT := Lib.hid (hT.alloc (.cells #[.int .i64 s1a, .int .i64 s1b, .int .i64 s1c] 23))
  have HH := Lib.hid hT.1
  clear hT
  have A0 := wf_fits w0
  unfold Fits at ws1a ws1b ws1c A0
  have b0 : (leapB s1a != leapB s1a) = false := by simp
  have d0 : (daysI s1a s1b != daysI s1a s1b) = false := by simp
  go_enter Tryd.func3, Tryd.ntmps3
  go_wp2_with fail
  refine (goAwake _ HT.out).mono ?_
  rintro e w1 ⟨rfl, hb1⟩
  have HB1 := Lib.hid (below_boxed hb1)
  have c0 := boxed_cell hb1 0
  have c1 := boxed_cell hb1 1
  have c2 := boxed_cell hb1 2
  have HT1 := Lib.hid (HT.out.below hb1 HT.out.1)
  have HS := Lib.hid hb1.size
  clear hb1
  go_wp2_with fail
  go_quiet ((first | (go_at_call 7; exact quiet_same (goLeap _ _)) | (go_at_call 8; exact quiet_same (refLeap _ _)) | (go_at_call 9; exact quiet_same (goDays _ _ _ (HT1.out.drewN _))) | (go_at_call 10; exact quiet_same (refDays _ _ _))))
  go_wp2_with fail
  have HB2 := Lib.hid (below_dN HB1.out nq)
  have HT2 := Lib.hid (HT1.out.drewN nq)
  have HS2 : Hid (w.heap.size < (w1.drewN nq).heap.size) := by
    have := HS.out
    simp at this
    show _ < w1.heap.size
    omega
  have e0 : (w1.drewN nq).cell? ⟨w.heap.size, 0, none⟩ = some (.int .i64 s1a) := c0
  have e1 : (w1.drewN nq).cell? ⟨w.heap.size, 1, none⟩ = some (.int .i64 s1b) := c1
  have e2 : (w1.drewN nq).cell? ⟨w.heap.size, 2, none⟩ = some (.int .i64 s1c) := c2
  clear c0 c1 c2 HT HT1 HB1 HS b0 d0
  generalize w1.drewN nq = w2 at HB2 HT2 HS2 e0 e1 e2 ⊢
  by_cases hv : Vld s1a s1b s1c
  · have V := Lib.hid hv
    clear hv
    by_cases hr : 0 ≤ a0 ∧ a0 ≤ 2932896
    · obtain ⟨R0, R1⟩ := hr
      have D := Lib.hid (vld_date V.out)
      obtain ⟨N, hN⟩ : ∃ N, yst s1a + mst s1a (s1b - 1).toNat + (s1c - 1) = N := ⟨_, rfl⟩
      rw [hN] at D
      clear hN
      have n0 : 0 ≤ N := (date_bd D.out).1
      refine (goDay_yes N s1a s1b s1c _ HT2.out D.out).mono ?_
      rintro e w3 ⟨rfl, hb3⟩
      have E0 := (hb3.cell (p := ⟨w.heap.size, 0, none⟩) HS2.out).trans e0
      have E1 := (hb3.cell (p := ⟨w.heap.size, 1, none⟩) HS2.out).trans e1
      have E2 := (hb3.cell (p := ⟨w.heap.size, 2, none⟩) HS2.out).trans e2
      have HB3 := Lib.hid (HB2.out.trans (hb3.mono (Nat.le_of_lt HS2.out)))
      have HT3 := Lib.hid (HT2.out.below hb3 HT2.out.1)
      have HS3 := Lib.hid (Nat.lt_of_lt_of_le HS2.out hb3.size)
      clear hb3 e0 e1 e2 HB2 HT2 HS2
      go_wp2_with fail
      refine (refDay_yes N s1a s1b s1c _ D.out).mono ?_
      rintro e w4 ⟨rfl, hb4⟩
      have HB4 := Lib.hid (HB3.out.trans (hb4.mono (Nat.le_of_lt HS3.out)))
      have HT4 := Lib.hid (HT3.out.below hb4 HT3.out.1)
      have HS4 := Lib.hid (Nat.lt_of_lt_of_le HS3.out hb4.size)
      clear hb4 E0 E1 E2 HB3 HT3 HS3
      go_wp2_with fail
      refine (goOf_yes a0 _ HT4.out R0 R1).mono ?_
      rintro e w5 ⟨y, m, d, rfl, hd, hb5⟩
      have DD := Lib.hid hd
      clear hd
      have HB5 := Lib.hid (HB4.out.trans (hb5.mono (Nat.le_of_lt HS4.out)))
      have HS5 := Lib.hid (Nat.lt_of_lt_of_le HS4.out hb5.size)
      clear hb5 HB4 HT4 HS4
      go_wp2_with fail
      refine (goWeek_yes a0 _ R0 R1).mono ?_
      rintro e w6 ⟨rfl, rfl⟩
      have WW : IntKind.i64.wrap (a0 + 3) = a0 + 3 := IntWalk.i64_in _ (by omega)
      have tm : (a0 + 3).tmod 7 = (a0 + 3) % 7 := Int.tmod_eq_emod_of_nonneg (by omega)
      go_wp2_with fail
      have K0 : (w5.alloc (.cells #[.int .i64 y, .int .i64 m, .int .i64 d] 23)).cell? ⟨w5.heap.size, 0, none⟩ = some (.int .i64 y) := Bk.cell (Bk.new w5 23 _) 0
      have K1 : (w5.alloc (.cells #[.int .i64 y, .int .i64 m, .int .i64 d] 23)).cell? ⟨w5.heap.size, 1, none⟩ = some (.int .i64 m) := Bk.cell (Bk.new w5 23 _) 1
      have K2 : (w5.alloc (.cells #[.int .i64 y, .int .i64 m, .int .i64 d] 23)).cell? ⟨w5.heap.size, 2, none⟩ = some (.int .i64 d) := Bk.cell (Bk.new w5 23 _) 2
      have HB6 := Lib.hid (HB5.out.alloc (Nat.le_of_lt HS5.out) (.cells #[.int .i64 y, .int .i64 m, .int .i64 d] 23))
      have HS6 : Hid (w.heap.size < (w5.alloc (.cells #[.int .i64 y, .int .i64 m, .int .i64 d] 23)).heap.size) := by
        have := HS5.out
        show _ < _
        simp
        omega
      generalize w5.alloc (.cells #[.int .i64 y, .int .i64 m, .int .i64 d] 23) = w6 at K0 K1 K2 HB6 HS6 ⊢
      have q0 := fun t : Later w6 => Later.cell K0 t
      have q1 := fun t : Later w6 => Later.cell K1 t
      have q2 := fun t : Later w6 => Later.cell K2 t
      clear K0 K1 K2
      refine wp_region_later (by kernel_rfl) (by kernel_rfl) ?_
      all_goals
        repeat (go_big_quiet_step ((go_at_call 15; exact calls_later (refOf_is a0 y m d _ DD.out))))
        refine wpQuiet_nil ?_
        rintro w7 ⟨t, rfl⟩
        have hb7 := t.below
        generalize t.w = w7 at hb7 ⊢
        clear q0 q1 q2 t
        go_wp2_with fail
        go_ret
        exact ⟨rfl, HB6.out.trans (hb7.mono (Nat.le_of_lt HS6.out))⟩
    · have R : Hid (a0 < 0 ∨ 2932896 < a0) := by show _ ∨ _; omega
      clear hr
      by_cases r0 : a0 < 0
      · have D := Lib.hid (vld_date V.out)
        obtain ⟨N, hN⟩ : ∃ N, yst s1a + mst s1a (s1b - 1).toNat + (s1c - 1) = N := ⟨_, rfl⟩
        rw [hN] at D
        clear hN
        have n0 : 0 ≤ N := (date_bd D.out).1
        refine (goDay_yes N s1a s1b s1c _ HT2.out D.out).mono ?_
        rintro e w3 ⟨rfl, hb3⟩
        have E0 := (hb3.cell (p := ⟨w.heap.size, 0, none⟩) HS2.out).trans e0
        have E1 := (hb3.cell (p := ⟨w.heap.size, 1, none⟩) HS2.out).trans e1
        have E2 := (hb3.cell (p := ⟨w.heap.size, 2, none⟩) HS2.out).trans e2
        have HB3 := Lib.hid (HB2.out.trans (hb3.mono (Nat.le_of_lt HS2.out)))
        have HT3 := Lib.hid (HT2.out.below hb3 HT2.out.1)
        have HS3 := Lib.hid (Nat.lt_of_lt_of_le HS2.out hb3.size)
        clear hb3 e0 e1 e2 HB2 HT2 HS2
        go_wp2_with fail
        refine (refDay_yes N s1a s1b s1c _ D.out).mono ?_
        rintro e w4 ⟨rfl, hb4⟩
        have HB4 := Lib.hid (HB3.out.trans (hb4.mono (Nat.le_of_lt HS3.out)))
        have HT4 := Lib.hid (HT3.out.below hb4 HT3.out.1)
        have HS4 := Lib.hid (Nat.lt_of_lt_of_le HS3.out hb4.size)
        clear hb4 E0 E1 E2 HB3 HT3 HS3
        go_wp2_with fail
        refine (goOf_no a0 _ R.out).mono ?_
        rintro e w5 ⟨rfl, hb5⟩
        have HB5 := Lib.hid (HB4.out.trans (hb5.mono (Nat.le_of_lt HS4.out)))
        have HS5 := Lib.hid (Nat.lt_of_lt_of_le HS4.out hb5.size)
        clear hb5 HB4 HT4 HS4
        go_wp2_with fail
        refine (goWeek_no a0 _ R.out).mono ?_
        rintro e w6 ⟨rfl, rfl⟩
        skip
        go_wp2_with fail
        go_ret
        exact ⟨rfl, HB5.out.alloc (Nat.le_of_lt HS5.out) _⟩
      · have r1 : 2932896 < a0 := by have := R.out; omega
        have D := Lib.hid (vld_date V.out)
        obtain ⟨N, hN⟩ : ∃ N, yst s1a + mst s1a (s1b - 1).toNat + (s1c - 1) = N := ⟨_, rfl⟩
        rw [hN] at D
        clear hN
        have n0 : 0 ≤ N := (date_bd D.out).1
        refine (goDay_yes N s1a s1b s1c _ HT2.out D.out).mono ?_
        rintro e w3 ⟨rfl, hb3⟩
        have E0 := (hb3.cell (p := ⟨w.heap.size, 0, none⟩) HS2.out).trans e0
        have E1 := (hb3.cell (p := ⟨w.heap.size, 1, none⟩) HS2.out).trans e1
        have E2 := (hb3.cell (p := ⟨w.heap.size, 2, none⟩) HS2.out).trans e2
        have HB3 := Lib.hid (HB2.out.trans (hb3.mono (Nat.le_of_lt HS2.out)))
        have HT3 := Lib.hid (HT2.out.below hb3 HT2.out.1)
        have HS3 := Lib.hid (Nat.lt_of_lt_of_le HS2.out hb3.size)
        clear hb3 e0 e1 e2 HB2 HT2 HS2
        go_wp2_with fail
        refine (refDay_yes N s1a s1b s1c _ D.out).mono ?_
        rintro e w4 ⟨rfl, hb4⟩
        have HB4 := Lib.hid (HB3.out.trans (hb4.mono (Nat.le_of_lt HS3.out)))
        have HT4 := Lib.hid (HT3.out.below hb4 HT3.out.1)
        have HS4 := Lib.hid (Nat.lt_of_lt_of_le HS3.out hb4.size)
        clear hb4 E0 E1 E2 HB3 HT3 HS3
        go_wp2_with fail
        refine (goOf_no a0 _ R.out).mono ?_
        rintro e w5 ⟨rfl, hb5⟩
        have HB5 := Lib.hid (HB4.out.trans (hb5.mono (Nat.le_of_lt HS4.out)))
        have HS5 := Lib.hid (Nat.lt_of_lt_of_le HS4.out hb5.size)
        clear hb5 HB4 HT4 HS4
        go_wp2_with fail
        refine (goWeek_no a0 _ R.out).mono ?_
        rintro e w6 ⟨rfl, rfl⟩
        skip
        go_wp2_with fail
        go_ret
        exact ⟨rfl, HB5.out.alloc (Nat.le_of_lt HS5.out) _⟩
  
  · have V := Lib.hid hv
    clear hv
    by_cases hr : 0 ≤ a0 ∧ a0 ≤ 2932896
    · obtain ⟨R0, R1⟩ := hr
      refine (goDay_no s1a s1b s1c _ HT2.out V.out).mono ?_
      rintro e w3 ⟨rfl, hb3⟩
      have E0 := (hb3.cell (p := ⟨w.heap.size, 0, none⟩) HS2.out).trans e0
      have E1 := (hb3.cell (p := ⟨w.heap.size, 1, none⟩) HS2.out).trans e1
      have E2 := (hb3.cell (p := ⟨w.heap.size, 2, none⟩) HS2.out).trans e2
      have HB3 := Lib.hid (HB2.out.trans (hb3.mono (Nat.le_of_lt HS2.out)))
      have HT3 := Lib.hid (HT2.out.below hb3 HT2.out.1)
      have HS3 := Lib.hid (Nat.lt_of_lt_of_le HS2.out hb3.size)
      clear hb3 e0 e1 e2 HB2 HT2 HS2
      go_wp2_with fail
      refine (refDay_no s1a s1b s1c _ V.out).mono ?_
      rintro e w4 ⟨rfl, hb4⟩
      have HB4 := Lib.hid (HB3.out.trans (hb4.mono (Nat.le_of_lt HS3.out)))
      have HT4 := Lib.hid (HT3.out.below hb4 HT3.out.1)
      have HS4 := Lib.hid (Nat.lt_of_lt_of_le HS3.out hb4.size)
      clear hb4 E0 E1 E2 HB3 HT3 HS3
      go_wp2_with fail
      refine (goOf_yes a0 _ HT4.out R0 R1).mono ?_
      rintro e w5 ⟨y, m, d, rfl, hd, hb5⟩
      have DD := Lib.hid hd
      clear hd
      have HB5 := Lib.hid (HB4.out.trans (hb5.mono (Nat.le_of_lt HS4.out)))
      have HS5 := Lib.hid (Nat.lt_of_lt_of_le HS4.out hb5.size)
      clear hb5 HB4 HT4 HS4
      go_wp2_with fail
      refine (goWeek_yes a0 _ R0 R1).mono ?_
      rintro e w6 ⟨rfl, rfl⟩
      have WW : IntKind.i64.wrap (a0 + 3) = a0 + 3 := IntWalk.i64_in _ (by omega)
      have tm : (a0 + 3).tmod 7 = (a0 + 3) % 7 := Int.tmod_eq_emod_of_nonneg (by omega)
      go_wp2_with fail
      have K0 : (w5.alloc (.cells #[.int .i64 y, .int .i64 m, .int .i64 d] 23)).cell? ⟨w5.heap.size, 0, none⟩ = some (.int .i64 y) := Bk.cell (Bk.new w5 23 _) 0
      have K1 : (w5.alloc (.cells #[.int .i64 y, .int .i64 m, .int .i64 d] 23)).cell? ⟨w5.heap.size, 1, none⟩ = some (.int .i64 m) := Bk.cell (Bk.new w5 23 _) 1
      have K2 : (w5.alloc (.cells #[.int .i64 y, .int .i64 m, .int .i64 d] 23)).cell? ⟨w5.heap.size, 2, none⟩ = some (.int .i64 d) := Bk.cell (Bk.new w5 23 _) 2
      have HB6 := Lib.hid (HB5.out.alloc (Nat.le_of_lt HS5.out) (.cells #[.int .i64 y, .int .i64 m, .int .i64 d] 23))
      have HS6 : Hid (w.heap.size < (w5.alloc (.cells #[.int .i64 y, .int .i64 m, .int .i64 d] 23)).heap.size) := by
        have := HS5.out
        show _ < _
        simp
        omega
      generalize w5.alloc (.cells #[.int .i64 y, .int .i64 m, .int .i64 d] 23) = w6 at K0 K1 K2 HB6 HS6 ⊢
      have q0 := fun t : Later w6 => Later.cell K0 t
      have q1 := fun t : Later w6 => Later.cell K1 t
      have q2 := fun t : Later w6 => Later.cell K2 t
      clear K0 K1 K2
      refine wp_region_later (by kernel_rfl) (by kernel_rfl) ?_
      all_goals
        repeat (go_big_quiet_step ((go_at_call 15; exact calls_later (refOf_is a0 y m d _ DD.out))))
        refine wpQuiet_nil ?_
        rintro w7 ⟨t, rfl⟩
        have hb7 := t.below
        generalize t.w = w7 at hb7 ⊢
        clear q0 q1 q2 t
        go_wp2_with fail
        go_ret
        exact ⟨rfl, HB6.out.trans (hb7.mono (Nat.le_of_lt HS6.out))⟩
    · have R : Hid (a0 < 0 ∨ 2932896 < a0) := by show _ ∨ _; omega
      clear hr
      by_cases r0 : a0 < 0
      · refine (goDay_no s1a s1b s1c _ HT2.out V.out).mono ?_
        rintro e w3 ⟨rfl, hb3⟩
        have E0 := (hb3.cell (p := ⟨w.heap.size, 0, none⟩) HS2.out).trans e0
        have E1 := (hb3.cell (p := ⟨w.heap.size, 1, none⟩) HS2.out).trans e1
        have E2 := (hb3.cell (p := ⟨w.heap.size, 2, none⟩) HS2.out).trans e2
        have HB3 := Lib.hid (HB2.out.trans (hb3.mono (Nat.le_of_lt HS2.out)))
        have HT3 := Lib.hid (HT2.out.below hb3 HT2.out.1)
        have HS3 := Lib.hid (Nat.lt_of_lt_of_le HS2.out hb3.size)
        clear hb3 e0 e1 e2 HB2 HT2 HS2
        go_wp2_with fail
        refine (refDay_no s1a s1b s1c _ V.out).mono ?_
        rintro e w4 ⟨rfl, hb4⟩
        have HB4 := Lib.hid (HB3.out.trans (hb4.mono (Nat.le_of_lt HS3.out)))
        have HT4 := Lib.hid (HT3.out.below hb4 HT3.out.1)
        have HS4 := Lib.hid (Nat.lt_of_lt_of_le HS3.out hb4.size)
        clear hb4 E0 E1 E2 HB3 HT3 HS3
        go_wp2_with fail
        refine (goOf_no a0 _ R.out).mono ?_
        rintro e w5 ⟨rfl, hb5⟩
        have HB5 := Lib.hid (HB4.out.trans (hb5.mono (Nat.le_of_lt HS4.out)))
        have HS5 := Lib.hid (Nat.lt_of_lt_of_le HS4.out hb5.size)
        clear hb5 HB4 HT4 HS4
        go_wp2_with fail
        refine (goWeek_no a0 _ R.out).mono ?_
        rintro e w6 ⟨rfl, rfl⟩
        skip
        go_wp2_with fail
        go_ret
        exact ⟨rfl, HB5.out.alloc (Nat.le_of_lt HS5.out) _⟩
      · have r1 : 2932896 < a0 := by have := R.out; omega
        refine (goDay_no s1a s1b s1c _ HT2.out V.out).mono ?_
        rintro e w3 ⟨rfl, hb3⟩
        have E0 := (hb3.cell (p := ⟨w.heap.size, 0, none⟩) HS2.out).trans e0
        have E1 := (hb3.cell (p := ⟨w.heap.size, 1, none⟩) HS2.out).trans e1
        have E2 := (hb3.cell (p := ⟨w.heap.size, 2, none⟩) HS2.out).trans e2
        have HB3 := Lib.hid (HB2.out.trans (hb3.mono (Nat.le_of_lt HS2.out)))
        have HT3 := Lib.hid (HT2.out.below hb3 HT2.out.1)
        have HS3 := Lib.hid (Nat.lt_of_lt_of_le HS2.out hb3.size)
        clear hb3 e0 e1 e2 HB2 HT2 HS2
        go_wp2_with fail
        refine (refDay_no s1a s1b s1c _ V.out).mono ?_
        rintro e w4 ⟨rfl, hb4⟩
        have HB4 := Lib.hid (HB3.out.trans (hb4.mono (Nat.le_of_lt HS3.out)))
        have HT4 := Lib.hid (HT3.out.below hb4 HT3.out.1)
        have HS4 := Lib.hid (Nat.lt_of_lt_of_le HS3.out hb4.size)
        clear hb4 E0 E1 E2 HB3 HT3 HS3
        go_wp2_with fail
        refine (goOf_no a0 _ R.out).mono ?_
        rintro e w5 ⟨rfl, hb5⟩
        have HB5 := Lib.hid (HB4.out.trans (hb5.mono (Nat.le_of_lt HS4.out)))
        have HS5 := Lib.hid (Nat.lt_of_lt_of_le HS4.out hb5.size)
        clear hb5 HB4 HT4 HS4
        go_wp2_with fail
        refine (goWeek_no a0 _ R.out).mono ?_
        rintro e w6 ⟨rfl, rfl⟩
        skip
        go_wp2_with fail
        go_ret
        exact ⟨rfl, HB5.out.alloc (Nat.le_of_lt HS5.out) _⟩
end calendarDaysWalk
end Go.Proofs.YtaanmikdhhdeiaaDoor
