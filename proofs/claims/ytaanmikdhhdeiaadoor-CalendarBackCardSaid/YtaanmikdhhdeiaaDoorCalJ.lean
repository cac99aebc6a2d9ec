/-
  calendar.Day: of a date its day, of anything else none. Condition (Tab): the variable calendar.days reads as its text says.
-/
import Derived.Test.YtaanmikdhhdeiaaDoorCalI
namespace Go.Proofs.YtaanmikdhhdeiaaDoor
open Go.ChangeShapes Go.WideShapes Go.ChangeAt Go.RowKit
set_option linter.unusedVariables false

theorem dayA {y : Int} (h0 : 1970 ≤ y) (h1 : y ≤ 9999) : 365 * (y - 1970) + lps (y - 1) - lps 1969 = yst y := rfl
theorem lps_bd {y : Int} (h0 : 0 ≤ y) (h1 : y ≤ 9999) : 0 ≤ lps y ∧ lps y ≤ 3000 := by unfold lps; omega
theorem yst_hi {y : Int} (h0 : 1970 ≤ y) (h1 : y ≤ 9999) : yst y ≤ 2932897 := by
  have h := yst_mono (y := y) (by omega) (10000 - y).toNat
  rw [show y + ((10000 - y).toNat : Int) = 10000 by omega, yst_end] at h
  omega
theorem mst_hi (y : Int) {k : Nat} (h : k ≤ 12) : mst y k ≤ 366 := by
  have h1 := mst_mono y k (12 - k)
  rw [show k + (12 - k) = 12 by omega, mst_year] at h1
  have := (long_bd y).2
  omega
set_option maxHeartbeats 1000000 in
theorem goDay_yes (n y m d : Int) (w : World) (hT : Tab w) (hD : IsDate n y m d) : Calls Tryd.prog 11 #[.agg #[.int .i64 y, .int .i64 m, .int .i64 d]] w fun e w' => e = .returned (.tuple #[.int .i64 n, .int .i64 0]) ∧ Below w.heap.size w w' := by
  have HT := Lib.hid (hT.alloc (.cells #[.int .i64 y, .int .i64 m, .int .i64 d] 23))
  have HD := Lib.hid hD
  obtain ⟨y0, y1, m0, m1, d0, d1, -⟩ := hD
  have N := Lib.hid (date_bd HD.out)
  clear hT
  have g1 : decide (y < 1970) = false := by simp; omega
  have g2 : decide (9999 < y) = false := by simp; omega
  have g3 : decide (d < 1) = false := by simp; omega
  have g4 : decide (daysI y m < d) = false := by simp; omega
  have L1 := Lib.hid (lps_bd (y := y - 1) (by omega) (by omega))
  have L2 := Lib.hid (lps_bd (y := 1969) (by omega) (by omega))
  have DA := Lib.hid (dayA y0 y1)
  go_enter Tryd.func11, Tryd.ntmps11
  go_wp2
  go_quiet ((go_at_call 9; exact quiet_same (goDays y m _ (HT.out.drewN _))))
  go_wp2
  have hbk : Bk ((w.alloc (.cells #[.int .i64 y, .int .i64 m, .int .i64 d] 23)).drewN nq) w.heap.size 23 #[.int .i64 y, .int .i64 m, .int .i64 d] := Bk.dN (Bk.new _ _ _) nq
  have hbl : Below w.heap.size w ((w.alloc (.cells #[.int .i64 y, .int .i64 m, .int .i64 d] 23)).drewN nq) := below_dN ((Below.refl _ _).alloc (Nat.le_refl _) _) nq
  have HT2 := Lib.hid (HT.out.drewN nq)
  generalize (w.alloc (.cells #[.int .i64 y, .int .i64 m, .int .i64 d] 23)).drewN nq = w2 at hbk hbl HT2 ⊢
  have c0 := hbk.cell 0
  have c1 := hbk.cell 1
  have c2 := hbk.cell 2
  have HB := Lib.hid hbk
  have HL := Lib.hid hbl
  clear hbk hbl HT
  have O1 : Hid (0 ≤ y - 1) := by show _ ≤ _; omega
  have O2 : Hid (y - 1 ≤ 100000) := by show _ ≤ _; omega
  have w1 : IntKind.i64.wrap (y - 1970) = y - 1970 := IntWalk.i64_in _ (by omega)
  have w2 : IntKind.i64.wrap (y - 1) = y - 1 := IntWalk.i64_in _ (by omega)
  have w3 : IntKind.i64.wrap (365 * (y - 1970)) = 365 * (y - 1970) := IntWalk.i64_in _ (by omega)
  have w4 : IntKind.i64.wrap (365 * (y - 1970) + lps (y - 1)) = 365 * (y - 1970) + lps (y - 1) := IntWalk.i64_in _ (by have := L1.out; omega)
  have w5 : IntKind.i64.wrap (365 * (y - 1970) + lps (y - 1) - lps 1969) = 365 * (y - 1970) + lps (y - 1) - lps 1969 := IntWalk.i64_in _ (by have := L1.out; have := L2.out; omega)
  go_quiet ((go_at_call 20; exact quiet_same (goLeaps _ _ (by first | exact O1.out | decide) (by first | exact O2.out | decide))))
  clear w1 w2 w3 w4 w5
  go_wp2
  go_loop [4, 5] (fun v i => ∃ (k : Nat) (V : Int), 1 ≤ k ∧ (k : Int) ≤ m ∧ i = .int .i64 k ∧ v = .int .i64 V ∧ Hid (V = yst y + mst y (k - 1))) (fun _ i => m.toNat - (intOf i).toNat)
  case atStart => exact ⟨1, _, by omega, by omega, rfl, rfl, by rw [DA.out]; show _ = _; simp [mst_zero]⟩
  case round =>
    obtain ⟨k, V, hk0, hk1, rfl, rfl, hV⟩ := hrel
    have v0 : 0 ≤ V := by have := hV.out; have := yst_nn y0; have := mst_nn y (k - 1); omega
    have v1 : V ≤ 3000000 := by
      have h1 := hV.out
      have h2 := yst_hi y0 y1
      have h3 := mst_hi y (show k - 1 ≤ 12 by omega)
      omega
    have db := Lib.hid (days_bd y (k : Nat))
    have db1 := db.out.1
    have db2 := db.out.2
    by_cases hlt : (k : Int) < m
    · have MS := Lib.hid (mst_succ y (k - 1))
      go_wp2_with (go_at_call 9; refine (goDays y (k : Nat) _ (HT2.out.drewN _)).mono ?_; rintro e w' ⟨rfl, rfl⟩)
      go_round
      case rel =>
        refine ⟨k + 1, V + daysI y (k : Nat), by omega, by omega, by go_num, rfl, ?_⟩
        have h1 := MS.out
        have h2 := hV.out
        show _ = _
        rw [show k - 1 + 1 = k by omega] at h1
        rw [show k + 1 - 1 = k by omega]
        omega
      case measure => simp [intOf]; omega
    · have E : Hid (V + (d - 1) = n) := by
        obtain ⟨_, _, _, _, _, _, hn⟩ := HD.out
        have h2 := hV.out
        have e : (m - 1).toNat = k - 1 := by omega
        rw [e] at hn
        show _ = _
        omega
      have e0 : V + (d - 1) ≤ 2932896 := by have := E.out; have := N.out; omega
      have e1 : d ≤ 31 := by have := (days_bd y m).2; omega
      go_wp2
      go_ret2
      exact ⟨ret_ii E.out rfl, below_dN HL.out nq⟩
end Go.Proofs.YtaanmikdhhdeiaaDoor
