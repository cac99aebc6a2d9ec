/-
  The next date, the date of a day, and that a date's text reads as the date. No conditions.
-/
import Derived.Test.YtaanmikdhhdeiaaDoorCalendarTextsWalk
namespace Go.Proofs.YtaanmikdhhdeiaaDoor
open Go.ChangeShapes Go.WideShapes Go.ChangeAt Go.RowKit
set_option linter.unusedVariables false

theorem next_day {n y m d : Int} (h : IsDate n y m d) (hd : d < daysI y m) : IsDate (n + 1) y m (d + 1) := by
  obtain ⟨h0, h1, h2, h3, h4, h5, h6⟩ := h
  exact ⟨h0, h1, h2, h3, by omega, by omega, by omega⟩
theorem next_month {n y m d : Int} (h : IsDate n y m d) (hd : ¬ d < daysI y m) (hm : m < 12) : IsDate (n + 1) y (m + 1) 1 := by
  obtain ⟨h0, h1, h2, h3, h4, h5, h6⟩ := h
  obtain ⟨k, rfl⟩ : ∃ k : Nat, m = (k + 1 : Nat) := ⟨(m - 1).toNat, by omega⟩
  have e1 : (((k + 1 : Nat) : Int) - 1).toNat = k := by omega
  have e2 : (((k + 1 : Nat) : Int) + 1 - 1).toNat = k + 1 := by omega
  rw [e1] at h6
  have hs := mst_succ y k
  have hp := days_pos y (m := k + 2) (by omega) (by omega)
  refine ⟨h0, h1, by omega, by omega, by omega, ?_, ?_⟩
  · rw [show ((k + 1 : Nat) : Int) + 1 = ((k + 2 : Nat) : Int) by omega]; exact hp
  · rw [e2]; omega
theorem next_year {n y m d : Int} (h : IsDate n y m d) (hd : ¬ d < daysI y m) (hm : ¬ m < 12) (hn : n + 1 ≤ 2932896) : IsDate (n + 1) (y + 1) 1 1 := by
  obtain ⟨h0, h1, h2, h3, h4, h5, h6⟩ := h
  obtain rfl : m = 12 := by omega
  have e1 : ((12 : Int) - 1).toNat = 11 := rfl
  rw [e1] at h6
  have hs := mst_succ y 11
  have hy := mst_year y
  have hy2 := yst_succ (y := y) (by omega)
  have e3 : ((11 + 1 : Nat) : Int) = 12 := rfl
  rw [e3] at hs
  have e4 : mst y 12 = mst y (11 + 1) := rfl
  have hp := days_pos (y + 1) (m := 1) (by omega) (by omega)
  have hyy : n + 1 = yst (y + 1) := by omega
  have hb := year_bd (y := y + 1) (r := 0) (n := n + 1) (by omega) (by omega) (by omega) hn
  refine ⟨by omega, hb, by omega, by omega, by omega, hp, ?_⟩
  show n + 1 = yst (y + 1) + 0 + (1 - 1)
  omega
theorem find_at {f : Nat → Int} {n : Int} (h0 : f 0 ≤ n) : ∀ k, n < f k → ∃ j, j < k ∧ f j ≤ n ∧ n < f (j + 1)
  | 0, h => by omega
  | k + 1, h => by
    rcases Int.lt_or_le n (f k) with h1 | h1
    · obtain ⟨j, hj, h2⟩ := find_at h0 k h1
      exact ⟨j, by omega, h2⟩
    · exact ⟨k, by omega, h1, h⟩
theorem date_of (n : Int) (h0 : 0 ≤ n) (h1 : n ≤ 2932896) : ∃ y m d, IsDate n y m d := by
  obtain ⟨j, hj, hy0, hy1⟩ := find_at (f := fun j => yst (1970 + (j : Nat))) (n := n) (by simp [yst_zero]; exact h0) 8030 (by show n < yst 10000; rw [yst_end]; omega)
  have e : (1970 : Int) + ((j + 1 : Nat) : Int) = 1970 + (j : Int) + 1 := by omega
  rw [e] at hy1
  have hys := yst_succ (y := 1970 + (j : Int)) (by omega)
  obtain ⟨k, hk, hm0, hm1⟩ := find_at (f := fun k => mst (1970 + (j : Nat)) k) (n := n - yst (1970 + (j : Nat))) (by rw [mst_zero]; omega) 12 (by rw [mst_year]; omega)
  have hms := mst_succ (1970 + (j : Nat)) k
  refine ⟨1970 + (j : Nat), ((k + 1 : Nat) : Int), n - yst (1970 + (j : Nat)) - mst (1970 + (j : Nat)) k + 1, by omega, by omega, by omega, by omega, by omega, by omega, ?_⟩
  rw [show (((k + 1 : Nat) : Int) - 1).toNat = k by omega]
  omega
theorem last_day : IsDate 2932896 9999 12 31 := by unfold IsDate; decide
theorem goWeek_is (n A : Int) (w : World) (h0 : 0 ≤ n) (h1 : n ≤ 2932896) (h : (n + 3) % 7 = A) : Calls Tryd.prog 14 #[.int .i64 n] w fun e w' => e = .returned (.tuple #[.int .i64 A, .int .i64 0]) ∧ w = w' := by rw [← h]; exact goWeek_yes n w h0 h1
theorem bt_txt {y m d : Int} {k : Nat} {x : Int} (h : (nums y m d)[k]? = some x) (h0 : 0 ≤ x) (h1 : x ≤ 255) : bt (txt y m d) k = x := by
  unfold bt txt
  rw [strOfNums_data, List.getElem?_map, h]
  show (((UInt8.ofNat x.toNat).toNat : Nat) : Int) = x
  have e : (UInt8.ofNat x.toNat).toNat = x.toNat := by
    rw [UInt8.toNat_ofNat']
    exact Nat.mod_eq_of_lt (by omega)
  rw [e]
  omega
theorem nums_eq (y m d : Int) : nums y m d = [48 + y / 1000 % 10, 48 + y / 100 % 10, 48 + y / 10 % 10, 48 + y / 1 % 10, 45, 48 + m / 10 % 10, 48 + m / 1 % 10, 45, 48 + d / 10 % 10, 48 + d / 1 % 10] := rfl
theorem txt_read {n y m d : Int} (h : IsDate n y m d) : IsRead (txt y m d) y m d 0 := by
  have hv := date_vld h
  have hd31 := (days_bd y m).2
  obtain ⟨y0, y1, m0, m1, d0, d1, -⟩ := h
  have t : ∀ k x, [48 + y / 1000 % 10, 48 + y / 100 % 10, 48 + y / 10 % 10, 48 + y / 1 % 10, 45, 48 + m / 10 % 10, 48 + m / 1 % 10, 45, 48 + d / 10 % 10, 48 + d / 1 % 10][k]? = some x → 0 ≤ x → x ≤ 255 → bt (txt y m d) k = x := fun k x hx h0 h1 => bt_txt (by rw [nums_eq]; exact hx) h0 h1
  have t0 := t 0 _ rfl (by omega) (by omega)
  have t1 := t 1 _ rfl (by omega) (by omega)
  have t2 := t 2 _ rfl (by omega) (by omega)
  have t3 := t 3 _ rfl (by omega) (by omega)
  have t4 := t 4 _ rfl (by omega) (by omega)
  have t5 := t 5 _ rfl (by omega) (by omega)
  have t6 := t 6 _ rfl (by omega) (by omega)
  have t7 := t 7 _ rfl (by omega) (by omega)
  have t8 := t 8 _ rfl (by omega) (by omega)
  have t9 := t 9 _ rfl (by omega) (by omega)
  have eY : pY (txt y m d) 10 = y := by
    simp only [pY, pN]
    simp
    rw [t0, t1, t2, t3]
    omega
  have eM : pM (txt y m d) 10 = m := by
    simp only [pM, pN]
    simp
    rw [t5, t6]
    omega
  have eD : pD (txt y m d) 10 = d := by
    simp only [pD, pN]
    simp
    rw [t8, t9]
    omega
  have hg : Good (txt y m d) := by
    refine ⟨by rw [txt, nums_size]; rfl, fun j hj => ?_⟩
    unfold okAt
    match j, hj with
    | 0, _ => rw [if_neg (by omega), t0]; omega
    | 1, _ => rw [if_neg (by omega), t1]; omega
    | 2, _ => rw [if_neg (by omega), t2]; omega
    | 3, _ => rw [if_neg (by omega), t3]; omega
    | 4, _ => rw [if_pos (.inl rfl), t4]
    | 5, _ => rw [if_neg (by omega), t5]; omega
    | 6, _ => rw [if_neg (by omega), t6]; omega
    | 7, _ => rw [if_pos (.inr rfl), t7]
    | 8, _ => rw [if_neg (by omega), t8]; omega
    | 9, _ => rw [if_neg (by omega), t9]; omega
  exact .inr (.inr ⟨hg, by rw [eY, eM, eD]; exact hv, eY.symm, eM.symm, eD.symm, rfl⟩)
end Go.Proofs.YtaanmikdhhdeiaaDoor
