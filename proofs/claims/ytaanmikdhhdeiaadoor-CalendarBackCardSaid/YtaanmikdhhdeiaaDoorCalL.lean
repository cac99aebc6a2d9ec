/-
  The reference's Of, and calendar.Of said of a known date. Condition (Tab, at the latter): the variable calendar.days reads as its text says.
-/
import Derived.Test.YtaanmikdhhdeiaaDoorCalK
namespace Go.Proofs.YtaanmikdhhdeiaaDoor
open Go.ChangeShapes Go.WideShapes Go.ChangeAt Go.RowKit
set_option linter.unusedVariables false

theorem goOf_is (n y m d : Int) (w : World) (hT : Tab w) (hD : IsDate n y m d) : Calls Tryd.prog 13 #[.int .i64 n] w fun e w' => e = .returned (.tuple #[.agg #[.int .i64 y, .int .i64 m, .int .i64 d], .int .i64 0]) ∧ Below w.heap.size w w' :=
  (goOf_yes n w hT (date_bd hD).1 (date_bd hD).2).mono fun e w' ⟨y', m', d', he, hd, hb⟩ => by
    obtain ⟨rfl, rfl, rfl⟩ := date_one hD hd
    exact ⟨he, hb⟩
theorem days_pos (y : Int) {m : Nat} (h0 : 1 ≤ m) (h1 : m ≤ 12) : 1 ≤ daysI y (m : Nat) := by
  unfold daysI
  rw [if_neg (by omega)]
  split
  · omega
  · have e : ((m : Nat) : Int).toNat = m := rfl
    rw [e]
    have : ∀ k, k < 13 → 1 ≤ k → 1 ≤ tabD k := by decide
    exact this m (by omega) h0
set_option maxHeartbeats 2000000 in
theorem refOf_yes (n : Int) (w : World) (h0 : 0 ≤ n) (h1 : n ≤ 2932896) : Calls Tryd.prog 15 #[.int .i64 n] w fun e w' => ∃ y m d : Int, e = .returned (.agg #[.int .i64 y, .int .i64 m, .int .i64 d]) ∧ IsDate n y m d ∧ Below w.heap.size w w' := by
  go_enter Tryd.func15, Tryd.ntmps15
  go_wp2
  go_loopw [4, 5] (fun l x wr => ∃ y r : Int, 1970 ≤ y ∧ y ≤ 9999 ∧ 0 ≤ r ∧ l = .int .i64 r ∧ Hid (yst y + r = n) ∧ Hid (Bk wr w.heap.size 23 #[.int .i64 0, .int .i64 0, .int .i64 0]) ∧ Hid (Bk wr (w.heap.size + 1) 23 #[.int .i64 y, .int .i64 1, .int .i64 1]) ∧ Hid (Below w.heap.size w wr)) (fun l _ _ => (intOf l).toNat)
  case atStart => exact ⟨1970, n, by omega, by omega, h0, rfl, by show _ = _; rw [yst_zero]; omega, (Bk.new _ _ _).alloc _, alloc_new2 _ _ _, ((Below.refl _ _).alloc (Nat.le_refl _) _).alloc (by simp) _⟩
  case round =>
    obtain ⟨y, r, hy0, hy1, hr, rfl, hn, hb0, hb1, hb⟩ := hrel
    have c0 := hb1.out.cell 0
    have c1 := hb1.out.cell 1
    have f0 := hb1.out.free 0
    have f1 := hb1.out.free 1
    have f2 := hb1.out.free 2
    have SY := Lib.hid (yst_succ (y := y) (by omega))
    have YB := Lib.hid (fun (h : 1970 ≤ y + 1) (hr : 0 ≤ r - longI y) => year_bd h hr (by have := hn.out; have := SY.out; omega) h1)
    have rb : r ≤ 2932896 := by have := hn.out; have := yst_nn hy0; omega
    rcases hl : leapB y with _ | _
    all_goals
      have HLe := Lib.hid hl
      clear hl
    · have LI : Hid (longI y = 365) := by show _ = _; rw [longI, HLe.out]; rfl
      by_cases hl : 365 ≤ r
      · go_wp2_with (go_at_call 8; refine (refLeap_is HLe.out).mono ?_; rintro e w' ⟨rfl, rfl⟩)
        go_roundw
        case rel =>
          have sy := SY.out
          have li := LI.out
          have hn' := hn.out
          exact ⟨y + 1, r - 365, by omega, YB.out (by omega) (by omega), by omega, rfl, (by show _ = _; omega), hb0.out.far (by simp) _, hb1.out.put 0 _, hb.out.setCell (by simp) _⟩
        case measure => simp [intOf]; omega
      · go_wp2_with (go_at_call 8; refine (refLeap_is HLe.out).mono ?_; rintro e w' ⟨rfl, rfl⟩)
        have NB : Hid (n < yst (y + 1)) := by have := SY.out; have := LI.out; have := hn.out; show _ < _; omega
        obtain ⟨wo, rfl⟩ : ∃ wo : World, wo = wr := ⟨_, rfl⟩
        go_loopw [4] (fun l wr => ∃ (m : Nat) (r : Int), 0 ≤ r ∧ 1 ≤ m ∧ m ≤ 12 ∧ l = .int .i64 r ∧ Hid (yst y + mst y (m - 1) + r = n ∧ n < yst (y + 1)) ∧ Hid (Bk wr w.heap.size 23 #[.int .i64 0, .int .i64 0, .int .i64 0]) ∧ Hid (Bk wr (w.heap.size + 1) 23 #[.int .i64 y, .int .i64 (m : Nat), .int .i64 1]) ∧ Hid (Below w.heap.size w wr)) (fun l _ => (intOf l).toNat)
        case atStart => exact ⟨1, r, hr, by omega, by omega, rfl, ⟨by have := hn.out; simp [mst_zero]; exact this, NB.out⟩, hb0, hb1, hb⟩
        case round =>
          clear c0 c1 f0 f1 f2 hb0 hb1 hb hn NB rb hl hr SY YB LI HLe
          obtain ⟨m, r, hr, hm0, hm1, rfl, hn, hb0, hb1, hb⟩ := hrel
          have c0 := hb1.out.cell 0
          have c1 := hb1.out.cell 1
          have c2 := hb1.out.cell 2
          have f1 := hb1.out.free 1
          have f2 := hb1.out.free 2
          have db := Lib.hid (days_bd y (m : Nat))
          have db1 := db.out.1
          have db2 := db.out.2
          have rb : r ≤ 2932896 := by have := hn.out.1; have := yst_nn hy0; have := mst_nn y (m - 1); omega
          by_cases hl : daysI y (m : Nat) ≤ r
          · have MB := Lib.hid (month_bd hr hm0 hm1 hn.out hy0 hl)
            have DP : 1 ≤ daysI y (m : Nat) := days_pos y hm0 hm1
            go_wp2_with (go_at_call 10; refine (refDays y (m : Nat) _).mono ?_; rintro e w' ⟨rfl, rfl⟩)
            go_roundw
            case rel =>
              have mb := MB.out
              have hn' := hn.out
              have ms := mst_succ y (m - 1)
              have em : m - 1 + 1 = m := by omega
              rw [em] at ms
              exact ⟨m + 1, r - daysI y (m : Nat), by omega, by omega, by omega, rfl, (by show _ ∧ _; rw [show m + 1 - 1 = m by omega]; omega), hb0.out.far (by simp) _, by rw [show (((m + 1 : Nat)) : Int) = (m : Int) + 1 by omega]; exact hb1.out.put 1 _, hb.out.setCell (by simp) _⟩
            case measure => simp [intOf]; omega
          · have D := Lib.hid (date_made hy0 hy1 hr hm0 hm1 hn.out.1 (by omega))
            have r0 := hb0.out.cell 0
            have r1 := hb0.out.cell 1
            have r2 := hb0.out.cell 2
            have g0 := hb0.out.free 0
            have g1 := hb0.out.free 1
            have g2 := hb0.out.free 2
            have lt1 := hb1.out.lt
            go_wp2_with (go_at_call 10; refine (refDays y (m : Nat) _).mono ?_; rintro e w' ⟨rfl, rfl⟩)
            exact bodyPost_ret (v := .agg #[.int .i64 y, .int .i64 (m : Nat), .int .i64 (r + 1)]) (by simp [results, Tryd.results15, go_sem, r0, r1, r2]) rfl ⟨y, (m : Nat), r + 1, rfl, D.out, (((hb.out.setCell (by simp) _).setCell (by simp) _).setCell (by simp) _).setCell (by simp) _⟩
    · have LI : Hid (longI y = 366) := by show _ = _; rw [longI, HLe.out]; rfl
      by_cases hl : 366 ≤ r
      · go_wp2_with (go_at_call 8; refine (refLeap_is HLe.out).mono ?_; rintro e w' ⟨rfl, rfl⟩)
        go_roundw
        case rel =>
          have sy := SY.out
          have li := LI.out
          have hn' := hn.out
          exact ⟨y + 1, r - 366, by omega, YB.out (by omega) (by omega), by omega, rfl, (by show _ = _; omega), hb0.out.far (by simp) _, hb1.out.put 0 _, hb.out.setCell (by simp) _⟩
        case measure => simp [intOf]; omega
      · go_wp2_with (go_at_call 8; refine (refLeap_is HLe.out).mono ?_; rintro e w' ⟨rfl, rfl⟩)
        have NB : Hid (n < yst (y + 1)) := by have := SY.out; have := LI.out; have := hn.out; show _ < _; omega
        obtain ⟨wo, rfl⟩ : ∃ wo : World, wo = wr := ⟨_, rfl⟩
        go_loopw [4] (fun l wr => ∃ (m : Nat) (r : Int), 0 ≤ r ∧ 1 ≤ m ∧ m ≤ 12 ∧ l = .int .i64 r ∧ Hid (yst y + mst y (m - 1) + r = n ∧ n < yst (y + 1)) ∧ Hid (Bk wr w.heap.size 23 #[.int .i64 0, .int .i64 0, .int .i64 0]) ∧ Hid (Bk wr (w.heap.size + 1) 23 #[.int .i64 y, .int .i64 (m : Nat), .int .i64 1]) ∧ Hid (Below w.heap.size w wr)) (fun l _ => (intOf l).toNat)
        case atStart => exact ⟨1, r, hr, by omega, by omega, rfl, ⟨by have := hn.out; simp [mst_zero]; exact this, NB.out⟩, hb0, hb1, hb⟩
        case round =>
          clear c0 c1 f0 f1 f2 hb0 hb1 hb hn NB rb hl hr SY YB LI HLe
          obtain ⟨m, r, hr, hm0, hm1, rfl, hn, hb0, hb1, hb⟩ := hrel
          have c0 := hb1.out.cell 0
          have c1 := hb1.out.cell 1
          have c2 := hb1.out.cell 2
          have f1 := hb1.out.free 1
          have f2 := hb1.out.free 2
          have db := Lib.hid (days_bd y (m : Nat))
          have db1 := db.out.1
          have db2 := db.out.2
          have rb : r ≤ 2932896 := by have := hn.out.1; have := yst_nn hy0; have := mst_nn y (m - 1); omega
          by_cases hl : daysI y (m : Nat) ≤ r
          · have MB := Lib.hid (month_bd hr hm0 hm1 hn.out hy0 hl)
            have DP : 1 ≤ daysI y (m : Nat) := days_pos y hm0 hm1
            go_wp2_with (go_at_call 10; refine (refDays y (m : Nat) _).mono ?_; rintro e w' ⟨rfl, rfl⟩)
            go_roundw
            case rel =>
              have mb := MB.out
              have hn' := hn.out
              have ms := mst_succ y (m - 1)
              have em : m - 1 + 1 = m := by omega
              rw [em] at ms
              exact ⟨m + 1, r - daysI y (m : Nat), by omega, by omega, by omega, rfl, (by show _ ∧ _; rw [show m + 1 - 1 = m by omega]; omega), hb0.out.far (by simp) _, by rw [show (((m + 1 : Nat)) : Int) = (m : Int) + 1 by omega]; exact hb1.out.put 1 _, hb.out.setCell (by simp) _⟩
            case measure => simp [intOf]; omega
          · have D := Lib.hid (date_made hy0 hy1 hr hm0 hm1 hn.out.1 (by omega))
            have r0 := hb0.out.cell 0
            have r1 := hb0.out.cell 1
            have r2 := hb0.out.cell 2
            have g0 := hb0.out.free 0
            have g1 := hb0.out.free 1
            have g2 := hb0.out.free 2
            have lt1 := hb1.out.lt
            go_wp2_with (go_at_call 10; refine (refDays y (m : Nat) _).mono ?_; rintro e w' ⟨rfl, rfl⟩)
            exact bodyPost_ret (v := .agg #[.int .i64 y, .int .i64 (m : Nat), .int .i64 (r + 1)]) (by simp [results, Tryd.results15, go_sem, r0, r1, r2]) rfl ⟨y, (m : Nat), r + 1, rfl, D.out, (((hb.out.setCell (by simp) _).setCell (by simp) _).setCell (by simp) _).setCell (by simp) _⟩
theorem refOf_is (n y m d : Int) (w : World) (hD : IsDate n y m d) : Calls Tryd.prog 15 #[.int .i64 n] w fun e w' => e = .returned (.agg #[.int .i64 y, .int .i64 m, .int .i64 d]) ∧ Below w.heap.size w w' :=
  (refOf_yes n w (date_bd hD).1 (date_bd hD).2).mono fun e w' ⟨y', m', d', he, hd, hb⟩ => by
    obtain ⟨rfl, rfl, rfl⟩ := date_one hD hd
    exact ⟨he, hb⟩
end Go.Proofs.YtaanmikdhhdeiaaDoor
