/-
  The functions May and Can of the package clean, and those of its reference, return fltB and canB. No conditions but that the numbers are ints.
-/
import Derived.Test.YtgaonfeljijebaaCleanP
namespace Go.Proofs.Ytgaonfeljijebaa
open Go.ChangeShapes Go.WideShapes Go.ChangeAt Go.RowKit
set_option linter.unusedVariables false

theorem cSqr_is {a b c d q : Int} {w : World} (h : sqr a b c d = q) : Calls Try.prog 41 #[.agg #[.int .i64 a, .int .i64 b], .agg #[.int .i64 c, .int .i64 d]] w fun e w' => e = .returned (.int .i64 q) ∧ Below w.heap.size w w' := by rw [← h]; exact goSqr a b c d w
theorem ret_lit {a b : Bool} (h : a = b) : Ending.returned (.bool a) = .returned (.bool b) := by rw [h]
theorem goFlt (s g : Int) (w : World) : Calls Try.prog 18 #[.agg #[.int .i64 s, .int .i64 g]] w fun e w' => e = .returned (.bool (fltB s g)) ∧ w.alloc (.cells #[.int .i64 s, .int .i64 g] 32) = w' := by
  by_cases h1 : 1 ≤ s <;> by_cases h2 : s ≤ 1024 <;> by_cases h3 : 0 ≤ g <;> by_cases h4 : g ≤ 1099511627776
  all_goals first
    | (exfalso; omega)
    | (go_enter Try.func18, Try.ntmps18
       go_wp2
       go_ret
       exact ⟨ret_bool (by rw [fltB]; simp; omega), rfl⟩)
theorem goFlt_is {s g : Int} {b : Bool} {w : World} (h : fltB s g = b) : Calls Try.prog 18 #[.agg #[.int .i64 s, .int .i64 g]] w fun e w' => e = .returned (.bool b) ∧ w.alloc (.cells #[.int .i64 s, .int .i64 g] 32) = w' := by rw [← h]; exact goFlt s g w
theorem refFlt (s g : Int) (w : World) : Calls Try.prog 19 #[.agg #[.int .i64 s, .int .i64 g]] w fun e w' => e = .returned (.bool (fltB s g)) ∧ w.alloc (.cells #[.int .i64 s, .int .i64 g] 32) = w' := by
  by_cases h1 : 1 ≤ s <;> by_cases h2 : s ≤ 1024 <;> by_cases h3 : 0 ≤ g <;> by_cases h4 : g ≤ 1099511627776
  all_goals first
    | (exfalso; omega)
    | (go_enter Try.func19, Try.ntmps19
       go_wp2
       go_ret
       exact ⟨ret_bool (by rw [fltB]; simp; omega), rfl⟩)
theorem refFlt_is {s g : Int} {b : Bool} {w : World} (h : fltB s g = b) : Calls Try.prog 19 #[.agg #[.int .i64 s, .int .i64 g]] w fun e w' => e = .returned (.bool b) ∧ w.alloc (.cells #[.int .i64 s, .int .i64 g] 32) = w' := by rw [← h]; exact refFlt s g w
theorem can_no {s g : Int} {a b : Run} (h : fltB s g = false ∨ may3 a = false ∨ may3 b = false ∨ b.1 < a.1) : canB s g a b = false := by
  unfold canB
  rcases h with h | h | h | h
  · rw [h]; rfl
  · rw [h]; simp
  · rw [h]; simp
  · have : decide (a.1 ≤ b.1) = false := by simp; omega
    rw [this]; simp
theorem can_is {s g : Int} {a b : Run} (h : fltB s g = true) (ha : may3 a = true) (hb : may3 b = true) (ht : a.1 ≤ b.1) : canB s g a b = decide (dist a b ≤ way s a b * way s a b) := by
  unfold canB
  rw [h, ha, hb]
  have : decide (a.1 ≤ b.1) = true := by simpa using ht
  rw [this]; rfl

set_option maxRecDepth 100000 in
set_option maxHeartbeats 2000000 in
theorem goCan (s g t x y t' x' y' : Int) (w : World) : Calls Try.prog 22 #[.agg #[.int .i64 s, .int .i64 g], .agg #[.int .i64 t, .int .i64 x, .int .i64 y], .agg #[.int .i64 t', .int .i64 x', .int .i64 y']] w fun e w' => e = .returned (.bool (canB s g (t, x, y) (t', x', y'))) ∧ Below w.heap.size w w' := by
  rcases hf : fltB s g with _ | _
  · have E : Hid (canB s g (t, x, y) (t', x', y') = false) := can_no (.inl hf)
    have HF := Lib.hid hf
    clear hf
    go_enter Try.func22, Try.ntmps22
    go_wp2_with fail
    refine (goFlt_is HF.out).mono ?_
    rintro e w' ⟨rfl, rfl⟩
    go_wp2_with fail
    go_ret
    exact ⟨ret_bool E.out.symm, ((((Below.refl _ _).alloc (Nat.le_refl _) _).alloc (by simp) _).alloc (by simp; omega) _).alloc (by simp; omega) _⟩
  rcases ha : mayB t x y with _ | _
  · have E : Hid (canB s g (t, x, y) (t', x', y') = false) := can_no (.inr (.inl ha))
    have HF := Lib.hid hf
    have HA := Lib.hid ha
    clear hf ha
    go_enter Try.func22, Try.ntmps22
    go_wp2_with fail
    refine (goFlt_is HF.out).mono ?_
    rintro e w' ⟨rfl, rfl⟩
    go_wp2_with fail
    refine (goMay_is t x y _ HA.out _).mono ?_
    rintro e w' ⟨rfl, rfl⟩
    go_wp2_with fail
    go_ret
    exact ⟨ret_bool E.out.symm, (((((Below.refl _ _).alloc (Nat.le_refl _) _).alloc (by simp) _).alloc (by simp; omega) _).alloc (by simp; omega) _).alloc (by simp; omega) _⟩
  rcases hb : mayB t' x' y' with _ | _
  · have E : Hid (canB s g (t, x, y) (t', x', y') = false) := can_no (.inr (.inr (.inl hb)))
    have HF := Lib.hid hf
    have HA := Lib.hid ha
    have HB := Lib.hid hb
    clear hf ha hb
    go_enter Try.func22, Try.ntmps22
    go_wp2_with fail
    refine (goFlt_is HF.out).mono ?_
    rintro e w' ⟨rfl, rfl⟩
    go_wp2_with fail
    refine (goMay_is t x y _ HA.out _).mono ?_
    rintro e w' ⟨rfl, rfl⟩
    go_wp2_with fail
    refine (goMay_is t' x' y' _ HB.out _).mono ?_
    rintro e w' ⟨rfl, rfl⟩
    go_wp2_with fail
    go_ret
    exact ⟨ret_bool E.out.symm, ((((((Below.refl _ _).alloc (Nat.le_refl _) _).alloc (by simp) _).alloc (by simp; omega) _).alloc (by simp; omega) _).alloc (by simp; omega) _).alloc (by simp; omega) _⟩
  by_cases ht : t' < t
  · have E : Hid (canB s g (t, x, y) (t', x', y') = false) := can_no (.inr (.inr (.inr ht)))
    have HF := Lib.hid hf
    have HA := Lib.hid ha
    have HB := Lib.hid hb
    have m1 := mayB_iff.1 ha
    have m2 := mayB_iff.1 hb
    obtain ⟨t0, t1, _⟩ := m1
    obtain ⟨u0, u1, _⟩ := m2
    clear hf ha hb
    go_enter Try.func22, Try.ntmps22
    go_wp2_with fail
    refine (goFlt_is HF.out).mono ?_
    rintro e w' ⟨rfl, rfl⟩
    go_wp2_with fail
    refine (goMay_is t x y _ HA.out _).mono ?_
    rintro e w' ⟨rfl, rfl⟩
    go_wp2_with fail
    refine (goMay_is t' x' y' _ HB.out _).mono ?_
    rintro e w' ⟨rfl, rfl⟩
    go_wp2_with fail
    go_ret
    exact ⟨ret_bool E.out.symm, ((((((Below.refl _ _).alloc (Nat.le_refl _) _).alloc (by simp) _).alloc (by simp; omega) _).alloc (by simp; omega) _).alloc (by simp; omega) _).alloc (by simp; omega) _⟩
  have hle : t ≤ t' := by omega
  have E : Hid (canB s g (t, x, y) (t', x', y') = decide (dist (t, x, y) (t', x', y') ≤ way s (t, x, y) (t', x', y') * way s (t, x, y) (t', x', y'))) := can_is (a := (t, x, y)) (b := (t', x', y')) hf ha hb hle
  obtain ⟨w0, w1⟩ := way_bd (s := s) (g := g) (a := (t, x, y)) (b := (t', x', y')) hf ha hb hle
  obtain ⟨e0, e1⟩ := dist_bd (a := (t, x, y)) (b := (t', x', y')) ha hb
  have FW : ∀ z : Int, 134217728 ≤ z → dist (t, x, y) (t', x', y') ≤ z * z := fun z hz => far_way (a := (t, x, y)) (b := (t', x', y')) ha hb hz
  have HFW := Lib.hid FW
  obtain ⟨s0, s1, _⟩ := fltB_iff.1 hf
  obtain ⟨t0, t1, x0, x1, y0, y1⟩ := mayB_iff.1 ha
  obtain ⟨u0, u1, v0, v1, z0, z1⟩ := mayB_iff.1 hb
  have HF := Lib.hid hf
  have HA := Lib.hid ha
  have HB := Lib.hid hb
  have ew : Hid (way s (t, x, y) (t', x', y') = s * (t' - t)) := rfl
  rw [ew.out] at w0 w1 E
  have SQ : Hid (sqr x y x' y' = dist (t, x, y) (t', x', y')) := by
    show _ = _
    rw [sqr, if_pos ⟨plc_iff.2 ⟨x0, x1, y0, y1⟩, plc_iff.2 ⟨v0, v1, z0, z1⟩⟩]; rfl
  generalize dist (t, x, y) (t', x', y') = q at e0 e1 E HFW SQ
  clear hf ha hb FW ew ht
  by_cases h1 : s * (t' - t) ≤ 134217728
  · have p0 : 0 ≤ s * (t' - t) * (s * (t' - t)) := Int.mul_nonneg w0 w0
    have p1 : s * (t' - t) * (s * (t' - t)) ≤ 18014398509481984 := by have := sq_le w0 h1; omega
    have HM : Hid (min (s * (t' - t)) 134217728 = s * (t' - t)) := Int.min_eq_left h1
    have HW : Hid (wrap64 (s * (t' - t) * (s * (t' - t))) = s * (t' - t) * (s * (t' - t))) := by show _ = _; unfold wrap64; omega
    go_enter Try.func22, Try.ntmps22
    go_wp2_with fail
    refine (goFlt_is HF.out).mono ?_
    rintro e w' ⟨rfl, rfl⟩
    go_wp2_with fail
    refine (goMay_is t x y _ HA.out _).mono ?_
    rintro e w' ⟨rfl, rfl⟩
    go_wp2_with fail
    refine (goMay_is t' x' y' _ HB.out _).mono ?_
    rintro e w' ⟨rfl, rfl⟩
    go_wp2_with fail
    refine (cSqr_is SQ.out).mono ?_
    rintro e w' ⟨rfl, hb⟩
    go_wp2_with fail
    go_ret
    exact ⟨ret_bool (by rw [HM.out, HW.out, E.out]), (((((((Below.refl _ _).alloc (Nat.le_refl _) _).alloc (by simp) _).alloc (by simp; omega) _).alloc (by simp; omega) _).alloc (by simp; omega) _).alloc (by simp; omega) _).trans (hb.mono (by simp; omega))⟩
  · have G : Hid (canB s g (t, x, y) (t', x', y') = true) := by show _ = _; rw [E.out, decide_eq_true_iff]; exact HFW.out _ (by omega)
    have HM : Hid (min (s * (t' - t)) 134217728 = 134217728) := Int.min_eq_right (by omega)
    have HW : Hid (wrap64 (134217728 * 134217728) = 18014398509481984) := by show _ = _; unfold wrap64; omega
    clear E HFW
    go_enter Try.func22, Try.ntmps22
    go_wp2_with fail
    refine (goFlt_is HF.out).mono ?_
    rintro e w' ⟨rfl, rfl⟩
    go_wp2_with fail
    refine (goMay_is t x y _ HA.out _).mono ?_
    rintro e w' ⟨rfl, rfl⟩
    go_wp2_with fail
    refine (goMay_is t' x' y' _ HB.out _).mono ?_
    rintro e w' ⟨rfl, rfl⟩
    go_wp2_with fail
    refine (cSqr_is SQ.out).mono ?_
    rintro e w' ⟨rfl, hb⟩
    go_wp2_with fail
    go_ret
    exact ⟨ret_bool (by rw [HM.out, HW.out, G.out, decide_eq_true_iff]; omega), (((((((Below.refl _ _).alloc (Nat.le_refl _) _).alloc (by simp) _).alloc (by simp; omega) _).alloc (by simp; omega) _).alloc (by simp; omega) _).alloc (by simp; omega) _).trans (hb.mono (by simp; omega))⟩

set_option maxRecDepth 100000 in
set_option maxHeartbeats 2000000 in
theorem refCan (s g t x y t' x' y' : Int) (w : World) : Calls Try.prog 23 #[.agg #[.int .i64 s, .int .i64 g], .agg #[.int .i64 t, .int .i64 x, .int .i64 y], .agg #[.int .i64 t', .int .i64 x', .int .i64 y']] w fun e w' => e = .returned (.bool (canB s g (t, x, y) (t', x', y'))) ∧ Below w.heap.size w w' := by
  rcases hf : fltB s g with _ | _
  · have E : Hid (canB s g (t, x, y) (t', x', y') = false) := can_no (.inl hf)
    have HF := Lib.hid hf
    clear hf
    go_enter Try.func23, Try.ntmps23
    go_wp2_with fail
    refine (refFlt_is HF.out).mono ?_
    rintro e w' ⟨rfl, rfl⟩
    go_wp2_with fail
    go_ret
    exact ⟨ret_bool E.out.symm, ((((Below.refl _ _).alloc (Nat.le_refl _) _).alloc (by simp) _).alloc (by simp; omega) _).alloc (by simp; omega) _⟩
  rcases ha : mayB t x y with _ | _
  · have E : Hid (canB s g (t, x, y) (t', x', y') = false) := can_no (.inr (.inl ha))
    have HF := Lib.hid hf
    have HA := Lib.hid ha
    clear hf ha
    go_enter Try.func23, Try.ntmps23
    go_wp2_with fail
    refine (refFlt_is HF.out).mono ?_
    rintro e w' ⟨rfl, rfl⟩
    go_wp2_with fail
    refine (refMay_is t x y _ HA.out _).mono ?_
    rintro e w' ⟨rfl, rfl⟩
    go_wp2_with fail
    go_ret
    exact ⟨ret_bool E.out.symm, (((((Below.refl _ _).alloc (Nat.le_refl _) _).alloc (by simp) _).alloc (by simp; omega) _).alloc (by simp; omega) _).alloc (by simp; omega) _⟩
  rcases hb : mayB t' x' y' with _ | _
  · have E : Hid (canB s g (t, x, y) (t', x', y') = false) := can_no (.inr (.inr (.inl hb)))
    have HF := Lib.hid hf
    have HA := Lib.hid ha
    have HB := Lib.hid hb
    clear hf ha hb
    go_enter Try.func23, Try.ntmps23
    go_wp2_with fail
    refine (refFlt_is HF.out).mono ?_
    rintro e w' ⟨rfl, rfl⟩
    go_wp2_with fail
    refine (refMay_is t x y _ HA.out _).mono ?_
    rintro e w' ⟨rfl, rfl⟩
    go_wp2_with fail
    refine (refMay_is t' x' y' _ HB.out _).mono ?_
    rintro e w' ⟨rfl, rfl⟩
    go_wp2_with fail
    go_ret
    exact ⟨ret_bool E.out.symm, ((((((Below.refl _ _).alloc (Nat.le_refl _) _).alloc (by simp) _).alloc (by simp; omega) _).alloc (by simp; omega) _).alloc (by simp; omega) _).alloc (by simp; omega) _⟩
  by_cases ht : t' < t
  · have E : Hid (canB s g (t, x, y) (t', x', y') = false) := can_no (.inr (.inr (.inr ht)))
    have HF := Lib.hid hf
    have HA := Lib.hid ha
    have HB := Lib.hid hb
    have m1 := mayB_iff.1 ha
    have m2 := mayB_iff.1 hb
    obtain ⟨t0, t1, _⟩ := m1
    obtain ⟨u0, u1, _⟩ := m2
    clear hf ha hb
    go_enter Try.func23, Try.ntmps23
    go_wp2_with fail
    refine (refFlt_is HF.out).mono ?_
    rintro e w' ⟨rfl, rfl⟩
    go_wp2_with fail
    refine (refMay_is t x y _ HA.out _).mono ?_
    rintro e w' ⟨rfl, rfl⟩
    go_wp2_with fail
    refine (refMay_is t' x' y' _ HB.out _).mono ?_
    rintro e w' ⟨rfl, rfl⟩
    go_wp2_with fail
    go_ret
    exact ⟨ret_bool E.out.symm, ((((((Below.refl _ _).alloc (Nat.le_refl _) _).alloc (by simp) _).alloc (by simp; omega) _).alloc (by simp; omega) _).alloc (by simp; omega) _).alloc (by simp; omega) _⟩
  have hle : t ≤ t' := by omega
  have E : Hid (canB s g (t, x, y) (t', x', y') = decide (dist (t, x, y) (t', x', y') ≤ way s (t, x, y) (t', x', y') * way s (t, x, y) (t', x', y'))) := can_is (a := (t, x, y)) (b := (t', x', y')) hf ha hb hle
  obtain ⟨w0, w1⟩ := way_bd (s := s) (g := g) (a := (t, x, y)) (b := (t', x', y')) hf ha hb hle
  obtain ⟨e0, e1⟩ := dist_bd (a := (t, x, y)) (b := (t', x', y')) ha hb
  have FW : ∀ z : Int, 134217728 ≤ z → dist (t, x, y) (t', x', y') ≤ z * z := fun z hz => far_way (a := (t, x, y)) (b := (t', x', y')) ha hb hz
  have HFW := Lib.hid FW
  obtain ⟨s0, s1, _⟩ := fltB_iff.1 hf
  obtain ⟨t0, t1, x0, x1, y0, y1⟩ := mayB_iff.1 ha
  obtain ⟨u0, u1, v0, v1, z0, z1⟩ := mayB_iff.1 hb
  have HF := Lib.hid hf
  have HA := Lib.hid ha
  have HB := Lib.hid hb
  have ew : Hid (way s (t, x, y) (t', x', y') = s * (t' - t)) := rfl
  rw [ew.out] at w0 w1 E
  have ed : Hid (dist (t, x, y) (t', x', y') = (x - x') * (x - x') + (y - y') * (y - y')) := rfl
  obtain ⟨p0, p1⟩ := prod_bd (x := x - x') (y := x - x') (B := 67108864) (by omega) (by omega) (by omega) (by omega) (by omega)
  obtain ⟨q0, q1⟩ := prod_bd (x := y - y') (y := y - y') (B := 67108864) (by omega) (by omega) (by omega) (by omega) (by omega)
  by_cases h1 : 268435456 < t' - t
  · have G : Hid (canB s g (t, x, y) (t', x', y') = true) := by
      show _ = _
      rw [E.out, decide_eq_true_iff]
      have h2 : 1 * (t' - t) ≤ s * (t' - t) := Int.mul_le_mul_of_nonneg_right s0 (by omega)
      exact HFW.out _ (by omega)
    clear hf ha hb FW ew ht E HFW ed e0 e1
    go_enter Try.func23, Try.ntmps23
    go_wp2_with fail
    refine (refFlt_is HF.out).mono ?_
    rintro e w' ⟨rfl, rfl⟩
    go_wp2_with fail
    refine (refMay_is t x y _ HA.out _).mono ?_
    rintro e w' ⟨rfl, rfl⟩
    go_wp2_with fail
    refine (refMay_is t' x' y' _ HB.out _).mono ?_
    rintro e w' ⟨rfl, rfl⟩
    go_wp2_with fail
    go_ret
    exact ⟨ret_bool G.out.symm, ((((((Below.refl _ _).alloc (Nat.le_refl _) _).alloc (by simp) _).alloc (by simp; omega) _).alloc (by simp; omega) _).alloc (by simp; omega) _).alloc (by simp; omega) _⟩
  · by_cases h2 : 268435456 < s * (t' - t)
    · have G : Hid (canB s g (t, x, y) (t', x', y') = true) := by
        show _ = _
        rw [E.out, decide_eq_true_iff]
        exact HFW.out _ (by omega)
      clear hf ha hb FW ew ht E HFW ed e0 e1
      go_enter Try.func23, Try.ntmps23
      go_wp2_with fail
      refine (refFlt_is HF.out).mono ?_
      rintro e w' ⟨rfl, rfl⟩
      go_wp2_with fail
      refine (refMay_is t x y _ HA.out _).mono ?_
      rintro e w' ⟨rfl, rfl⟩
      go_wp2_with fail
      refine (refMay_is t' x' y' _ HB.out _).mono ?_
      rintro e w' ⟨rfl, rfl⟩
      go_wp2_with fail
      go_ret
      exact ⟨ret_bool G.out.symm, ((((((Below.refl _ _).alloc (Nat.le_refl _) _).alloc (by simp) _).alloc (by simp; omega) _).alloc (by simp; omega) _).alloc (by simp; omega) _).alloc (by simp; omega) _⟩
    · have r0 : 0 ≤ s * (t' - t) * (s * (t' - t)) := Int.mul_nonneg w0 w0
      have r1 : s * (t' - t) * (s * (t' - t)) ≤ 72057594037927936 := by have := sq_le w0 (show s * (t' - t) ≤ 268435456 by omega); omega
      rw [ed.out] at E
      clear hf ha hb FW ew ht HFW ed e0 e1
      go_enter Try.func23, Try.ntmps23
      go_wp2_with fail
      refine (refFlt_is HF.out).mono ?_
      rintro e w' ⟨rfl, rfl⟩
      go_wp2_with fail
      refine (refMay_is t x y _ HA.out _).mono ?_
      rintro e w' ⟨rfl, rfl⟩
      go_wp2_with fail
      refine (refMay_is t' x' y' _ HB.out _).mono ?_
      rintro e w' ⟨rfl, rfl⟩
      go_wp2_with fail
      go_ret
      exact ⟨ret_bool E.out.symm, ((((((Below.refl _ _).alloc (Nat.le_refl _) _).alloc (by simp) _).alloc (by simp; omega) _).alloc (by simp; omega) _).alloc (by simp; omega) _).alloc (by simp; omega) _⟩
end Go.Proofs.Ytgaonfeljijebaa
