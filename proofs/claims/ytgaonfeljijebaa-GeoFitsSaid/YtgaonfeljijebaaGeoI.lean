/-
  The reference's Far. Condition: the cell's numbers are small.
-/
import Derived.Test.YtgaonfeljijebaaGeoH
namespace Go.Proofs.Ytgaonfeljijebaa
open Go.ChangeShapes Go.WideShapes Go.ChangeAt Go.RowKit
set_option linter.unusedVariables false

theorem refAmt (n : Int) (w : World) (h0 : -4096 ≤ n) (h1 : n ≤ 4096) : Calls Try.prog 59 #[.int .i64 n] w fun e w' => e = .returned (.int .i64 (amt n)) ∧ w = w' := by
  by_cases h : n < 0
  · have E : Hid (amt n = -n) := by show _ = _; rw [amt, if_pos h]
    go_enter Try.func59, Try.ntmps59
    go_wp2
    go_ret
    exact ⟨ret_int (by rw [E.out]), rfl⟩
  · have E : Hid (amt n = n) := by show _ = _; rw [amt, if_neg h]
    go_enter Try.func59, Try.ntmps59
    go_wp2
    go_ret
    exact ⟨ret_int (by rw [E.out]), rfl⟩
theorem refAmt_is {n q : Int} {w : World} (h0 : -4096 ≤ n) (h1 : n ≤ 4096) (h : amt n = q) : Calls Try.prog 59 #[.int .i64 n] w fun e w' => e = .returned (.int .i64 q) ∧ w = w' := by rw [← h]; exact refAmt n w h0 h1
set_option maxHeartbeats 1000000 in
theorem refFar (x y : Int) (w : World) (x0 : -4096 ≤ x) (x1 : x ≤ 4096) (y0 : -4096 ≤ y) (y1 : y ≤ 4096) :
    Calls Try.prog 47 #[.agg #[.int .i64 x, .int .i64 y]] w fun e w' => e = .returned (.int .i64 (farC (x, y))) ∧ Below w.heap.size w w' := by
  obtain ⟨a, ha⟩ : ∃ a, Hid (amt x = a) := ⟨_, rfl⟩
  obtain ⟨b, hb⟩ : ∃ b, Hid (amt y = b) := ⟨_, rfl⟩
  have E : Hid (farC (x, y) = if b < a then a else b) := by show _ = _; rw [farC, ha.out, hb.out]
  have e0 : ∀ t : Later (w.alloc (.cells #[.int .i64 x, .int .i64 y] 29)), t.w.cell? ⟨w.heap.size, 0, none⟩ = some (.int .i64 x) := fun t => Later.cell (by first | rfl | simp) t
  have e1 : ∀ t : Later (w.alloc (.cells #[.int .i64 x, .int .i64 y] 29)), t.w.cell? ⟨w.heap.size, 1, none⟩ = some (.int .i64 y) := fun t => Later.cell (by first | rfl | simp) t
  by_cases h : b < a
  · have d : decide (b < a) = true := decide_eq_true h
    have E' : Hid (farC (x, y) = a) := by show _ = _; rw [E.out, if_pos h]
    go_enter Try.func47, Try.ntmps47
    go_wp2_with fail
    refine wp_region_later (by kernel_rfl) (by kernel_rfl) ?_
    repeat (go_big_quiet_step (first | (go_at_call 59; exact calls_still (refAmt_is x0 x1 ha.out)) | (go_at_call 59; exact calls_still (refAmt_is y0 y1 hb.out))))
    refine wpQuiet_nil ?_
    rintro w2 ⟨t, rfl⟩
    have hb2 := t.below
    have q0 := e0 t
    generalize t.w = w2 at hb2 q0 ⊢
    clear e0 e1 t
    go_wp2_with fail
    refine (refAmt_is x0 x1 ha.out).mono ?_
    rintro e w' ⟨rfl, rfl⟩
    go_wp2_with fail
    go_ret
    exact ⟨ret_int E'.out.symm, ((Below.refl _ _).alloc (Nat.le_refl _) _).trans (hb2.mono (by simp))⟩
  · have d : decide (b < a) = false := decide_eq_false h
    have E' : Hid (farC (x, y) = b) := by show _ = _; rw [E.out, if_neg h]
    go_enter Try.func47, Try.ntmps47
    go_wp2_with fail
    refine wp_region_later (by kernel_rfl) (by kernel_rfl) ?_
    repeat (go_big_quiet_step (first | (go_at_call 59; exact calls_still (refAmt_is x0 x1 ha.out)) | (go_at_call 59; exact calls_still (refAmt_is y0 y1 hb.out))))
    refine wpQuiet_nil ?_
    rintro w2 ⟨t, rfl⟩
    have hb2 := t.below
    have q0 := e1 t
    generalize t.w = w2 at hb2 q0 ⊢
    clear e0 e1 t
    go_wp2_with fail
    refine (refAmt_is y0 y1 hb.out).mono ?_
    rintro e w' ⟨rfl, rfl⟩
    go_wp2_with fail
    go_ret
    exact ⟨ret_int E'.out.symm, ((Below.refl _ _).alloc (Nat.le_refl _) _).trans (hb2.mono (by simp))⟩
theorem refFar_is {x y q : Int} {w : World} (x0 : -4096 ≤ x) (x1 : x ≤ 4096) (y0 : -4096 ≤ y) (y1 : y ≤ 4096) (h : farC (x, y) = q) :
    Calls Try.prog 47 #[.agg #[.int .i64 x, .int .i64 y]] w fun e w' => e = .returned (.int .i64 q) ∧ Below w.heap.size w w' := by rw [← h]; exact refFar x y w x0 x1 y0 y1
theorem Try.info4 : (Try.prog.info? 4).map (fun i => (i.zero, i.size, i.bytes)) = some (some (.bool false), 1, 1) := by kernel_rfl
/-- A cell that holds an int does not lie in a block of bools. -/
theorem met_ne {k g : Nat} {L : List Nat} {w : World} {b q : Nat} {x : Int} (h : Met k g L w) (hc : w.cell? ⟨b, q, none⟩ = some (.int .i64 x)) : b ≠ g := by
  rintro rfl
  obtain ⟨cs, h1, h2, h3⟩ := h
  rw [h1.cell q] at hc
  rcases Nat.lt_or_ge q (cellsN k) with hq | hq
  · rw [h3 q hq] at hc; simp at hc
  · rw [Array.getElem?_eq_none (by omega)] at hc; cases hc
theorem keep_at {w w' : World} {p : Addr} {v : Value} (hb : Below w.heap.size w w') (h : w.cell? p = some v) : w'.cell? p = some v := (hb.cell (lt_of_cell h)).trans h
theorem root_facts {n r : Int} (h0 : 0 < n) (h1 : n ≤ 9223372036854775807) (h : IsRoot n r) : 1 ≤ r ∧ r ≤ 4294967295 ∧ r ≤ n / r ∧ ¬ r + 1 ≤ n / (r + 1) := by
  rcases h with ⟨h, _⟩ | ⟨_, hr0, hr1, hr2⟩
  · omega
  have hr : 1 ≤ r := by
    rcases Int.lt_or_le r 1 with h | h
    · obtain rfl : r = 0 := by omega
      omega
    · exact h
  have hb : r ≤ 4294967295 := by
    rcases Int.lt_or_le 4294967295 r with h | h
    · have := sq_le (a := 4294967296) (b := r) (by omega) (by omega)
      omega
    · exact h
  refine ⟨hr, hb, (le_div_iff (by omega)).2 hr1, fun h => ?_⟩
  have := (le_div_iff (x := r + 1) (by omega)).1 h
  omega
theorem goRing_any {r : Nat} {z : Int} {rs : List (Int × Int)} {w : World} (hz : z = r) (h1 : r ≤ 4096) (hr : ringL r = rs) : Calls Try.prog 12 #[.int .i64 z] w (GivesC0 rs w) := by
  rcases Nat.eq_zero_or_pos r with rfl | h0
  · rw [hz, ← hr]; exact goRing_zero w
  · exact goRing_at hz h0 h1 hr
theorem ring_len {r : Nat} (h : r ≤ 4096) : (ringL r).length ≤ 32768 := by
  unfold ringL
  split
  · simp
  · rw [sides_len]; omega
end Go.Proofs.Ytgaonfeljijebaa
