/-
  geo.Ring returns the cells of ringL, or none. No conditions but that the number is an int.
-/
import Derived.Test.YtgaonfeljijebaaRingR
import Derived.Test.YtgaonfeljijebaaFloT
namespace Go.Proofs.Ytgaonfeljijebaa
open Go.ChangeShapes Go.WideShapes Go.ChangeAt Go.RowKit
set_option linter.unusedVariables false

/-- A step along side s, as floats: what is 0 may be -0. -/
def stepX : Nat → Nat | 0 => 0 | 1 => fl (-1) | 2 => 9223372036854775808 | 3 => fl 1 | _ => 0
def stepY : Nat → Nat | 0 => fl 1 | 1 => 0 | 2 => fl (-1) | 3 => 9223372036854775808 | _ => fl 1
theorem step_mul : ∀ s, s < 4 → cMulBits (stepX s) (stepY s) 0 4607182418800017408 = some (stepX (s + 1), stepY (s + 1))
  | 0, _ => by decide +kernel
  | 1, _ => by decide +kernel
  | 2, _ => by decide +kernel
  | 3, _ => by decide +kernel
theorem one_bits : fl 1 = 4607182418800017408 := by decide +kernel
theorem add_x {z : Int} (h0 : -4096 ≤ z) (h1 : z ≤ 4096) : ∀ s, s < 4 → floatBits .add .f64 (fl z) (stepX s) = some (fl (z + dirX s))
  | 0, _ => by have := (fl_facts h0 h1).2.2.1; simpa [stepX, dirX] using this
  | 1, _ => (fl_facts h0 h1).2.1
  | 2, _ => by have := (fl_facts h0 h1).2.2.2.1; simpa [stepX, dirX] using this
  | 3, _ => (fl_facts h0 h1).1
theorem add_y {z : Int} (h0 : -4096 ≤ z) (h1 : z ≤ 4096) : ∀ s, s < 4 → floatBits .add .f64 (fl z) (stepY s) = some (fl (z + dirY s))
  | 0, _ => (fl_facts h0 h1).1
  | 1, _ => by have := (fl_facts h0 h1).2.2.1; simpa [stepY, dirY] using this
  | 2, _ => (fl_facts h0 h1).2.1
  | 3, _ => by have := (fl_facts h0 h1).2.2.2.1; simpa [stepY, dirY] using this
theorem step_add {r s k : Nat} (hr : r ≤ 4096) (hs : s < 4) (hk : k ≤ 2 * r) : cSumBits .add .f64 (fl (ptX r s k)) (fl (ptY r s k)) (stepX s) (stepY s) = some (fl (ptX r s (k + 1)), fl (ptY r s (k + 1))) := by
  obtain ⟨a, b, c, d⟩ := pt_bd r s k hs hk
  rw [cSumBits, add_x (by omega) (by omega) s hs, add_y (by omega) (by omega) s hs, (pt_step r s k).1, (pt_step r s k).2]
  rfl

theorem goCell (x y : Int) (w : World) (x0 : -4096 ≤ x) (x1 : x ≤ 4096) (y0 : -4096 ≤ y) (y1 : y ≤ 4096) :
    Calls Try.prog 48 #[.complex .f64 (fl x) (fl y)] w fun e w' => e = .returned (.agg #[.int .i64 x, .int .i64 y]) ∧ w.alloc (.cells #[.int .i64 x, .int .i64 y] 29) = w' := by
  have hx := (fl_facts x0 x1).2.2.2.2
  have hy := (fl_facts y0 y1).2.2.2.2
  have cx : ∀ w : World, (convert 78 3 (.float .f64 (fl x))).run Try.prog w = .ok (.int .i64 x) w := fun w => run_convert_float_int w 78 3 .f64 .i64 _ x (by kernel_rfl) Try.underlying3 hx
  have cy : ∀ w : World, (convert 78 3 (.float .f64 (fl y))).run Try.prog w = .ok (.int .i64 y) w := fun w => run_convert_float_int w 78 3 .f64 .i64 _ y (by kernel_rfl) Try.underlying3 hy
  clear hx hy
  go_enter Try.func48, Try.ntmps48
  go_wp2
  refine bodyPost_ret (v := .agg #[.int .i64 x, .int .i64 y]) (by simp [results, Try.results48, go_sem]) rfl ⟨rfl, rfl⟩

theorem goRing_none (r : Int) (w : World) (h : r < 0 ∨ 4096 < r) : Calls Try.prog 12 #[.int .i64 r] w fun e w' => e = .returned (.tuple #[.slice none 0 0, .int .i64 3]) ∧ w = w' := by
  by_cases h0 : r < 0
  · clear h
    go_enter Try.func12, Try.ntmps12
    go_wp2
    go_ret2
    exact ⟨rfl, rfl⟩
  · have h1 : 4096 < r := by omega
    clear h
    go_enter Try.func12, Try.ntmps12
    go_wp2
    go_ret2
    exact ⟨rfl, rfl⟩
/-- A call hands back these cells, and no error. -/
def GivesC0 (rs : List (Int × Int)) (w : World) (e : Ending) (w' : World) : Prop :=
  ∃ A N c, e = .returned (.tuple #[.slice A N c, .int .i64 0]) ∧ Rd two 2 w' A N rs ∧ Below w.heap.size w w'
theorem goRing_zero (w : World) : Calls Try.prog 12 #[.int .i64 0] w (GivesC0 (ringL 0) w) := by
  go_enter Try.func12, Try.ntmps12
  go_wp2
  go_ret2
  exact ⟨_, _, _, rfl, Rd.made two 2 w 29 [(0, 0)] #[.int .i64 0, .int .i64 0] (by simp [two]) rfl, (Below.refl _ _).alloc (Nat.le_refl _) _⟩

set_option maxRecDepth 100000 in
set_option maxHeartbeats 1600000 in
theorem goRing (r : Nat) (w : World) (h0 : 0 < r) (h1 : r ≤ 4096) : Calls Try.prog 12 #[.int .i64 r] w (GivesC0 (ringL r) w) := by
  obtain ⟨i0, hi, hz0, hz1, hz2⟩ := info_parts Try.info29
  have b0 : ((r : Int) == 0) = false := by simp; omega
  go_enter Try.func12, Try.ntmps12
  go_wp2_with (at_make; refine wpList_make_own _ rfl _ _ 23 rfl w.heap.size 29 i0 _ 2 Try.underlying23 hi hz0 hz1 .i64 .i64 _ (8 * r) rfl rfl (by omega) (by rw [hz2]; omega) (by unfold maxLen; omega) (Nat.le_refl _) ?_; intro w1 hown' hgrow; have HO := Lib.hid hown'; have hb := (Below.refl w.heap.size w).grown hgrow (Nat.le_refl _) (fun k hk => by cases hk); clear hown' hgrow)
  go_loopw [26, 4, 5, 6] (fun i v a st wr => ∃ s : Nat, s ≤ 4 ∧ i = .int .i64 s ∧ Hid (a = .complex .f64 (fl (cornX r s)) (fl (cornY r s))) ∧ Hid (st = .complex .f64 (stepX s) (stepY s)) ∧ Hid (wr.ownsRow w.heap.size 29 2 v (s * (2 * r)) (cellsC (sides r s))) ∧ Below w.heap.size w wr) (fun i _ _ _ _ => 4 - (intOf i).toNat)
  case atStart => exact ⟨0, by omega, rfl, rfl, by show _ = _; rw [stepX, stepY, one_bits], by show World.ownsRow _ _ _ _ _ _ _; simpa [sides, cellsC] using HO.out, hb⟩
  case round =>
    clear HO hb
    obtain ⟨s, hs, rfl, ha, hst, hO, hb⟩ := hrel
    have hsz := hb.size
    obtain rfl := ha.out
    obtain rfl := hst.out
    clear ha hst
    by_cases hlt : s < 4
    · have hsr : s * (2 * r) ≤ 3 * (2 * r) := Nat.mul_le_mul_right _ (by omega)
      obtain ⟨NS, hNS⟩ : ∃ NS, Hid (s * (2 * r) = NS) := ⟨_, rfl⟩
      rw [hNS.out] at hO hsr
      have r2 : 0 ≤ 2 * (r : Int) := by omega
      have d4 : decide ((s : Int) < 4) = true := by simp; omega
      go_wp2_with fail
      go_loopw [30, 4, 5] (fun i v a wr => ∃ k : Nat, k ≤ 2 * r ∧ i = .int .i64 k ∧ Hid (a = .complex .f64 (fl (ptX r s k)) (fl (ptY r s k))) ∧ Hid (wr.ownsRow w.heap.size 29 2 v (NS + k) (cellsC (sides r s ++ side r s k))) ∧ Below w.heap.size w wr) (fun i _ _ _ => 2 * r - (intOf i).toNat)
      case atStart => exact ⟨0, by omega, rfl, by show _ = _; simp [ptX, ptY], by show World.ownsRow _ _ _ _ _ _ _; simpa [side] using hO.out, hb⟩
      case round =>
        clear hO hb hsz
        obtain ⟨k, hk, rfl, ha, hO, hb⟩ := hrel
        have hsz := hb.size
        obtain rfl := ha.out
        clear ha
        by_cases hlk : k < 2 * r
        · obtain ⟨p0, p1, p2, p3⟩ := pt_bd r s (k + 1) hlt (by omega)
          have hadd : ∀ w : World, (binOp .add 77 (.complex .f64 (fl (ptX r s k)) (fl (ptY r s k))) (.complex .f64 (stepX s) (stepY s))).run Try.prog w = .ok (.complex .f64 (fl (ptX r s (k + 1))) (fl (ptY r s (k + 1)))) w := fun w => run_complex_sum w .add (.inl rfl) 77 .f64 _ _ _ _ _ _ (step_add h1 hlt hk)
          have EX : Hid (∀ v' (w1 : World), w1.ownsRow w.heap.size 29 2 v' (NS + k + 1) (cellsC (sides r s ++ side r s k) ++ [.int .i64 (ptX r s (k + 1)), .int .i64 (ptY r s (k + 1))]) → w1.ownsRow w.heap.size 29 2 v' (NS + (k + 1)) (cellsC (sides r s ++ side r s (k + 1)))) := fun v' w1 h => own_more h rfl rfl
          have HAT : Hid (Value.complex .f64 (fl (ptX r s (k + 1))) (fl (ptY r s (k + 1))) = .complex .f64 (fl (ptX r s (k + 1))) (fl (ptY r s (k + 1)))) := rfl
          obtain ⟨X, hX⟩ : ∃ X, Hid (ptX r s (k + 1) = X) := ⟨_, rfl⟩
          obtain ⟨Y, hY⟩ : ∃ Y, Hid (ptY r s (k + 1) = Y) := ⟨_, rfl⟩
          rw [hX.out] at p0 p1 hadd EX
          rw [hY.out] at p2 p3 hadd EX
          clear HAT
          have HAT : Hid (Value.complex .f64 (fl X) (fl Y) = .complex .f64 (fl (ptX r s (k + 1))) (fl (ptY r s (k + 1)))) := by show _ = _; rw [hX.out, hY.out]
          go_wp2_with (first
            | (go_at_call 48; refine (goCell _ _ _ (by omega) (by omega) (by omega) (by omega)).mono ?_; rintro e w' ⟨rfl, rfl⟩)
            | (at_builtin; refine wpList_append_own _ rfl _ _ 23 rfl w.heap.size 29 i0 _ 2 16 Try.underlying23 hi hz0 hz1 hz2 rfl (by omega) _ _ _ rfl ((hO.out.alloc _).alloc _) ⟨wr.heap.size + 1, 0, none⟩ 1 1 [.int .i64 X, .int .i64 Y] rfl rfl (World.news_of_block (cs := #[.int .i64 X, .int .i64 Y]) (t := 29) (fr := (0, 0)) (alloc_new2 wr _ _)) (by simp [Value.oneCell']) (by unfold maxLen; omega) (by omega) (by simp; omega) ?_; intro v' w1 hown' hgrow _; have HO := Lib.hid hown'; have hb2 := ((hb.alloc hsz _).alloc (by simp; omega) _).grown hgrow (by simp; omega) (fun j hj => (hO.out.lt j hj).1); clear hown' hgrow))
          go_roundw
          case rel => exact ⟨k + 1, by omega, by go_num, HAT.out, EX.out _ _ HO.out, hb2⟩
          case measure => simp [intOf]; omega
        · obtain rfl : k = 2 * r := by omega
          have hmul : ∀ w : World, (binOp .mul 77 (.complex .f64 (stepX s) (stepY s)) (.complex .f64 0 4607182418800017408)).run Try.prog w = .ok (.complex .f64 (stepX (s + 1)) (stepY (s + 1))) w := fun w => run_complex_mul w 77 _ _ _ _ _ _ (step_mul s hlt)
          go_wp2_with fail
          go_roundw
          case rel => exact ⟨s + 1, by omega, by go_num, by show _ = _; rw [(pt_end r s hlt).1, (pt_end r s hlt).2], rfl, by show World.ownsRow _ _ _ _ _ _ _; rw [sides, Nat.succ_mul, hNS.out]; exact hO.out, hb⟩
          case measure => simp [intOf]; omega
    · obtain rfl : s = 4 := by omega
      go_wp2_with fail
      go_ret2
      obtain ⟨A, c, rfl, hR⟩ := rdOwn2 hO.out
      exact ⟨A, _, c, rfl, by rw [ringL, if_neg (by omega)]; exact hR, hb⟩
end Go.Proofs.Ytgaonfeljijebaa
