/-
  The law ConcessionFits returns true, for every list of shares, class and two prices, and leaves what was there as it was. No conditions but the arguments' readings.
-/
import Derived.Test.YtjnkokfneinjeaaConc
import Derived.Outline
namespace Go.Proofs.Ytjnkokfneinjeaa.concessionFitsWalk
open Go.ChangeShapes Go.WideShapes Go.ChangeAt Go.RowKit
set_option linter.unusedVariables false

theorem plain {x y s : Int} (hx : 0 ≤ x) (hy : 0 ≤ y) (hs : 0 ≤ s) (hs' : s ≤ 1000) :
    0 ≤ x * s / 1000 ∧ x * s / 1000 ≤ x ∧ (x < y ∨ y * s / 1000 ≤ x * s / 1000) ∧ (y < x ∨ x * s / 1000 ≤ y * s / 1000) ∧ x * s / 1000 + y * s / 1000 ≤ (x + y) * s / 1000 ∧ (x + y) * s / 1000 ≤ x * s / 1000 + y * s / 1000 + 1 := by
  have h1 : 0 ≤ x * s := Int.mul_nonneg hx hs
  have h2 : x * s ≤ x * 1000 := Int.mul_le_mul_of_nonneg_left hs' hx
  have h3 : (x + y) * s = x * s + y * s := Int.add_mul _ _ _
  have h4 : x < y ∨ y * s ≤ x * s := by
    rcases Int.lt_or_le x y with h | h
    · exact .inl h
    · exact .inr (Int.mul_le_mul_of_nonneg_right h hs)
  have h5 : y < x ∨ x * s ≤ y * s := by
    rcases Int.lt_or_le y x with h | h
    · exact .inl h
    · exact .inr (Int.mul_le_mul_of_nonneg_right h hs)
  rw [h3]
  generalize x * s = u at *
  generalize y * s = v at *
  omega

theorem short (A0 : Option Addr) (n0 c0 : Nat) (l0 : List Int) (a1 : Int) (s2a s2b : Int) (w : World) (rd0 : Rd one 1 w A0 n0 l0) (hm : n0 ≤ 9223372036854775807)
    (hno : 100 < n0 ∨ ¬ (0 ≤ s2a ∧ 0 ≤ s2b ∧ s2a ≤ 140737488355328 ∧ s2b ≤ 140737488355328)) :
    Calls Try.prog 4 #[.slice A0 n0 c0, .int .i64 a1, .agg #[.int .i64 s2a, .int .i64 s2b]] w fun e w' => e = .returned (.bool true) ∧ Below w.heap.size w w' := by
  by_cases h100 : 100 < n0
  · clear hno
    go_enter Try.func4, Try.ntmps4
    go_wp2_with (go_at_call 11; refine (awake28 _).mono ?_; rintro e w1 ⟨rfl, hb⟩)
    go_ret
    exact ⟨rfl, below_boxed hb⟩
  have hno : (s2a < 0 ∨ 0 ≤ s2a ∧ s2b < 0 ∨ 0 ≤ s2a ∧ 0 ≤ s2b ∧ 140737488355328 < s2a ∨ 0 ≤ s2a ∧ 0 ≤ s2b ∧ s2a ≤ 140737488355328 ∧ 140737488355328 < s2b) := by omega
  rcases hno with p0 | ⟨p0, p1⟩ | ⟨p0, p1, p2⟩ | ⟨p0, p1, p2, p3⟩
  all_goals
    go_enter Try.func4, Try.ntmps4
    go_wp2_with (go_at_call 11; refine (awake28 _).mono ?_; rintro e w1 ⟨rfl, hb⟩; have x0 := boxed_cell hb 0; have x1 := boxed_cell hb 1)
    go_quiet (fail)
    go_wp2_with fail
    go_ret
    exact ⟨rfl, below_dN (below_boxed hb) _⟩

theorem tells (A0 : Option Addr) (n0 c0 : Nat) (l0 : List Int) (a1 : Int) (s2a s2b : Int) (w : World) (rd0 : Rd one 1 w A0 n0 l0) (hm : n0 ≤ 9223372036854775807) (h100 : n0 ≤ 100)
    (p0 : 0 ≤ s2a) (p1 : 0 ≤ s2b) (p2 : s2a ≤ 140737488355328) (p3 : s2b ≤ 140737488355328) (hr : rightB l0 = true) (h0 : 0 ≤ a1) (h1 : a1 < n0) :
    Calls Try.prog 4 #[.slice A0 n0 c0, .int .i64 a1, .agg #[.int .i64 s2a, .int .i64 s2b]] w fun e w' => e = .returned (.bool true) ∧ Below w.heap.size w w' := by
  have hx : l0[a1.toNat]? = some (l0[a1.toNat]'(by have := rd0.1; omega)) := List.getElem?_eq_getElem (by have := rd0.1; omega)
  generalize l0[a1.toNat]'(by have := rd0.1; omega) = x at hx
  have hz : l0[(0 : Int).toNat]? = some 1000 := by simp [rightB] at hr; simpa using hr.1.2.2
  obtain ⟨hs0, hs1⟩ := share_bd hr hx
  have HX := Lib.hid hx
  have HZ := Lib.hid hz
  clear hx hz
  have p4 : 0 ≤ s2a + s2b := by omega
  have p5 : s2a + s2b ≤ 281474976710656 := by omega
  have q2 : s2a ≤ 281474976710656 := by omega
  have q3 : s2b ≤ 281474976710656 := by omega
  obtain ⟨k1, k2, k3, k4, k5, k6⟩ := plain (x := s2a) (y := s2b) p0 p1 hs0 hs1
  obtain ⟨j1, j2, _⟩ := plain (x := s2b) (y := s2a) p1 p0 hs0 hs1
  have K3 := Lib.hid k3
  have K4 := Lib.hid k4
  clear k3 k4 hs0 hs1
  go_enter Try.func4, Try.ntmps4
  go_wp2_with (go_at_call 11; refine (awake28 _).mono ?_; rintro e w1 ⟨rfl, hb⟩; have x0 := boxed_cell hb 0; have x1 := boxed_cell hb 1; have rd1 := (rd0.alloc _).below hb (Nat.le_refl _))
  go_quiet (fail)
  clear x0 x1
  have rd2 := rd1.drewN nq
  go_wp2_with fail
  refine (apply_yes _ _ _ _ _ _ _ _ rd2 hm hr h0 HX.out p0 q2).mono ?_
  rintro e w' ⟨rfl, rfl⟩
  go_wp2_with fail
  refine (apply_yes _ _ _ _ _ _ _ _ rd2 hm hr h0 HX.out p1 q3).mono ?_
  rintro e w' ⟨rfl, rfl⟩
  go_wp2_with fail
  refine (apply_yes _ _ _ _ _ _ _ _ rd2 hm hr h0 HX.out p4 p5).mono ?_
  rintro e w' ⟨rfl, rfl⟩
  go_wp2_with fail
  refine (apply_yes _ _ _ _ _ _ _ _ rd2 hm hr (by omega) HZ.out p0 q2).mono ?_
  rintro e w' ⟨rfl, rfl⟩
  rcases Int.lt_trichotomy s2a s2b with ht | ht | ht
  · have k4 := K4.out.resolve_left (by omega)
    go_wp2_with fail
    go_ret
    exact ⟨ret_bool (by first | rfl | (simp; omega)), below_dN (below_boxed hb) _⟩
  · subst ht
    have k4 := K4.out.resolve_left (by omega)
    go_wp2_with fail
    go_ret
    exact ⟨ret_bool (by first | rfl | (simp; omega)), below_dN (below_boxed hb) _⟩
  · have k3 := K3.out.resolve_left (by omega)
    go_wp2_with fail
    go_ret
    exact ⟨ret_bool (by first | rfl | (simp; omega)), below_dN (below_boxed hb) _⟩

theorem refused (A0 : Option Addr) (n0 c0 : Nat) (l0 : List Int) (a1 : Int) (s2a s2b : Int) (w : World) (rd0 : Rd one 1 w A0 n0 l0) (hm : n0 ≤ 9223372036854775807) (h100 : n0 ≤ 100)
    (p0 : 0 ≤ s2a) (p1 : 0 ≤ s2b) (p2 : s2a ≤ 140737488355328) (p3 : s2b ≤ 140737488355328) (hno : ¬ (rightB l0 = true ∧ 0 ≤ a1 ∧ a1 < n0)) :
    Calls Try.prog 4 #[.slice A0 n0 c0, .int .i64 a1, .agg #[.int .i64 s2a, .int .i64 s2b]] w fun e w' => e = .returned (.bool true) ∧ Below w.heap.size w w' := by
  have no : ∀ p, ¬ may l0 a1 p := fun p h => hno ⟨h.1, h.2.1, by rw [rd0.1]; exact h.2.2.1⟩
  have NO := Lib.hid no
  clear hno no
  have p4 : 0 ≤ s2a + s2b := by omega
  have p5 : s2a + s2b ≤ 281474976710656 := by omega
  go_enter Try.func4, Try.ntmps4
  go_wp2_with (go_at_call 11; refine (awake28 _).mono ?_; rintro e w1 ⟨rfl, hb⟩; have x0 := boxed_cell hb 0; have x1 := boxed_cell hb 1; have rd1 := (rd0.alloc _).below hb (Nat.le_refl _))
  go_quiet (fail)
  clear x0 x1
  have rd2 := rd1.drewN nq
  go_wp2_with (go_at_call 12; refine (apply_no _ _ _ _ _ _ _ rd2 hm (NO.out _)).mono ?_; rintro e w' ⟨rfl, rfl⟩)
  go_ret
  exact ⟨rfl, below_dN (below_boxed hb) _⟩

theorem walk (A0 : Option Addr) (n0 c0 : Nat) (l0 : List Int) (a1 : Int) (s2a s2b : Int) (w : World) (rd0 : Rd one 1 w A0 n0 l0) (ft0 : ∀ r ∈ l0, Fits r) (ge0 : n0 ≤ c0) (mx0 : c0 ≤ maxLen) (w1 : (Lit.int .i64 a1).wf = true) (ws2a : (Lit.int .i64 s2a).wf = true) (ws2b : (Lit.int .i64 s2b).wf = true) :
    Calls Try.prog 4 #[.slice A0 n0 c0, .int .i64 a1, .agg #[.int .i64 s2a, .int .i64 s2b]] w fun e w' => e = .returned (.bool true) ∧ Below w.heap.size w w' := by
  have hm : n0 ≤ 9223372036854775807 := by unfold maxLen at mx0; omega
  by_cases hs : 100 < n0 ∨ ¬ (0 ≤ s2a ∧ 0 ≤ s2b ∧ s2a ≤ 140737488355328 ∧ s2b ≤ 140737488355328)
  · exact short A0 n0 c0 l0 a1 s2a s2b w rd0 hm hs
  · by_cases hr : rightB l0 = true ∧ 0 ≤ a1 ∧ a1 < n0
    · exact tells A0 n0 c0 l0 a1 s2a s2b w rd0 hm (by omega) (by omega) (by omega) (by omega) (by omega) hr.1 hr.2.1 hr.2.2
    · exact refused A0 n0 c0 l0 a1 s2a s2b w rd0 hm (by omega) (by omega) (by omega) (by omega) (by omega) hr
end Go.Proofs.Ytjnkokfneinjeaa.concessionFitsWalk
