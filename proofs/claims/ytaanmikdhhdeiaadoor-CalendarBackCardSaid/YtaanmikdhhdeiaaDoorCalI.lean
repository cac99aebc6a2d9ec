/-
  calendar.Of of no day, Week, leaps, and the reference's Days: what they hand back. Condition (Tab): the variable calendar.days reads as its text says.
-/
import Derived.Test.YtaanmikdhhdeiaaDoorCalH
namespace Go.Proofs.YtaanmikdhhdeiaaDoor
open Go.ChangeShapes Go.WideShapes Go.ChangeAt Go.RowKit
set_option linter.unusedVariables false

theorem quiet_same {P : Program} {f : FuncId} {args : Array Value} {w : World} {n : Nat} {v : Value}
    (h : Calls P f args (w.drewN n) fun e w'' => e = .returned v ∧ w.drewN n = w'') : Calls P f args (w.drewN n) fun e w'' => e = .returned v ∧ ∃ m, w'' = w.drewN m :=
  h.mono fun _ _ ⟨he, hm⟩ => ⟨he, n, hm.symm⟩
theorem Tab.drewN {w : World} (h : Tab w) (k : Nat) : Tab (w.drewN k) := h
theorem Tab.alloc {w : World} (h : Tab w) (o : Obj) : Tab (w.alloc o) := h.below ((Below.refl w.heap.size w).alloc (Nat.le_refl _) o) h.1
theorem goOf_no (n : Int) (w : World) (h : n < 0 ∨ 2932896 < n) : Calls Tryd.prog 13 #[.int .i64 n] w fun e w' => e = .returned (.tuple #[.agg #[.int .i64 0, .int .i64 0, .int .i64 0], .int .i64 2]) ∧ Below w.heap.size w w' := by
  by_cases h0 : n < 0
  · go_enter Tryd.func13, Tryd.ntmps13
    go_wp2
    go_step3
    go_wp2
    rw [Exit.noGoto_ret]
    exact bodyPost_ret (v := .tuple #[.agg #[.int .i64 0, .int .i64 0, .int .i64 0], .int .i64 2]) (by simp [results, Tryd.results13, go_sem]) rfl ⟨rfl, ((Below.refl _ _).alloc (Nat.le_refl _) _)⟩
  · have h1 : 2932896 < n := by omega
    clear h
    go_enter Tryd.func13, Tryd.ntmps13
    go_wp2
    go_step3
    go_wp2
    rw [Exit.noGoto_ret]
    exact bodyPost_ret (v := .tuple #[.agg #[.int .i64 0, .int .i64 0, .int .i64 0], .int .i64 2]) (by simp [results, Tryd.results13, go_sem]) rfl ⟨rfl, ((Below.refl _ _).alloc (Nat.le_refl _) _)⟩
theorem goWeek_yes (n : Int) (w : World) (h0 : 0 ≤ n) (h1 : n ≤ 2932896) : Calls Tryd.prog 14 #[.int .i64 n] w fun e w' => e = .returned (.tuple #[.int .i64 ((n + 3) % 7), .int .i64 0]) ∧ w = w' := by
  have E : Hid ((n % 7 + 3) % 7 = (n + 3) % 7) := by show _ = _; omega
  go_enter Tryd.func14, Tryd.ntmps14
  go_wp2
  go_ret2
  exact ⟨ret_ii E.out rfl, rfl⟩
theorem goWeek_no (n : Int) (w : World) (h : n < 0 ∨ 2932896 < n) : Calls Tryd.prog 14 #[.int .i64 n] w fun e w' => e = .returned (.tuple #[.int .i64 0, .int .i64 2]) ∧ w = w' := by
  by_cases h0 : n < 0
  · go_enter Tryd.func14, Tryd.ntmps14
    go_wp2
    go_ret2
    exact ⟨rfl, rfl⟩
  · have h1 : 2932896 < n := by omega
    clear h
    go_enter Tryd.func14, Tryd.ntmps14
    go_wp2
    go_ret2
    exact ⟨rfl, rfl⟩
theorem goLeaps (y : Int) (w : World) (h0 : 0 ≤ y) (h1 : y ≤ 100000) : Calls Tryd.prog 20 #[.int .i64 y] w fun e w' => e = .returned (.int .i64 (lps y)) ∧ w = w' := by
  go_enter Tryd.func20, Tryd.ntmps20
  go_wp2
  go_ret
  exact ⟨ret_int rfl, rfl⟩
theorem refDays (y m : Int) (w : World) : Calls Tryd.prog 10 #[.int .i64 y, .int .i64 m] w fun e w' => e = .returned (.int .i64 (daysI y m)) ∧ w = w' := by
  by_cases h1 : m < 1
  · have E : Hid (daysI y m = 0) := by show _ = _; rw [daysI, if_pos (.inl h1)]
    have b4 : (m == 4) = false := by simp; omega
    have b6 : (m == 6) = false := by simp; omega
    have b9 : (m == 9) = false := by simp; omega
    have b11 : (m == 11) = false := by simp; omega
    have b2 : (m == 2) = false := by simp; omega
    go_enter Tryd.func10, Tryd.ntmps10
    go_wp2
    go_ret
    exact ⟨ret_int E.out.symm, rfl⟩
  by_cases h2 : 12 < m
  · have E : Hid (daysI y m = 0) := by show _ = _; rw [daysI, if_pos (.inr h2)]
    have b4 : (m == 4) = false := by simp; omega
    have b6 : (m == 6) = false := by simp; omega
    have b9 : (m == 9) = false := by simp; omega
    have b11 : (m == 11) = false := by simp; omega
    have b2 : (m == 2) = false := by simp; omega
    go_enter Tryd.func10, Tryd.ntmps10
    go_wp2
    go_ret
    exact ⟨ret_int E.out.symm, rfl⟩
  obtain ⟨k, rfl⟩ := Int.eq_ofNat_of_zero_le (show 0 ≤ m by omega)
  by_cases h3 : k = 2
  · subst h3
    rcases hl : leapB y with _ | _
    · have E : Hid (daysI y (2 : Nat) = 28) := by show _ = _; rw [daysI, if_neg (by omega), if_neg (by rw [hl]; simp)]; rfl
      have HL := Lib.hid hl
      clear hl
      go_enter Tryd.func10, Tryd.ntmps10
      go_wp2_with (go_at_call 8; refine (refLeap_is HL.out).mono ?_; rintro e w' ⟨rfl, rfl⟩)
      go_ret
      exact ⟨ret_int E.out.symm, rfl⟩
    · have E : Hid (daysI y (2 : Nat) = 29) := by show _ = _; rw [daysI, if_neg (by omega), if_pos ⟨rfl, hl⟩]
      have HL := Lib.hid hl
      clear hl
      go_enter Tryd.func10, Tryd.ntmps10
      go_wp2_with (go_at_call 8; refine (refLeap_is HL.out).mono ?_; rintro e w' ⟨rfl, rfl⟩)
      go_ret
      exact ⟨ret_int E.out.symm, rfl⟩
  · have E : Hid (daysI y (k : Nat) = tabD k) := by show _ = _; rw [daysI, if_neg (by omega), if_neg (by omega)]; simp
    have hk : k < 13 := by omega
    have hk1 : 1 ≤ k := by omega
    clear h1 h2
    match k, hk, hk1, h3, E with
    | 1, _, _, _, E | 3, _, _, _, E | 4, _, _, _, E | 5, _, _, _, E | 6, _, _, _, E | 7, _, _, _, E | 8, _, _, _, E | 9, _, _, _, E | 10, _, _, _, E | 11, _, _, _, E | 12, _, _, _, E =>
      go_enter Tryd.func10, Tryd.ntmps10
      go_wp2
      go_ret
      exact ⟨ret_int (by rw [E.out]; rfl), rfl⟩
end Go.Proofs.YtaanmikdhhdeiaaDoor
