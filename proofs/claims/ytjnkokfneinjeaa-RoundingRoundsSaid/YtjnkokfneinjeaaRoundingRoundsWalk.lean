/-
  The law RoundingRounds returns true, for every way, number and unit, and leaves what was there as it was. No conditions.
-/
import Derived.Test.YtjnkokfneinjeaaRound
namespace Go.Proofs.Ytjnkokfneinjeaa.roundingRoundsWalk
open Go.ChangeShapes Go.WideShapes Go.ChangeAt Go.RowKit
set_option linter.unusedVariables false

set_option maxHeartbeats 400000 in
theorem walk (a0 : Int) (a1 : Int) (a2 : Int) (w : World) (w0 : (Lit.int .i64 a0).wf = true) (w1 : (Lit.int .i64 a1).wf = true) (w2 : (Lit.int .i64 a2).wf = true) :
    Calls Try.prog 5 #[.int .i64 a0, .int .i64 a1, .int .i64 a2] w fun e w' => e = .returned (.bool true) ∧ Below w.heap.size w w' := by
  clear w0 w1 w2
  by_cases hg : ¬ (0 ≤ a1 ∧ a1 ≤ 281474976710656) ∨ ¬ (1 ≤ a2 ∧ a2 ≤ 16777216)
  · have G := Lib.hid hg
    have h' : a1 < 0 ∨ (0 ≤ a1 ∧ 281474976710656 < a1) ∨ (0 ≤ a1 ∧ a1 ≤ 281474976710656 ∧ a2 < 1) ∨ (0 ≤ a1 ∧ a1 ≤ 281474976710656 ∧ 1 ≤ a2 ∧ 16777216 < a2) := by omega
    clear hg
    rcases h' with h | ⟨h, h1⟩ | ⟨h, h1, h2⟩ | ⟨h, h1, h2, h3⟩
    all_goals
      go_enter Try.func5, Try.ntmps5
      go_wp2_with (first
        | (go_at_call 16; refine (awake30 _).mono ?_; rintro e w' ⟨rfl, m0, rfl⟩)
        | (go_at_call 17; refine (round_bad _ _ _ _ G.out).mono ?_; rintro e w' ⟨rfl, m1, rfl⟩))
      go_ret
      exact ⟨rfl, below_dN (Below.refl _ _) _⟩
  · obtain ⟨h0, h2, h1, h3⟩ : 0 ≤ a1 ∧ a1 ≤ 281474976710656 ∧ 1 ≤ a2 ∧ a2 ≤ 16777216 := by omega
    clear hg
    by_cases hv : 0 ≤ a0 ∧ a0 ≤ 3
    · obtain ⟨hv0, hv3⟩ := hv
      go_enter Try.func5, Try.ntmps5
      go_wp2_with (first
        | (go_at_call 16; refine (awake30 _).mono ?_; rintro e w' ⟨rfl, m0, rfl⟩)
        | (go_at_call 17; refine (round_ok _ _ _ _ h0 h2 h1 h3 hv0 hv3).mono ?_; rintro e w' ⟨rfl, m1, rfl⟩)
        | (go_at_call 18; refine (refRound_ok _ _ _ _ h0 h2 h1 h3 hv0 hv3).mono ?_; rintro e w' ⟨rfl, rfl⟩))
      go_ret
      exact ⟨ret_bool (by first | rfl | simp), below_dN (Below.refl _ _) _⟩
    · have hv' : a0 < 0 ∨ 0 ≤ a0 ∧ 3 < a0 := by omega
      clear hv
      rcases hv' with hv | ⟨hv', hv⟩
      · have HV : Hid (a0 < 0 ∨ 3 < a0) := .inl hv
        go_enter Try.func5, Try.ntmps5
        go_wp2_with (first
          | (go_at_call 16; refine (awake30 _).mono ?_; rintro e w' ⟨rfl, m0, rfl⟩)
          | (go_at_call 17; refine (round_way _ _ _ _ h0 h2 h1 h3 HV.out).mono ?_; rintro e w' ⟨rfl, m1, rfl⟩))
        go_ret
        exact ⟨rfl, below_dN (Below.refl _ _) _⟩
      · have HV : Hid (a0 < 0 ∨ 3 < a0) := .inr hv
        go_enter Try.func5, Try.ntmps5
        go_wp2_with (first
          | (go_at_call 16; refine (awake30 _).mono ?_; rintro e w' ⟨rfl, m0, rfl⟩)
          | (go_at_call 17; refine (round_way _ _ _ _ h0 h2 h1 h3 HV.out).mono ?_; rintro e w' ⟨rfl, m1, rfl⟩))
        go_ret
        exact ⟨rfl, below_dN (Below.refl _ _) _⟩
end Go.Proofs.Ytjnkokfneinjeaa.roundingRoundsWalk
