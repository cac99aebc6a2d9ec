/-
  The law DwellRuns returns true, for every list of stops and every list of samples, and leaves what was there as it was. No conditions but the arguments' readings.
-/
import Derived.Test.YtceohmbjajhlcaaDwellA
namespace Go.Proofs.Ytceohmbjajhlcaa
open Go.ChangeShapes Go.WideShapes Go.ChangeAt Go.RowKit
theorem runsOf_len (st : List Int) (l : List Run) : (runsOf st l).length ≤ l.length := by
  unfold runsOf
  split
  · exact runsTo_len st l l.length
  · simp
end Go.Proofs.Ytceohmbjajhlcaa
namespace Go.Proofs.Ytceohmbjajhlcaa.dwellRunsWalk
open Go.ChangeShapes Go.WideShapes Go.ChangeAt Go.RowKit
set_option linter.unusedVariables false

set_option maxHeartbeats 800000 in
theorem walk (A0 : Option Addr) (n0 c0 : Nat) (l0 : List Int) (A1 : Option Addr) (n1 c1 : Nat) (l1 : List (Int × Int × Int)) (w : World) (rd0 : Rd one 1 w A0 n0 l0) (ft0 : ∀ r ∈ l0, Fits r) (ge0 : n0 ≤ c0) (mx0 : c0 ≤ maxLen) (rd1 : Rd three 3 w A1 n1 l1) (ft1 : ∀ r ∈ l1, ∀ v ∈ three r, Fits v) (ge1 : n1 ≤ c1) (mx1 : c1 ≤ maxLen) :
    Calls Try.prog 3 #[.slice A0 n0 c0, .slice A1 n1 c1] w fun e w' => e = .returned (.bool true) ∧ Below w.heap.size w w' := by
  have hm0 : n0 ≤ 9223372036854775807 := by unfold maxLen at mx0; omega
  have hm1 : n1 ≤ 9223372036854775807 := by unfold maxLen at mx1; omega
  clear ft0 ft1 ge0 ge1 mx0 mx1
  by_cases h0 : 2100 < n0
  · go_enter Try.func3, Try.ntmps3
    go_wp2_with (go_at_call 10; refine (awake24 _).mono ?_; rintro e w1 ⟨rfl, hb⟩)
    go_ret
    exact ⟨rfl, hb⟩
  by_cases h1 : 2100 < n1
  · go_enter Try.func3, Try.ntmps3
    go_wp2_with (go_at_call 10; refine (awake24 _).mono ?_; rintro e w1 ⟨rfl, hb⟩)
    go_ret
    exact ⟨rfl, hb⟩
  have HL : Hid ((runsOf l0 l1).length ≤ n1) := by have := runsOf_len l0 l1; rwa [← rd1.1] at this
  obtain ⟨rs, hr⟩ : ∃ rs, Hid (runsOf l0 l1 = rs) := ⟨_, rfl⟩
  obtain ⟨er, he⟩ : ∃ er, Hid (errR l0 l1 = er) := ⟨_, rfl⟩
  have HL2 : Hid (rs.length ≤ n1) := by show _ ≤ _; rw [← hr.out]; exact HL.out
  go_enter Try.func3, Try.ntmps3
  go_wp2_with (first
    | (go_at_call 10; refine (awake24 _).mono ?_; rintro e w1 ⟨rfl, hb⟩; have ra := rd0.below hb (Nat.le_refl _); have rb := rd1.below hb (Nat.le_refl _))
    | (go_at_call 11; refine (goRuns_is hr.out he.out ra rb hm0 hm1).mono ?_; rintro e w2 ⟨A2, N2, c2, rfl, R2, b2'⟩; have b2 := hb.trans (b2'.mono hb.size); have ra2 := rd0.below b2 (Nat.le_refl _); have rb2 := rd1.below b2 (Nat.le_refl _))
    | (go_at_call 12; refine (refRuns_is hr.out he.out ra2 rb2 hm0 hm1).mono ?_; rintro e w3 ⟨A3, N3, c3, rfl, R3, b3'⟩; have b3 := b2.trans (b3'.mono b2.size); have R2' := R2.below b3' (Nat.le_refl _))
    | (go_at_call 13; refine (same_runs R2' R3 (by have := R2'.1; have := HL2.out; omega) (by have := R3.1; have := HL2.out; omega)).mono ?_; rintro e w4 ⟨rfl, m, rfl⟩))
  go_ret
  exact ⟨rfl, below_dN b3 m⟩
end Go.Proofs.Ytceohmbjajhlcaa.dwellRunsWalk
