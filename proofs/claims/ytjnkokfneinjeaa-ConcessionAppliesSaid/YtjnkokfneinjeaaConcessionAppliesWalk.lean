/-
  The law ConcessionApplies returns true, for every list of shares, class and price, and leaves what was there as it was. No conditions but the arguments' readings.
-/
import Derived.Test.YtjnkokfneinjeaaConc
namespace Go.Proofs.Ytjnkokfneinjeaa.concessionAppliesWalk
open Go.ChangeShapes Go.WideShapes Go.ChangeAt Go.RowKit
set_option linter.unusedVariables false

theorem walk (A0 : Option Addr) (n0 c0 : Nat) (l0 : List Int) (a1 : Int) (a2 : Int) (w : World) (rd0 : Rd one 1 w A0 n0 l0) (ft0 : ∀ r ∈ l0, Fits r) (ge0 : n0 ≤ c0) (mx0 : c0 ≤ maxLen) (w1 : (Lit.int .i64 a1).wf = true) (w2 : (Lit.int .i64 a2).wf = true) :
    Calls Try.prog 3 #[.slice A0 n0 c0, .int .i64 a1, .int .i64 a2] w fun e w' => e = .returned (.bool true) ∧ Below w.heap.size w w' := by
  have hm : n0 ≤ 9223372036854775807 := by unfold maxLen at mx0; omega
  clear w1 w2 ft0 ge0 mx0
  by_cases h100 : 100 < n0
  · go_enter Try.func3, Try.ntmps3
    go_wp2_with (go_at_call 11; refine (awake28 _).mono ?_; rintro e w1 ⟨rfl, hb⟩)
    go_ret
    exact ⟨rfl, hb⟩
  by_cases hmay : may l0 a1 a2
  · obtain ⟨hr, h0, h1, h2, h3⟩ := hmay
    have hx : l0[a1.toNat]? = some (l0[a1.toNat]'(by omega)) := List.getElem?_eq_getElem (by omega)
    generalize l0[a1.toNat]'(by omega) = x at hx
    have HX := Lib.hid hx
    rw [← rd0.1] at h1
    clear hx
    go_enter Try.func3, Try.ntmps3
    go_wp2_with (first
      | (go_at_call 11; refine (awake28 _).mono ?_; rintro e w1 ⟨rfl, hb⟩; have rd1 := rd0.below hb (Nat.le_refl _))
      | (go_at_call 12; refine (apply_yes _ _ _ _ _ _ _ _ rd1 hm hr h0 HX.out h2 h3).mono ?_; rintro e w' ⟨rfl, rfl⟩)
      | (go_at_call 13; refine (goRight _ _ _ _ _ rd1 hm).mono ?_; rintro e w' ⟨rfl, rfl⟩)
      | (go_at_call 14; refine (refRight _ _ _ _ _ rd1 hm).mono ?_; rintro e w' ⟨rfl, rfl⟩)
      | (go_at_call 15; refine (refApply_any _ _ _ _ _ _ _ _ rd1 hm hr h0 HX.out h2 h3).mono ?_; rintro e w' ⟨rfl, m, rfl⟩))
    go_ret
    exact ⟨rfl, below_dN hb _⟩
  · have hno : rightB l0 = false ∨ rightB l0 = true ∧ a1 < 0 ∨ rightB l0 = true ∧ 0 ≤ a1 ∧ (n0 : Int) ≤ a1 ∨ rightB l0 = true ∧ 0 ≤ a1 ∧ a1 < n0 ∧ a2 < 0 ∨ rightB l0 = true ∧ 0 ≤ a1 ∧ a1 < n0 ∧ 0 ≤ a2 ∧ 281474976710656 < a2 := by
      rcases hr : rightB l0 with _ | _
      · exact .inl rfl
      · have : ¬ (0 ≤ a1 ∧ a1 < n0 ∧ 0 ≤ a2 ∧ a2 ≤ 281474976710656) := fun x => hmay ⟨hr, x.1, by rw [← rd0.1]; exact x.2.1, x.2.2.1, x.2.2.2⟩
        simp only [true_and]
        omega
    have HM := Lib.hid hmay
    clear hmay
    rcases hno with hr | ⟨hr, h1⟩ | ⟨hr, h1, h2⟩ | ⟨hr, h1, h2, h3⟩ | ⟨hr, h1, h2, h3, h4⟩
    all_goals
      go_enter Try.func3, Try.ntmps3
      go_wp2_with (first
        | (go_at_call 11; refine (awake28 _).mono ?_; rintro e w1 ⟨rfl, hb⟩; have rd1 := rd0.below hb (Nat.le_refl _))
        | (go_at_call 12; refine (apply_no _ _ _ _ _ _ _ rd1 hm HM.out).mono ?_; rintro e w' ⟨rfl, rfl⟩)
        | (go_at_call 13; refine (goRight _ _ _ _ _ rd1 hm).mono ?_; rintro e w' ⟨rfl, rfl⟩)
        | (go_at_call 14; refine (refRight _ _ _ _ _ rd1 hm).mono ?_; rintro e w' ⟨rfl, rfl⟩))
      go_ret
      exact ⟨rfl, hb⟩
end Go.Proofs.Ytjnkokfneinjeaa.concessionAppliesWalk
