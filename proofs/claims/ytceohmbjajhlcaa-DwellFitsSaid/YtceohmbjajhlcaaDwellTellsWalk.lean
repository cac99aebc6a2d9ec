/-
  The law DwellTells returns true, for every list of runs, every time to last and every time, and leaves what was there as it was. No conditions but the arguments' readings.
-/
import Derived.Test.YtceohmbjajhlcaaDwellT
namespace Go.Proofs.Ytceohmbjajhlcaa
open Go.ChangeShapes Go.WideShapes Go.ChangeAt Go.RowKit
set_option linter.unusedVariables false
theorem goRightR_is {A : Option Addr} {n c : Nat} {l : List Run} {w : World} {b : Bool} (hB : rightR l = b) (h : Rd three 3 w A n l) (hm : n ≤ 9223372036854775807) :
    Calls Try.prog 19 #[.slice A n c] w fun e w' => e = .returned (.bool b) ∧ Below w.heap.size w w' := by rw [← hB]; exact goRightR A n c l w h hm
theorem refRightR_is {A : Option Addr} {n c : Nat} {l : List Run} {w : World} {b : Bool} (hB : rightR l = b) (h : Rd three 3 w A n l) (hm : n ≤ 9223372036854775807) :
    Calls Try.prog 16 #[.slice A n c] w fun e w' => e = .returned (.bool b) ∧ ∃ m, w' = w.drewN m := by rw [← hB]; exact refRightR A n c l w h hm
theorem chk_ex (l : List Run) (least : Int) : ∀ d i, i + d + 1 = l.length → (∀ j, 1 ≤ j → j < i → ¬ lasts l least j) → ∃ k, IsChk l least k
  | 0, i, e, h => ⟨i, by omega, h, .inl (by omega)⟩
  | d + 1, i, e, h => by
    by_cases hl : 1 ≤ i ∧ lasts l least i
    · exact ⟨i, by omega, h, .inr hl⟩
    · exact chk_ex l least d (i + 1) (by omega) (fun j h1 h2 => by
        rcases Nat.lt_or_ge j i with h3 | h3
        · exact h j h1 h3
        · obtain rfl : j = i := by omega
          exact fun hh => hl ⟨h1, hh⟩)
/-- What both checkouts of the same runs answer. -/
theorem chk_told {l : List Run} {least : Int} {w : World} {k : Nat} (hk : IsChk l least k) {e : Ending} {w' : World} (h : ToldChk l least w e w') : e = .returned (.tuple #[.int .i64 k, .bool true]) ∧ ∃ m, w' = w.drewN m := by
  obtain ⟨i, hi, he, hw⟩ := h
  obtain rfl := chk_same hi hk
  exact ⟨he, hw⟩
theorem goAt_is {A : Option Addr} {n c : Nat} {l : List Run} {t s : Int} {o : Bool} {w : World} (hS : atTo l t n = (s, o)) (h : Rd three 3 w A n l) (hm : n ≤ 9223372036854775807) :
    Calls Try.prog 22 #[.slice A n c, .int .i64 t] w fun e w' => e = .returned (.tuple #[.int .i64 s, .bool o]) ∧ w = w' := (goAt A n c l t w h hm).mono fun e w' ⟨he, hw⟩ => ⟨by rw [he, hS], hw.symm⟩
theorem refAt_is {A : Option Addr} {n c : Nat} {l : List Run} {t s : Int} {o : Bool} {w : World} (hS : atTo l t n = (s, o)) (h : Rd three 3 w A n l) (hm : n ≤ 9223372036854775807) :
    Calls Try.prog 23 #[.slice A n c, .int .i64 t] w fun e w' => e = .returned (.tuple #[.int .i64 s, .bool o]) ∧ w = w' := (refAt A n c l t w h hm).mono fun e w' ⟨he, hw⟩ => ⟨by rw [he, hS], hw.symm⟩
theorem goChk_zero {A : Option Addr} {c : Nat} {least : Int} {w : World} : Calls Try.prog 20 #[.slice A 0 c, .int .i64 least] w fun e w' => e = .returned (.tuple #[.int .i64 0, .bool false]) ∧ w = w' := (goChk_none A c least w).mono fun _ _ ⟨he, hw⟩ => ⟨he, hw.symm⟩
theorem refChk_zero {A : Option Addr} {c : Nat} {least : Int} {w : World} : Calls Try.prog 21 #[.slice A 0 c, .int .i64 least] w fun e w' => e = .returned (.tuple #[.int .i64 0, .bool false]) ∧ w = w' := (refChk_none A c least w).mono fun _ _ ⟨he, hw⟩ => ⟨he, hw.symm⟩
end Go.Proofs.Ytceohmbjajhlcaa
namespace Go.Proofs.Ytceohmbjajhlcaa.dwellTellsWalk
open Go.ChangeShapes Go.WideShapes Go.ChangeAt Go.RowKit
set_option linter.unusedVariables false

theorem wrong (A0 : Option Addr) (n0 c0 : Nat) (l0 : List (Int × Int × Int)) (a1 : Int) (a2 : Int) (w : World) (rd0 : Rd three 3 w A0 n0 l0) (hm : n0 ≤ 9223372036854775807) (h : n0 ≤ 100) (hB : rightR l0 = false) :
    Calls Try.prog 5 #[.slice A0 n0 c0, .int .i64 a1, .int .i64 a2] w fun e w' => e = .returned (.bool true) ∧ Below w.heap.size w w' := by
  have HB := Lib.hid hB
  clear hB
  go_enter Try.func5, Try.ntmps5
  go_wp2_with fail
  refine (awake24 _).mono ?_
  rintro e w1 ⟨rfl, b1⟩
  have r1 := rd0.below b1 (Nat.le_refl _)
  go_wp2_with fail
  refine (goRightR_is HB.out r1 hm).mono ?_
  rintro e w2 ⟨rfl, b2'⟩
  have b2 := b1.trans (b2'.mono b1.size)
  have r2 := rd0.below b2 (Nat.le_refl _)
  go_wp2_with fail
  refine (refRightR_is HB.out r2 hm).mono ?_
  rintro e w3 ⟨rfl, m, rfl⟩
  have r3 := r2.drewN m
  go_wp2_with fail
  refine (refRightR_is HB.out r3 hm).mono ?_
  rintro e w4 ⟨rfl, m', rfl⟩
  go_wp2_with fail
  go_ret
  exact ⟨rfl, below_dN b2 (m + m')⟩

set_option maxHeartbeats 800000 in
theorem right (A0 : Option Addr) (n0 c0 : Nat) (l0 : List (Int × Int × Int)) (a1 : Int) (a2 : Int) (w : World) (rd0 : Rd three 3 w A0 n0 l0) (hm : n0 ≤ 9223372036854775807) (h : n0 ≤ 100) (hB : rightR l0 = true) :
    Calls Try.prog 5 #[.slice A0 n0 c0, .int .i64 a1, .int .i64 a2] w fun e w' => e = .returned (.bool true) ∧ Below w.heap.size w w' := by
  have HB := Lib.hid hB
  have hT := right_timed hB
  have HT := Lib.hid hT
  have hl := Lib.hid rd0.1
  clear hB hT
  obtain ⟨s, o, hS⟩ : ∃ s o, Hid (atTo l0 a2 n0 = (s, o)) := ⟨_, _, rfl⟩
  rcases Nat.eq_zero_or_pos n0 with rfl | hpos
  · go_enter Try.func5, Try.ntmps5
    go_wp2_with fail
    refine (awake24 _).mono ?_
    rintro e w1 ⟨rfl, b1⟩
    have r1 := rd0.below b1 (Nat.le_refl _)
    go_wp2_with fail
    refine (goRightR_is HB.out r1 hm).mono ?_
    rintro e w2 ⟨rfl, b2'⟩
    have b2 := b1.trans (b2'.mono b1.size)
    have r2 := rd0.below b2 (Nat.le_refl _)
    go_wp2_with fail
    refine (refRightR_is HB.out r2 hm).mono ?_
    rintro e w3 ⟨rfl, m, rfl⟩
    have r3 := r2.drewN m
    go_wp2_with fail
    refine (refRightR_is HB.out r3 hm).mono ?_
    rintro e w4 ⟨rfl, m', rfl⟩
    have b4 := below_dN b2 (m + m')
    have r4 := rd0.below b4 (Nat.le_refl _)
    go_wp2_with fail
    refine goChk_zero.mono ?_
    rintro e w5 ⟨rfl, rfl⟩
    go_wp2_with fail
    refine refChk_zero.mono ?_
    rintro e w5 ⟨rfl, rfl⟩
    go_wp2_with fail
    refine (goAt_is hS.out r4 hm).mono ?_
    rintro e w5 ⟨rfl, rfl⟩
    go_wp2_with fail
    refine (refAt_is hS.out r4 hm).mono ?_
    rintro e w5 ⟨rfl, rfl⟩
    go_wp2_with fail
    go_ret
    exact ⟨by simp, b4⟩
  · obtain ⟨k, hk⟩ := chk_ex l0 a1 (n0 - 1) 0 (by have := hl.out; omega) (fun j h1 h2 => absurd h2 (by omega))
    have HK := Lib.hid hk
    clear hk
    go_enter Try.func5, Try.ntmps5
    go_wp2_with fail
    refine (awake24 _).mono ?_
    rintro e w1 ⟨rfl, b1⟩
    have r1 := rd0.below b1 (Nat.le_refl _)
    go_wp2_with fail
    refine (goRightR_is HB.out r1 hm).mono ?_
    rintro e w2 ⟨rfl, b2'⟩
    have b2 := b1.trans (b2'.mono b1.size)
    have r2 := rd0.below b2 (Nat.le_refl _)
    go_wp2_with fail
    refine (refRightR_is HB.out r2 hm).mono ?_
    rintro e w3 ⟨rfl, m, rfl⟩
    have r3 := r2.drewN m
    go_wp2_with fail
    refine (refRightR_is HB.out r3 hm).mono ?_
    rintro e w4 ⟨rfl, m', rfl⟩
    have b4 := below_dN b2 (m + m')
    have r4 := rd0.below b4 (Nat.le_refl _)
    go_wp2_with fail
    refine ((goChk _ _ _ _ _ _ r4 hm HT.out hpos).mono fun _ _ h => chk_told HK.out h).mono ?_
    rintro e w5 ⟨rfl, m5, rfl⟩
    have b5 := below_dN b2 (m + m' + m5)
    have r5 := rd0.below b5 (Nat.le_refl _)
    go_wp2_with fail
    refine ((refChk _ _ _ _ _ _ r5 hm HT.out hpos).mono fun _ _ h => chk_told HK.out h).mono ?_
    rintro e w6 ⟨rfl, m6, rfl⟩
    have b6 := below_dN b2 (m + m' + m5 + m6)
    have r6 := rd0.below b6 (Nat.le_refl _)
    go_wp2_with fail
    refine (goAt_is hS.out r6 hm).mono ?_
    rintro e w7 ⟨rfl, rfl⟩
    go_wp2_with fail
    refine (refAt_is hS.out r6 hm).mono ?_
    rintro e w7 ⟨rfl, rfl⟩
    go_wp2_with fail
    go_ret
    exact ⟨by simp, b6⟩

theorem walk (A0 : Option Addr) (n0 c0 : Nat) (l0 : List (Int × Int × Int)) (a1 : Int) (a2 : Int) (w : World) (rd0 : Rd three 3 w A0 n0 l0) (ft0 : ∀ r ∈ l0, ∀ v ∈ three r, Fits v) (ge0 : n0 ≤ c0) (mx0 : c0 ≤ maxLen) (w1 : (Lit.int .i64 a1).wf = true) (w2 : (Lit.int .i64 a2).wf = true) :
    Calls Try.prog 5 #[.slice A0 n0 c0, .int .i64 a1, .int .i64 a2] w fun e w' => e = .returned (.bool true) ∧ Below w.heap.size w w' := by
  have hm : n0 ≤ 9223372036854775807 := by unfold maxLen at mx0; omega
  clear ft0 ge0 mx0 w1 w2
  rcases Nat.lt_or_ge 100 n0 with h | h
  · go_enter Try.func5, Try.ntmps5
    go_wp2_with (go_at_call 10; refine (awake24 _).mono ?_; rintro e w1 ⟨rfl, hb⟩)
    go_ret
    exact ⟨rfl, hb⟩
  · rcases hB : rightR l0 with _ | _
    · exact wrong A0 n0 c0 l0 a1 a2 w rd0 hm h hB
    · exact right A0 n0 c0 l0 a1 a2 w rd0 hm h hB
end Go.Proofs.Ytceohmbjajhlcaa.dwellTellsWalk
