/-
  SegmentLegs, walked: it returns true, whatever the runs and the least time. Conditions: the arguments' readings.
-/
import Derived.Test.YtceohmbjajhlcaaSegR
namespace Go.Proofs.Ytceohmbjajhlcaa
open Go.ChangeShapes Go.WideShapes Go.ChangeAt Go.RowKit
set_option linter.unusedVariables false

theorem awake25 (w : World) : Calls Try.prog 14 #[] w fun e w' => e = .returned (.bool true) ∧ Below w.heap.size w w' := by
  have l1 : Hid (legsOf [(1, 0, 0)] 0 = []) := by show _ = _; decide +kernel
  have l2 : Hid (legsOf [(1, 0, 5), (2, 9, 9)] 0 = [(1, 2, 5, 9)]) := by show _ = _; decide +kernel
  have r1 : Hid (rightR [(1, 0, 0)] = true) := by show _ = _; decide +kernel
  have r2 : Hid (rightR [(1, 0, 5), (2, 9, 9)] = true) := by show _ = _; decide +kernel
  have ra := Lib.hid (Rd.made three 3 w 48 [(1, 0, 0)] #[.int .i64 1, .int .i64 0, .int .i64 0] (by simp [three]) rfl)
  go_enter Try.func14, Try.ntmps14
  go_wp2_with fail
  refine (goLegs_yes _ _ _ _ _ _ ra.out r1.out (by simp) (by simp) (by simp [maxLen]) ⟨by omega, by omega⟩ (by omega)).mono ?_
  rintro e w1 ⟨A1, N1, c1, rfl, hr1, hb1⟩
  rw [l1.out] at hr1
  obtain rfl : N1 = 0 := hr1.1
  have HB1 := Lib.hid (below_boxed hb1)
  have rb := Lib.hid (Rd.made three 3 w1 48 [(1, 0, 5), (2, 9, 9)] #[.int .i64 1, .int .i64 0, .int .i64 5, .int .i64 2, .int .i64 9, .int .i64 9] (by simp [three]) rfl)
  clear hr1 hb1
  go_wp2_with fail
  refine (goLegs_yes _ _ _ _ _ _ rb.out r2.out (by simp) (by simp) (by simp [maxLen]) ⟨by omega, by omega⟩ (by omega)).mono ?_
  rintro e w2 ⟨A2, N2, c2, rfl, hr2, hb2⟩
  rw [l2.out] at hr2
  obtain rfl : N2 = 1 := hr2.1
  have HB2 := Lib.hid (HB1.out.trans ((below_boxed hb2).mono HB1.out.size))
  have z2 := HB2.out.size
  have rc := Lib.hid (hr2.alloc (.cells #[.int .i64 1, .int .i64 2, .int .i64 5, .int .i64 9] 64))
  have rd := Lib.hid (Rd.made four 4 w2 64 [(1, 2, 5, 9)] #[.int .i64 1, .int .i64 2, .int .i64 5, .int .i64 9] (by simp [four]) rfl)
  clear hr2 hb2
  go_wp2_with fail
  refine (sameL _ _ _ _ _ _ _ rc.out rd.out (by decide)).mono ?_
  rintro e w3 ⟨rfl, hb3⟩
  have HB3 := Lib.hid ((HB2.out.alloc z2 _).trans (hb3.mono (by simp; omega)))
  clear hb3
  go_wp2_with fail
  go_ret
  exact ⟨rfl, HB3.out⟩
namespace segmentLegsWalk
set_option maxHeartbeats 2000000 in
theorem walk (A0 : Option Addr) (n0 c0 : Nat) (l0 : List (Int × Int × Int)) (a1 : Int) (w : World) (rd0 : Rd three 3 w A0 n0 l0) (ft0 : ∀ r ∈ l0, ∀ v ∈ three r, Fits v) (ge0 : n0 ≤ c0) (mx0 : c0 ≤ maxLen) (w1 : (Lit.int .i64 a1).wf = true) :
    Calls Try.prog 4 #[.slice A0 n0 c0, .int .i64 a1] w fun e w' => e = .returned (.bool true) ∧ Below w.heap.size w w' := by
  have MX := Lib.hid mx0
  unfold maxLen at mx0
  have fa := wf_fits w1
  have FA := Lib.hid fa
  obtain ⟨p1, p2⟩ := fa
  clear w1
  by_cases h6 : 100 < n0
  · clear rd0
    go_enter Try.func4, Try.ntmps4
    go_wp2_with fail
    refine (awake25 _).mono ?_
    rintro e w1 ⟨rfl, hb1⟩
    have HB1 := Lib.hid hb1
    clear hb1
    go_wp2_with fail
    go_ret
    exact ⟨rfl, HB1.out⟩
  have n6 : n0 ≤ 100 := by omega
  have RD := Lib.hid rd0
  clear rd0 h6 ft0
  rcases hl : rightR l0 with _ | _
  · have HL := Lib.hid hl
    clear hl
    go_enter Try.func4, Try.ntmps4
    go_wp2_with fail
    refine (awake25 _).mono ?_
    rintro e w1 ⟨rfl, hb1⟩
    have HB1 := Lib.hid hb1
    have R1 := Lib.hid (RD.out.below hb1 (Nat.le_refl _))
    clear hb1
    go_wp2_with fail
    refine (goLegs_no _ _ _ _ _ _ R1.out n6 FA.out (.inl HL.out)).mono ?_
    rintro e w2 ⟨A2, N2, c2, rfl, hr2, hb2⟩
    obtain rfl : N2 = 0 := hr2.1
    have HB2 := Lib.hid (HB1.out.trans (hb2.mono HB1.out.size))
    have R2 := Lib.hid (RD.out.below HB2.out (Nat.le_refl _))
    clear hb2 hr2
    go_wp2_with fail
    refine (refRightR _ _ _ _ _ R2.out (by omega)).mono ?_
    rintro e w3 ⟨rfl, m3, hw3⟩
    rw [HL.out]
    have HB3 : Hid (Below w.heap.size w w3) := by show Below _ _ _; rw [hw3]; exact below_dN HB2.out _
    clear hw3
    go_wp2_with fail
    go_ret
    exact ⟨rfl, HB3.out⟩
  have HL := Lib.hid hl
  clear hl
  by_cases h0 : a1 < 0
  · go_enter Try.func4, Try.ntmps4
    go_wp2_with fail
    refine (awake25 _).mono ?_
    rintro e w1 ⟨rfl, hb1⟩
    have HB1 := Lib.hid hb1
    have R1 := Lib.hid (RD.out.below hb1 (Nat.le_refl _))
    clear hb1
    go_wp2_with fail
    refine (goLegs_no _ _ _ _ _ _ R1.out n6 FA.out (.inr h0)).mono ?_
    rintro e w2 ⟨A2, N2, c2, rfl, hr2, hb2⟩
    obtain rfl : N2 = 0 := hr2.1
    have HB2 := Lib.hid (HB1.out.trans (hb2.mono HB1.out.size))
    have R2 := Lib.hid (RD.out.below HB2.out (Nat.le_refl _))
    clear hb2 hr2
    go_wp2_with fail
    refine (refRightR _ _ _ _ _ R2.out (by omega)).mono ?_
    rintro e w3 ⟨rfl, m3, hw3⟩
    rw [HL.out]
    have HB3 : Hid (Below w.heap.size w w3) := by show Below _ _ _; rw [hw3]; exact below_dN HB2.out _
    clear hw3
    go_wp2_with fail
    go_ret
    exact ⟨rfl, HB3.out⟩
  have i0 : 0 ≤ a1 := by omega
  have LB : Hid ((legsOf l0 a1).length ≤ 1000) := by
    have h1 := st_len (l := l0) (least := a1) l0.length
    have := RD.out.1
    show (st l0 a1 l0.length).2.length ≤ _
    omega
  go_enter Try.func4, Try.ntmps4
  go_wp2_with fail
  refine (awake25 _).mono ?_
  rintro e w1 ⟨rfl, hb1⟩
  have HB1 := Lib.hid hb1
  have R1 := Lib.hid (RD.out.below hb1 (Nat.le_refl _))
  clear hb1
  go_wp2_with fail
  refine (goLegs_yes _ _ _ _ _ _ R1.out HL.out n6 ge0 MX.out FA.out i0).mono ?_
  rintro e w2 ⟨A2, N2, c2, rfl, hr2, hb2⟩
  have HB2 := Lib.hid (HB1.out.trans (hb2.mono HB1.out.size))
  have R2 := Lib.hid (RD.out.below HB2.out (Nat.le_refl _))
  have L2 := Lib.hid hr2
  clear hb2 hr2
  go_wp2_with fail
  refine (refRightR _ _ _ _ _ R2.out (by omega)).mono ?_
  rintro e w3 ⟨rfl, m3, hw3⟩
  rw [HL.out]
  have HB3 : Hid (Below w.heap.size w w3) := by show Below _ _ _; rw [hw3]; exact below_dN HB2.out _
  have R3 := Lib.hid (RD.out.below HB3.out (Nat.le_refl _))
  have L3 : Hid (Rd four 4 w3 A2 N2 (legsOf l0 a1)) := by show Rd _ _ _ _ _ _; rw [hw3]; exact L2.out.drewN _
  clear hw3
  go_wp2_with fail
  refine (refLegs _ _ _ _ _ _ R3.out (right_timed HL.out) n6 ge0 MX.out FA.out).mono ?_
  rintro e w4 ⟨A4, N4, c4, rfl, hr4, hb4⟩
  have HB4 := Lib.hid (HB3.out.trans (hb4.mono HB3.out.size))
  have L4 := Lib.hid (L3.out.below hb4 (Nat.le_refl _))
  obtain rfl : N2 = N4 := by rw [L4.out.1, hr4.1]
  have L5 := Lib.hid hr4
  clear hb4 hr4
  go_wp2_with fail
  refine (sameL _ _ _ _ _ _ _ L4.out L5.out (by rw [L4.out.1]; exact LB.out)).mono ?_
  rintro e w5 ⟨rfl, hb5⟩
  have HB5 := Lib.hid (HB4.out.trans (hb5.mono HB4.out.size))
  clear hb5
  go_wp2_with fail
  go_ret
  exact ⟨rfl, HB5.out⟩
end segmentLegsWalk
end Go.Proofs.Ytceohmbjajhlcaa
