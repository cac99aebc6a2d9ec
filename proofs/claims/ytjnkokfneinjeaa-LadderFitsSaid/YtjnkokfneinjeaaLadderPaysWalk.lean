/-
  LadderPays, walked: it returns true, whatever the rungs and the sum. Conditions: the argument's reading.
-/
import Derived.Test.YtjnkokfneinjeaaLadH
namespace Go.Proofs.Ytjnkokfneinjeaa
open Go.ChangeShapes Go.WideShapes Go.ChangeAt Go.RowKit
set_option linter.unusedVariables false

theorem awake31 (w : World) : Calls Try.prog 22 #[] w fun e w' => e = .returned (.bool true) ∧ Below w.heap.size w w' := by
  have r1 : Hid (payOf [(1000, 500), (2000, 0)] 1500 = 1250) := by show _ = _; decide +kernel
  have r2 : Hid (payOf [(1000, 500), (2000, 0)] 9000 = 1500) := by show _ = _; decide +kernel
  have r3 : Hid (ladB [(1000, 500), (2000, 0)] = true) := by show _ = _; decide +kernel
  have ra := Rd.made two 2 w 46 [(1000, 500), (2000, 0)] #[.int .i64 1000, .int .i64 500, .int .i64 2000, .int .i64 0] (by simp [two]) rfl
  have RA := Lib.hid ra
  clear ra
  go_enter Try.func22, Try.ntmps22
  go_wp2_with fail
  refine (goPay_yes _ _ _ _ _ _ RA.out r3.out (by omega) (by omega)).mono ?_
  rintro e w1 ⟨rfl, hb⟩
  rw [r1.out]
  have RB := Lib.hid (RA.out.below hb (Nat.le_refl _))
  have HB := Lib.hid (below_boxed hb)
  clear hb
  go_wp2_with fail
  refine (goPay_yes _ _ _ _ _ _ RB.out r3.out (by omega) (by omega)).mono ?_
  rintro e w2 ⟨rfl, hb⟩
  rw [r2.out]
  have HB2 := Lib.hid (HB.out.trans (hb.mono HB.out.size))
  clear hb
  go_wp2_with fail
  go_ret
  exact ⟨rfl, HB2.out⟩
namespace ladderPaysWalk
set_option maxHeartbeats 2000000 in
theorem walk (A0 : Option Addr) (n0 c0 : Nat) (l0 : List (Int × Int)) (a1 : Int) (w : World) (rd0 : Rd two 2 w A0 n0 l0) (ft0 : ∀ r ∈ l0, ∀ v ∈ two r, Fits v) (ge0 : n0 ≤ c0) (mx0 : c0 ≤ maxLen) (w1 : (Lit.int .i64 a1).wf = true) :
    Calls Try.prog 10 #[.slice A0 n0 c0, .int .i64 a1] w fun e w' => e = .returned (.bool true) ∧ Below w.heap.size w w' := by
  unfold maxLen at mx0
  have fa := wf_fits w1
  clear w1
  by_cases h6 : 100 < n0
  · clear rd0
    go_enter Try.func10, Try.ntmps10
    go_wp2_with fail
    refine (awake31 _).mono ?_
    rintro e w1 ⟨rfl, hb1⟩
    have HB1 := Lib.hid hb1
    clear hb1
    go_wp2_with fail
    go_ret
    exact ⟨rfl, HB1.out⟩
  have n6 : n0 ≤ 100 := by omega
  have RD := Lib.hid rd0
  clear rd0 h6 ft0
  have FA := Lib.hid fa
  obtain ⟨p1, p2⟩ := fa
  rcases hl : ladB l0 with _ | _
  · have HL := Lib.hid hl
    clear hl
    go_enter Try.func10, Try.ntmps10
    go_wp2_with fail
    refine (awake31 _).mono ?_
    rintro e w1 ⟨rfl, hb1⟩
    have HB1 := Lib.hid hb1
    have R1 := Lib.hid (RD.out.below hb1 (Nat.le_refl _))
    clear hb1
    go_wp2_with fail
    refine (goPay_no _ _ _ _ _ _ R1.out n6 FA.out (.inl HL.out)).mono ?_
    rintro e w2 ⟨rfl, hb2⟩
    have HB2 := Lib.hid (HB1.out.trans (hb2.mono HB1.out.size))
    have R2 := Lib.hid (RD.out.below HB2.out (Nat.le_refl _))
    clear hb2
    go_wp2_with fail
    refine (goTop_no _ _ _ _ _ R2.out n6 HL.out).mono ?_
    rintro e w3 ⟨rfl, hb3⟩
    have HB3 := Lib.hid (HB2.out.trans (hb3.mono HB2.out.size))
    have R3 := Lib.hid (RD.out.below HB3.out (Nat.le_refl _))
    clear hb3
    go_wp2_with fail
    refine (goLad _ _ _ _ _ R3.out (by omega)).mono ?_
    rintro e w4 ⟨rfl, hb4⟩
    rw [HL.out]
    have HB4 := Lib.hid (HB3.out.trans (hb4.mono HB3.out.size))
    have R4 := Lib.hid (RD.out.below HB4.out (Nat.le_refl _))
    clear hb4
    go_wp2_with fail
    refine (refLad _ _ _ _ _ R4.out (by omega)).mono ?_
    rintro e w5 ⟨rfl, m5, hw5⟩
    rw [HL.out]
    have HB5 : Hid (Below w.heap.size w w5) := by show Below _ _ _; rw [hw5]; exact below_dN HB4.out _
    have R5 := Lib.hid (RD.out.below HB5.out (Nat.le_refl _))
    clear hw5
    go_wp2_with fail
    refine (refLad _ _ _ _ _ R5.out (by omega)).mono ?_
    rintro e w6 ⟨rfl, m6, hw6⟩
    rw [HL.out]
    have HB6 : Hid (Below w.heap.size w w6) := by show Below _ _ _; rw [hw6]; exact below_dN HB5.out _
    clear hw6
    go_wp2_with fail
    go_ret
    exact ⟨rfl, HB6.out⟩
  have HL := Lib.hid hl
  clear hl
  obtain ⟨T, hT⟩ : ∃ T, payOf l0 281474976710656 = T := ⟨_, rfl⟩
  obtain ⟨C, hC⟩ : ∃ C, cntTo l0 a1 n0 = C := ⟨_, rfl⟩
  have CB : C ≤ n0 := by rw [← hC]; exact cntTo_le _ _ _
  have HT := Lib.hid hT
  have HC := Lib.hid hC
  clear hT hC
  have TT : (T != T) = false := by simp
  have CC : ((C : Int) != (C : Int)) = false := by simp
  by_cases hin : 0 ≤ a1 ∧ a1 ≤ 281474976710656
  · obtain ⟨i1, i2⟩ := hin
    obtain ⟨Y, hY⟩ : ∃ Y, payOf l0 a1 = Y := ⟨_, rfl⟩
    have HY := Lib.hid hY
    have YY : (Y == Y) = true := by simp
    clear hY
    go_enter Try.func10, Try.ntmps10
    go_wp2_with fail
    refine (awake31 _).mono ?_
    rintro e w1 ⟨rfl, hb1⟩
    have HB1 := Lib.hid hb1
    have R1 := Lib.hid (RD.out.below hb1 (Nat.le_refl _))
    clear hb1
    go_wp2_with fail
    refine (goPay_yes _ _ _ _ _ _ R1.out HL.out i1 i2).mono ?_
    rintro e w2 ⟨rfl, hb2⟩
    rw [HY.out]
    have HB2 := Lib.hid (HB1.out.trans (hb2.mono HB1.out.size))
    have R2 := Lib.hid (RD.out.below HB2.out (Nat.le_refl _))
    clear hb2
    go_wp2_with fail
    refine (goTop_yes _ _ _ _ _ R2.out HL.out).mono ?_
    rintro e w3 ⟨rfl, hb3⟩
    rw [HT.out]
    have HB3 := Lib.hid (HB2.out.trans (hb3.mono HB2.out.size))
    have R3 := Lib.hid (RD.out.below HB3.out (Nat.le_refl _))
    clear hb3
    go_wp2_with fail
    refine (goLad _ _ _ _ _ R3.out (by omega)).mono ?_
    rintro e w4 ⟨rfl, hb4⟩
    rw [HL.out]
    have HB4 := Lib.hid (HB3.out.trans (hb4.mono HB3.out.size))
    have R4 := Lib.hid (RD.out.below HB4.out (Nat.le_refl _))
    clear hb4
    go_wp2_with fail
    refine (refLad _ _ _ _ _ R4.out (by omega)).mono ?_
    rintro e w5 ⟨rfl, m5, hw5⟩
    rw [HL.out]
    have HB5 : Hid (Below w.heap.size w w5) := by show Below _ _ _; rw [hw5]; exact below_dN HB4.out _
    have R5 := Lib.hid (RD.out.below HB5.out (Nat.le_refl _))
    clear hw5
    go_wp2_with fail
    refine (refLad _ _ _ _ _ R5.out (by omega)).mono ?_
    rintro e w6 ⟨rfl, m6, hw6⟩
    rw [HL.out]
    have HB6 : Hid (Below w.heap.size w w6) := by show Below _ _ _; rw [hw6]; exact below_dN HB5.out _
    have z6 := HB6.out.size
    clear hw6
    go_wp2_with fail
    go_loopw [9, 52] (fun v i wr => ∃ (k D : Nat), k ≤ n0 ∧ i = .int .i64 k ∧ v = .int .i64 D ∧ D ≤ k ∧ Hid (D = cntTo l0 a1 k) ∧ Hid (Below w.heap.size w wr)) (fun _ i _ => n0 - (intOf i).toNat)
    case atStart => exact ⟨0, 0, Nat.zero_le _, rfl, rfl, Nat.le_refl _, rfl, HB6.out⟩
    case round =>
      obtain ⟨k, D, hk, rfl, rfl, hD, hc, hb⟩ := hrel
      have hsz := hb.out.size
      by_cases hlt : k < n0
      · obtain ⟨x, y, b, off, hA, hx, hcx, hcy⟩ := (RD.out.below hb.out (Nat.le_refl _)).at2 hlt
        subst hA
        have lb := lt_of_cell hcx
        by_cases h1 : x < a1
        · have NX : Hid (D + 1 = cntTo l0 a1 (k + 1)) := by show _ = _; rw [cntTo, ← hc.out, getD_of hx.out, if_pos h1]
          go_wp2_with fail
          go_roundw
          case rel => exact ⟨k + 1, D + 1, by omega, by go_num, by go_num, by omega, NX.out, hb.out.alloc hsz _⟩
          case measure => simp [intOf]; omega
        · have NX : Hid (D = cntTo l0 a1 (k + 1)) := by show _ = _; rw [cntTo, ← hc.out, getD_of hx.out, if_neg h1]; rfl
          go_wp2_with fail
          go_roundw
          case rel => exact ⟨k + 1, D, by omega, by go_num, rfl, by omega, NX.out, hb.out.alloc hsz _⟩
          case measure => simp [intOf]; omega
      · obtain rfl : D = C := by rw [hc.out, ← HC.out, show k = n0 by omega]
        obtain rfl : k = n0 := by omega
        have R7 := Lib.hid (RD.out.below hb.out (Nat.le_refl _))
        go_wp2_with fail
        refine (refPay _ _ _ _ _ _ R7.out HL.out (by omega) (by omega)).mono ?_
        rintro e w8 ⟨rfl, m8, hw8⟩
        rw [HT.out]
        have HB8 : Hid (Below w.heap.size w w8) := by show Below _ _ _; rw [hw8]; exact below_dN hb.out _
        have R8 := Lib.hid (RD.out.below HB8.out (Nat.le_refl _))
        clear hw8
        go_wp2_with fail
        refine (goAt _ _ _ _ _ _ R8.out n6).mono ?_
        rintro e w9 ⟨rfl, hb9⟩
        rw [HC.out]
        have HZ := Lib.hid (HB8.out.trans (hb9.mono HB8.out.size))
        have RZ := Lib.hid (RD.out.below HZ.out (Nat.le_refl _))
        clear hb9
        go_wp2_with fail
        refine (refPay _ _ _ _ _ _ RZ.out HL.out i1 i2).mono ?_
        rintro e wz ⟨rfl, mz, hwz⟩
        rw [HY.out]
        have HBz : Hid (Below w.heap.size w wz) := by show Below _ _ _; rw [hwz]; exact below_dN HZ.out _
        clear hwz
        go_wp2_with fail
        go_ret
        exact ⟨rfl, HBz.out⟩
  · have hout : a1 < 0 ∨ 281474976710656 < a1 := by omega
    clear hin
    go_enter Try.func10, Try.ntmps10
    go_wp2_with fail
    refine (awake31 _).mono ?_
    rintro e w1 ⟨rfl, hb1⟩
    have HB1 := Lib.hid hb1
    have R1 := Lib.hid (RD.out.below hb1 (Nat.le_refl _))
    clear hb1
    go_wp2_with fail
    refine (goPay_no _ _ _ _ _ _ R1.out n6 FA.out (.inr hout)).mono ?_
    rintro e w2 ⟨rfl, hb2⟩
    have HB2 := Lib.hid (HB1.out.trans (hb2.mono HB1.out.size))
    have R2 := Lib.hid (RD.out.below HB2.out (Nat.le_refl _))
    clear hb2
    go_wp2_with fail
    refine (goTop_yes _ _ _ _ _ R2.out HL.out).mono ?_
    rintro e w3 ⟨rfl, hb3⟩
    rw [HT.out]
    have HB3 := Lib.hid (HB2.out.trans (hb3.mono HB2.out.size))
    have R3 := Lib.hid (RD.out.below HB3.out (Nat.le_refl _))
    clear hb3
    go_wp2_with fail
    refine (goLad _ _ _ _ _ R3.out (by omega)).mono ?_
    rintro e w4 ⟨rfl, hb4⟩
    rw [HL.out]
    have HB4 := Lib.hid (HB3.out.trans (hb4.mono HB3.out.size))
    have R4 := Lib.hid (RD.out.below HB4.out (Nat.le_refl _))
    clear hb4
    go_wp2_with fail
    refine (refLad _ _ _ _ _ R4.out (by omega)).mono ?_
    rintro e w5 ⟨rfl, m5, hw5⟩
    rw [HL.out]
    have HB5 : Hid (Below w.heap.size w w5) := by show Below _ _ _; rw [hw5]; exact below_dN HB4.out _
    have R5 := Lib.hid (RD.out.below HB5.out (Nat.le_refl _))
    clear hw5
    go_wp2_with fail
    refine (refLad _ _ _ _ _ R5.out (by omega)).mono ?_
    rintro e w6 ⟨rfl, m6, hw6⟩
    rw [HL.out]
    have HB6 : Hid (Below w.heap.size w w6) := by show Below _ _ _; rw [hw6]; exact below_dN HB5.out _
    have z6 := HB6.out.size
    clear hw6
    go_wp2_with fail
    go_loopw [9, 52] (fun v i wr => ∃ (k D : Nat), k ≤ n0 ∧ i = .int .i64 k ∧ v = .int .i64 D ∧ D ≤ k ∧ Hid (D = cntTo l0 a1 k) ∧ Hid (Below w.heap.size w wr)) (fun _ i _ => n0 - (intOf i).toNat)
    case atStart => exact ⟨0, 0, Nat.zero_le _, rfl, rfl, Nat.le_refl _, rfl, HB6.out⟩
    case round =>
      obtain ⟨k, D, hk, rfl, rfl, hD, hc, hb⟩ := hrel
      have hsz := hb.out.size
      by_cases hlt : k < n0
      · obtain ⟨x, y, b, off, hA, hx, hcx, hcy⟩ := (RD.out.below hb.out (Nat.le_refl _)).at2 hlt
        subst hA
        have lb := lt_of_cell hcx
        by_cases h1 : x < a1
        · have NX : Hid (D + 1 = cntTo l0 a1 (k + 1)) := by show _ = _; rw [cntTo, ← hc.out, getD_of hx.out, if_pos h1]
          go_wp2_with fail
          go_roundw
          case rel => exact ⟨k + 1, D + 1, by omega, by go_num, by go_num, by omega, NX.out, hb.out.alloc hsz _⟩
          case measure => simp [intOf]; omega
        · have NX : Hid (D = cntTo l0 a1 (k + 1)) := by show _ = _; rw [cntTo, ← hc.out, getD_of hx.out, if_neg h1]; rfl
          go_wp2_with fail
          go_roundw
          case rel => exact ⟨k + 1, D, by omega, by go_num, rfl, by omega, NX.out, hb.out.alloc hsz _⟩
          case measure => simp [intOf]; omega
      · obtain rfl : D = C := by rw [hc.out, ← HC.out, show k = n0 by omega]
        obtain rfl : k = n0 := by omega
        have R7 := Lib.hid (RD.out.below hb.out (Nat.le_refl _))
        go_wp2_with fail
        refine (refPay _ _ _ _ _ _ R7.out HL.out (by omega) (by omega)).mono ?_
        rintro e w8 ⟨rfl, m8, hw8⟩
        rw [HT.out]
        have HB8 : Hid (Below w.heap.size w w8) := by show Below _ _ _; rw [hw8]; exact below_dN hb.out _
        have R8 := Lib.hid (RD.out.below HB8.out (Nat.le_refl _))
        clear hw8
        go_wp2_with fail
        refine (goAt _ _ _ _ _ _ R8.out n6).mono ?_
        rintro e w9 ⟨rfl, hb9⟩
        rw [HC.out]
        have HZ := Lib.hid (HB8.out.trans (hb9.mono HB8.out.size))
        have RZ := Lib.hid (RD.out.below HZ.out (Nat.le_refl _))
        clear hb9
        rcases hout with ho | ho
        · go_wp2_with fail
          go_ret
          exact ⟨rfl, HZ.out⟩
        · go_wp2_with fail
          go_ret
          exact ⟨rfl, HZ.out⟩
end ladderPaysWalk
end Go.Proofs.Ytjnkokfneinjeaa
