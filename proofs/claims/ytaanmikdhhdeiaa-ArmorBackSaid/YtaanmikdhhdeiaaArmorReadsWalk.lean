/-
  ArmorReads, walked: it returns true, whatever the text. No conditions.
-/
import Derived.Test.YtaanmikdhhdeiaaArmRR
import Derived.Test.YtaanmikdhhdeiaaArmorTextsWalk
namespace Go.Proofs.Ytaanmikdhhdeiaa
open Go.ChangeShapes Go.WideShapes Go.ChangeAt Go.RowKit
set_option linter.unusedVariables false

theorem numsTo_le (m : Nat) (l : List Nat) (k : Nat) : (numsTo m l k).length = k := numsTo_len m l k
/-- What is read is no longer than the text. -/
theorem bytes_le (l : List Nat) : (bytesOf l).1.length ≤ l.length := by
  unfold bytesOf
  split
  · simp
  · dsimp only
    split
    · simp
    · split
      · simp
      · split
        · simp
        · show (numsTo _ _ _).length ≤ _
          rw [numsTo_len, bitsL_len, List.length_take]
          have := readOf_le l
          omega
namespace armorReadsWalk
theorem walk (s0 : ByteArray) (w : World) (w0 : s0.size ≤ maxLen) : Calls Try.prog 4 #[.string s0] w fun e w' => e = .returned (.bool true) ∧ Below w.heap.size w w' := by
  by_cases h6 : 1000 < s0.size
  · go_enter Try.func4, Try.ntmps4
    go_wp2_with fail
    refine (goAwake _).mono ?_
    rintro e w1 ⟨rfl, hb1⟩
    have HB1 := Lib.hid hb1
    clear hb1
    go_wp2_with fail
    go_ret
    exact ⟨rfl, HB1.out⟩
  · have n6 : s0.size ≤ 1000 := by omega
    clear h6
    have BL := Lib.hid (bytes_le (byt s0))
    have BS := Lib.hid (byt_len s0)
    go_enter Try.func4, Try.ntmps4
    go_wp2_with fail
    refine (goAwake _).mono ?_
    rintro e w1 ⟨rfl, hb1⟩
    have HB1 := Lib.hid hb1
    clear hb1
    go_wp2_with fail
    refine (goBytes s0 _ (by omega)).mono ?_
    rintro e w2 ⟨A, N, c, rfl, hr2, hb2⟩
    have HB2 := Lib.hid (HB1.out.trans (hb2.mono HB1.out.size))
    obtain ⟨P, hP⟩ : ∃ P, (bytesOf (byt s0)).2.1 = P := ⟨_, rfl⟩
    obtain ⟨Q, hQ⟩ : ∃ Q, (bytesOf (byt s0)).2.2 = Q := ⟨_, rfl⟩
    have HP := Lib.hid hP
    have HQ := Lib.hid hQ
    rw [hP, hQ]
    have R2 := Lib.hid hr2
    clear hb2 hP hQ hr2
    go_wp2_with fail
    refine (refBytes s0 _ (by omega)).mono ?_
    rintro e w3 ⟨A', N', c', rfl, hr3, hb3⟩
    rw [HP.out, HQ.out]
    have HB3 := Lib.hid (HB2.out.trans (hb3.mono HB2.out.size))
    have R3 := Lib.hid (R2.out.below hb3 (Nat.le_refl _))
    obtain rfl : N = N' := by rw [R2.out.1, hr3.1]
    have R3' := Lib.hid hr3
    clear hb3 hr3
    go_wp2_with fail
    refine (refSame _ _ _ _ _ _ _ R3.out R3'.out (by rw [R3.out.1]; have := BL.out; have := BS.out; omega)).mono ?_
    rintro e w4 ⟨rfl, hb4⟩
    have HB4 := Lib.hid (HB3.out.trans (hb4.mono HB3.out.size))
    clear hb4
    go_wp2_with fail
    go_ret
    exact ⟨rfl, HB4.out⟩
end armorReadsWalk
end Go.Proofs.Ytaanmikdhhdeiaa
