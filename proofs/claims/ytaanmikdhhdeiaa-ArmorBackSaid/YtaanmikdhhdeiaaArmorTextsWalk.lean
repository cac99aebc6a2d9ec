/-
  ArmorTexts, walked: it returns true, whatever the bytes. Conditions: the argument's reading.
-/
import Derived.Test.YtaanmikdhhdeiaaArmU
import Derived.Test.YtaanmikdhhdeiaaArmRd
namespace Go.Proofs.Ytaanmikdhhdeiaa
open Go.ChangeShapes Go.WideShapes Go.ChangeAt Go.RowKit
set_option linter.unusedVariables false

theorem zws : strN (textOf [255]) = { data := #[90, 87, 83] } := by decide +kernel
theorem goAwake (w : World) : Calls Try.prog 6 #[] w fun e w' => e = .returned (.bool true) ∧ Below w.heap.size w w' := by
  have RD : Hid (RdK .u8 (w.alloc (.cells #[.int .u8 255] 5)) (some ⟨w.heap.size, 0, none⟩) 1 [255]) := by
    refine ⟨rfl, fun i x hx => ?_⟩
    match i, hx with
    | 0, hx => cases hx; exact ⟨_, 0, rfl, by simp, Bk.cell (Bk.new w 5 _) 0⟩
  go_enter Try.func6, Try.ntmps6
  go_wp2_with fail
  refine (goText _ _ _ [255] _ RD.out (by omega) (fun x hx => by rw [List.mem_singleton.1 hx]; omega)).mono ?_
  rintro e w1 ⟨rfl, hb⟩
  rw [zws]
  have HB := Lib.hid (below_boxed hb)
  clear hb
  go_wp2_with fail
  go_ret
  exact ⟨rfl, HB.out⟩
namespace armorTextsWalk
theorem walk (A0 : Option Addr) (n0 c0 : Nat) (l0 : List Nat) (w : World) (rd0 : RdK .u8 w A0 n0 l0) (ft0 : Small 256 l0) (ge0 : n0 ≤ c0) (mx0 : c0 ≤ maxLen) :
    Calls Try.prog 3 #[.slice A0 n0 c0] w fun e w' => e = .returned (.bool true) ∧ Below w.heap.size w w' := by
  unfold maxLen at mx0
  by_cases h6 : 600 < n0
  · go_enter Try.func3, Try.ntmps3
    go_wp2_with fail
    refine (goAwake _).mono ?_
    rintro e w1 ⟨rfl, hb1⟩
    have HB1 := Lib.hid hb1
    clear hb1
    go_wp2_with fail
    go_ret
    exact ⟨rfl, HB1.out⟩
  · have n6 : n0 ≤ 600 := by omega
    have RD := Lib.hid rd0
    clear rd0 h6
    have CH := Lib.hid (chk_lt l0)
    obtain ⟨K, hK⟩ : ∃ K, chk l0 = K := ⟨_, rfl⟩
    have K31 : K < 31 := by rw [← hK]; exact CH.out
    have HK := Lib.hid hK
    clear hK CH
    go_enter Try.func3, Try.ntmps3
    go_wp2_with fail
    refine (goAwake _).mono ?_
    rintro e w1 ⟨rfl, hb1⟩
    have HB1 := Lib.hid hb1
    have R1 := Lib.hid (RD.out.below hb1 (Nat.le_refl _))
    clear hb1
    go_wp2_with fail
    refine (goText _ _ _ _ _ R1.out (by omega) ft0).mono ?_
    rintro e w2 ⟨rfl, hb2⟩
    have HB2 := Lib.hid (HB1.out.trans (hb2.mono HB1.out.size))
    have R2 := Lib.hid (R1.out.below hb2 (Nat.le_refl _))
    clear hb2
    go_wp2_with fail
    refine (refText _ _ _ _ _ R2.out (by omega) ft0).mono ?_
    rintro e w3 ⟨rfl, hb3⟩
    have HB3 := Lib.hid (HB2.out.trans (hb3.mono HB2.out.size))
    have R3 := Lib.hid (R2.out.below hb3 (Nat.le_refl _))
    clear hb3
    go_wp2_with fail
    refine (goChk _ _ _ _ _ R3.out (by omega) ft0).mono ?_
    rintro e w4 ⟨rfl, rfl⟩
    rw [HK.out]
    go_wp2_with fail
    refine (refChk _ _ _ _ _ R3.out (by omega) ft0).mono ?_
    rintro e w4 ⟨rfl, rfl⟩
    rw [HK.out]
    go_wp2_with fail
    go_ret
    exact ⟨rfl, HB3.out⟩
end armorTextsWalk
end Go.Proofs.Ytaanmikdhhdeiaa
