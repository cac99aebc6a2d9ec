/-
  HeapSorts, walked: it returns true, whatever the numbers. Conditions: the argument's reading.
-/
import Derived.Test.YtgaonfeljijebaaHeapI
namespace Go.Proofs.Ytgaonfeljijebaa
open Go.ChangeShapes Go.WideShapes Go.ChangeAt Go.RowKit
set_option linter.unusedVariables false

theorem awake16 (w : World) : Calls Try.prog 24 #[] w fun e w' => e = .returned (.bool true) ∧ Below w.heap.size w w' := by
  have s1 : Hid (sorted [3, 1, 2] = [1, 2, 3]) := by show _ = _; decide +kernel
  have ra := Lib.hid (Rd.made one 1 w 3 [3, 1, 2] #[.int .i64 3, .int .i64 1, .int .i64 2] (by simp [one]) rfl)
  go_enter Try.func24, Try.ntmps24
  go_wp2_with fail
  refine (goSorted _ _ _ _ _ ra.out (by simp)).mono ?_
  rintro e w1 ⟨A1, N1, c1, rfl, hr1, hb1⟩
  rw [s1.out] at hr1
  obtain rfl : N1 = 3 := hr1.1
  have HB1 := Lib.hid (below_boxed hb1)
  have z1 := HB1.out.size
  have rb := Lib.hid (hr1.alloc (.cells #[.int .i64 1, .int .i64 2, .int .i64 3] 3))
  have rc := Lib.hid (Rd.made one 1 w1 3 [1, 2, 3] #[.int .i64 1, .int .i64 2, .int .i64 3] (by simp [one]) rfl)
  clear hr1 hb1
  go_wp2_with fail
  refine (sameH _ _ _ _ _ _ _ _ rb.out rc.out (by decide)).mono ?_
  rintro e w3 ⟨rfl, hb3⟩
  have HB3 := Lib.hid ((HB1.out.alloc z1 _).trans (hb3.mono (by simp; omega)))
  clear hb3
  go_wp2_with fail
  go_ret
  exact ⟨rfl, HB3.out⟩
namespace heapSortsWalk
theorem walk (A0 : Option Addr) (n0 c0 : Nat) (l0 : List Int) (w : World) (rd0 : Rd one 1 w A0 n0 l0) (ft0 : ∀ r ∈ l0, Fits r) (ge0 : n0 ≤ c0) (mx0 : c0 ≤ maxLen) :
    Calls Try.prog 6 #[.slice A0 n0 c0] w fun e w' => e = .returned (.bool true) ∧ Below w.heap.size w w' := by
  unfold maxLen at mx0
  by_cases h6 : 500 < n0
  · clear rd0
    go_enter Try.func6, Try.ntmps6
    go_wp2_with fail
    refine (awake16 _).mono ?_
    rintro e w1 ⟨rfl, hb1⟩
    have HB1 := Lib.hid hb1
    clear hb1
    go_wp2_with fail
    go_ret
    exact ⟨rfl, HB1.out⟩
  have n6 : n0 ≤ 500 := by omega
  have RD := Lib.hid rd0
  clear rd0 h6 ft0
  go_enter Try.func6, Try.ntmps6
  go_wp2_with fail
  refine (awake16 _).mono ?_
  rintro e w1 ⟨rfl, hb1⟩
  have HB1 := Lib.hid hb1
  have R1 := Lib.hid (RD.out.below hb1 (Nat.le_refl _))
  clear hb1
  go_wp2_with fail
  refine (goSorted _ _ _ _ _ R1.out n6).mono ?_
  rintro e w2 ⟨A2, N2, c2, rfl, hr2, hb2⟩
  have HB2 := Lib.hid (HB1.out.trans (hb2.mono HB1.out.size))
  have R2 := Lib.hid (RD.out.below HB2.out (Nat.le_refl _))
  have L2 := Lib.hid hr2
  clear hb2 hr2
  go_wp2_with fail
  refine (refSorted _ _ _ _ _ R2.out n6).mono ?_
  rintro e w3 ⟨A3, N3, c3, rfl, hr3, hb3⟩
  have HB3 := Lib.hid (HB2.out.trans (hb3.mono HB2.out.size))
  have L3 := Lib.hid (L2.out.below hb3 (Nat.le_refl _))
  have M3 := Lib.hid hr3
  clear hb3 hr3
  go_wp2_with fail
  refine (sameH _ _ _ _ _ _ _ _ L3.out M3.out (by rw [L3.out.1, sorted_len, ← RD.out.1]; omega)).mono ?_
  rintro e w4 ⟨rfl, hb4⟩
  have HB4 := Lib.hid (HB3.out.trans (hb4.mono HB3.out.size))
  clear hb4
  go_wp2_with fail
  go_ret
  exact ⟨rfl, HB4.out⟩
end heapSortsWalk
end Go.Proofs.Ytgaonfeljijebaa
