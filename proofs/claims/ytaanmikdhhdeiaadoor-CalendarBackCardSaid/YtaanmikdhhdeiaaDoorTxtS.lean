/-
  The reference's Text. Conditions: a date's numbers.
-/
import Derived.Test.YtaanmikdhhdeiaaDoorTxtR
namespace Go.Proofs.YtaanmikdhhdeiaaDoor
open Go.ChangeShapes Go.WideShapes Go.ChangeAt Go.RowKit
set_option linter.unusedVariables false

/-- A date's text, as bytes. -/
def nums (y m d : Int) : List Int := lowTo y 4 ++ [45] ++ lowTo m 2 ++ [45] ++ lowTo d 2
def txt (y m d : Int) : ByteArray := strOfNums (nums y m d)
theorem refDigits_cb {CB : Int → Int → ByteArray} (n z : Int) (w : World) (h : ∀ n z, strOfNums (lowTo n z.toNat) = CB n z) (hn : 0 ≤ n) (hn2 : n ≤ 100000) (h0 : 0 ≤ z) (hs : z ≤ 4) :
    Calls Tryd.prog 23 #[.int .i64 n, .int .i64 z] w fun e w' => e = .returned (.string (CB n z)) ∧ w = w' := by
  obtain ⟨k, rfl⟩ := Int.eq_ofNat_of_zero_le h0
  rw [← h]
  exact refDigits n k w hn hn2 (by omega)
set_option maxHeartbeats 1000000 in
theorem refText (y m d : Int) (w : World) (y0 : 0 ≤ y) (y1 : y ≤ 9999) (m0 : 0 ≤ m) (m1 : m ≤ 99) (d0 : 0 ≤ d) (d1 : d ≤ 99) :
    Calls Tryd.prog 17 #[.agg #[.int .i64 y, .int .i64 m, .int .i64 d]] w fun e w' => e = .returned (.string (txt y m d)) ∧ Below w.heap.size w w' := by
  obtain ⟨CB, hCB⟩ : ∃ CB : Int → Int → ByteArray, ∀ n z, strOfNums (lowTo n z.toNat) = CB n z := ⟨fun n z => strOfNums (lowTo n z.toNat), fun _ _ => rfl⟩
  have sA : (CB y 4).size = 4 := by rw [← hCB, nums_size, lowTo_len]; rfl
  have sB : (CB m 2).size = 2 := by rw [← hCB, nums_size, lowTo_len]; rfl
  have sC : (CB d 2).size = 2 := by rw [← hCB, nums_size, lowTo_len]; rfl
  have E : Hid (CB y 4 ++ ⟨#[45]⟩ ++ CB m 2 ++ ⟨#[45]⟩ ++ CB d 2 = txt y m d) := by
    show _ = _
    rw [txt, nums, nums_app, nums_app, nums_app, nums_app, ← hCB, ← hCB, ← hCB]
    rfl
  have HC := Lib.hid hCB
  clear hCB
  go_enter Tryd.func17, Tryd.ntmps17
  go_wp2
  go_quiet ((go_at_call 23; exact quiet_same (refDigits_cb _ _ _ HC.out (by omega) (by omega) (by omega) (by omega))))
  go_wp2
  go_ret
  exact ⟨ret_str E.out, below_dN ((Below.refl _ _).alloc (Nat.le_refl _) _) nq⟩
end Go.Proofs.YtaanmikdhhdeiaaDoor
