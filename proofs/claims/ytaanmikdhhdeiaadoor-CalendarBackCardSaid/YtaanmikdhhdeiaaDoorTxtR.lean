/-
  The reference's digits and Text. Conditions: a number from 0 on, up to four digits.
-/
import Derived.Test.YtaanmikdhhdeiaaDoorTxtG
import Derived.Laws.BytesArg
import Derived.WalkSpells
namespace Go.Proofs.YtaanmikdhhdeiaaDoor
open Go.ChangeShapes Go.WideShapes Go.ChangeAt Go.RowKit
set_option linter.unusedVariables false

/-- The lowest j digits. -/
def lowTo (n : Int) : Nat → List Int
  | 0 => []
  | j + 1 => (48 + n / ten j % 10) :: lowTo n j
theorem low4 (n : Int) : lowTo n 4 = dgTo n 4 4 := rfl
theorem low2 (n : Int) : lowTo n 2 = dgTo n 2 2 := rfl
theorem nums_app (a b : List Int) : strOfNums (a ++ b) = strOfNums a ++ strOfNums b := by
  apply ByteArray.ext
  apply Array.toList_inj.1
  simp [strOfNums_data]
theorem nums_size (a : List Int) : (strOfNums a).size = a.length := by
  have : (strOfNums a).data.toList.length = a.length := by rw [strOfNums_data]; simp
  simpa using this
theorem lowTo_len (n : Int) : ∀ j, (lowTo n j).length = j
  | 0 => rfl
  | j + 1 => by rw [lowTo, List.length_cons, lowTo_len n j]
theorem ret_str {a b : ByteArray} (h : a = b) : Ending.returned (.string a) = .returned (.string b) := by rw [h]
set_option maxHeartbeats 1000000 in
theorem refDigits (n : Int) (sz : Nat) (w : World) (hn : 0 ≤ n) (hn2 : n ≤ 100000) (hs : sz ≤ 4) :
    Calls Tryd.prog 23 #[.int .i64 n, .int .i64 (sz : Nat)] w fun e w' => e = .returned (.string (strOfNums (lowTo n sz))) ∧ w = w' := by
  go_enter Tryd.func23, Tryd.ntmps23
  go_wp2
  go_loop [0, 5, 6] (fun x v i => ∃ (j : Nat) (N : Int) (s : ByteArray), j ≤ sz ∧ i = .int .i64 j ∧ x = .int .i64 N ∧ v = .string s ∧ 0 ≤ N ∧ N ≤ 100000 ∧ Hid (N = n / ten j) ∧ Hid (s = strOfNums (lowTo n j))) (fun _ _ i => sz - (intOf i).toNat)
  case atStart => exact ⟨0, n, _, by omega, rfl, rfl, rfl, hn, hn2, by show _ = _; simp [ten], rfl⟩
  case round =>
    obtain ⟨j, N, s, hj, rfl, rfl, rfl, N0, N1, hN, hS⟩ := hrel
    by_cases hlt : j < sz
    · have d0 : 0 ≤ N % 10 := by omega
      have d1 : N % 10 ≤ 9 := by omega
      obtain ⟨D, hD⟩ := Int.eq_ofNat_of_zero_le d0
      have D9 : D ≤ 9 := by omega
      have SZ : Hid (s.size = j) := by show _ = _; rw [hS.out, nums_size, lowTo_len]
      have H1 : ¬ 9223372036854775807 < min (D + 1) 10 - D + s.size := by have := SZ.out; omega
      have ND := Lib.hid hD
      have NX : Hid (N / 10 = n / ten (j + 1)) := by show _ = _; rw [hN.out, ten_succ, Int.ediv_ediv_of_nonneg (by have := (ten_bd (k := j) (by omega)).1; omega)]
      have DX : Hid (∀ t : ByteArray, ({ data := #[48, 49, 50, 51, 52, 53, 54, 55, 56, 57] } : ByteArray).extract D (D + 1) ++ t = strOfNums [48 + (D : Int)] ++ t) := fun t => by
        have := SZ.out
        match D, D9 with
        | 0, _ | 1, _ | 2, _ | 3, _ | 4, _ | 5, _ | 6, _ | 7, _ | 8, _ | 9, _ => rfl
      go_wp2
      go_round
      case rel =>
        refine ⟨j + 1, N / 10, _, by omega, by go_num, rfl, rfl, by omega, by omega, NX, ?_⟩
        show _ = _
        rw [DX.out, hS.out, ← nums_app, lowTo, ← hN.out, ND.out]
        rfl
      case measure => simp [intOf]; omega
    · obtain rfl : j = sz := by omega
      go_wp2
      go_ret
      exact ⟨ret_str hS.out, rfl⟩
end Go.Proofs.YtaanmikdhhdeiaaDoor
