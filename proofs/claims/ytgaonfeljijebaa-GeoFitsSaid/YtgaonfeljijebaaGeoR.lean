/-
  The whole root: the function of the package geo, digit by digit, and that of its reference, by halves, return it. No conditions but that the number is an int.
-/
import Derived.Test.YtgaonfeljijebaaRows
import Derived.Test.YtgaonfeljijebaaOwn
import Derived.Test.YtgaonfeljijebaaShelf
import Derived.Test.YtgaonfeljijebaaGeoP
namespace Go.Proofs.Ytgaonfeljijebaa
open Go.ChangeShapes Go.WideShapes Go.ChangeAt Go.RowKit
set_option linter.unusedVariables false

set_option maxHeartbeats 800000 in
theorem goRoot (n r : Int) (w : World) (h1 : n ≤ 9223372036854775807) (hr : IsRoot n r) :
    Calls Try.prog 45 #[.int .i64 n] w fun e w' => e = .returned (.int .i64 r) ∧ w = w' := by
  have HR := Lib.hid hr
  clear hr
  by_cases h0 : 0 < n
  · have hb : Lib.bitLen n.toNat ≤ 63 := Lib.bitLen_le n.toNat 63 (by omega) (by omega)
    have HS := Lib.hid (rootTo_start h0 h1)
    obtain ⟨L, hL⟩ : ∃ L : Nat, Hid (Lib.bitLen n.toNat = L) := ⟨_, rfl⟩
    rw [hL.out] at hb HS
    go_enter Try.func45, Try.ntmps45
    go_wp2_with fail
    refine (Try.bits_Len64 _ _ (by omega) (by omega)).mono ?_
    rintro e w' ⟨rfl, rfl⟩
    rw [hL.out]
    go_wp2_with fail
    go_loop [3, 4] (fun r i => ∃ (R : Nat) (I : Int) (k : Nat), r = .int .i64 R ∧ i = .int .i64 I ∧ k ≤ 32 ∧ Hid (I = k - 1) ∧ Hid (RootTo n k R)) (fun _ i => (intOf i + 1).toNat)
    case atStart => exact ⟨0, (L + 1) / 2 - 1, (L + 1) / 2, rfl, rfl, by omega, by show _ = _; omega, HS.out⟩
    case round =>
      obtain ⟨R, I, k, rfl, rfl, hk, hI, hT⟩ := hrel
      rcases Nat.eq_zero_or_pos k with rfl | hpos
      · obtain rfl : I = -1 := hI.out
        have E : Hid (((R : Nat) : Int) = r) := root_same (rootTo_end h0 hT.out) HR.out
        go_wp2_with fail
        go_ret
        exact ⟨ret_int E.out, rfl⟩
      · obtain ⟨j, rfl⟩ : ∃ j, k = j + 1 := ⟨k - 1, by omega⟩
        obtain rfl : I = (j : Int) := by have := hI.out; omega
        have hR := rootTo_bd hT.out h1
        obtain ⟨q, hq⟩ := hT.out.1
        have hj : j ≤ 31 := by omega
        have e1 := tried R j q hq hj hR
        have hXp : 0 < R + 2 ^ j := by have := Nat.pow_pos (n := j) (show 0 < 2 by omega); omega
        have hXb : R + 2 ^ j ≤ 8589934591 := by have := Nat.pow_le_pow_right (n := 2) (by omega) hj; omega
        obtain ⟨X, hX⟩ : ∃ X, Hid (R + 2 ^ j = X) := ⟨_, rfl⟩
        rw [hX.out] at e1 hXp hXb
        have x0 : (0 : Int) < X := by omega
        have x1 : (1 : Int) ≤ X := by omega
        clear hq hI
        by_cases hx : (X : Int) ≤ n / X
        · have G : Hid (RootTo n j X) := by
            have := (le_div_iff x0).1 hx
            rw [← hX.out] at this ⊢
            exact rootTo_more hT.out this
          go_wp2_with fail
          go_round
          case rel => exact ⟨X, _, j, rfl, rfl, by omega, by show _ = _; omega, G.out⟩
          case measure => simp [intOf]
        · have G : Hid (RootTo n j R) := by
            refine rootTo_less hT.out ?_
            rw [hX.out]
            rcases Int.lt_or_le n ((X : Int) * X) with h2 | h2
            · exact h2
            · exact absurd ((le_div_iff x0).2 h2) hx
          go_wp2_with fail
          go_round
          case rel => exact ⟨R, _, j, rfl, rfl, by omega, by show _ = _; omega, G.out⟩
          case measure => simp [intOf]
  · have E : Hid (0 = r) := root_same (.inl ⟨by omega, rfl⟩) HR.out
    go_enter Try.func45, Try.ntmps45
    go_wp2_with fail
    go_ret
    exact ⟨ret_int E.out, rfl⟩

set_option maxHeartbeats 800000 in
theorem refRoot (n r : Int) (w : World) (h0 : -9223372036854775808 ≤ n) (h1 : n ≤ 9223372036854775807) (hr : IsRoot n r) :
    Calls Try.prog 46 #[.int .i64 n] w fun e w' => e = .returned (.int .i64 r) ∧ w = w' := by
  have HR := Lib.hid hr
  clear hr
  go_enter Try.func46, Try.ntmps46
  go_wp2_with fail
  go_loop [3, 4] (fun lo hi => ∃ (L H : Int), lo = .int .i64 L ∧ hi = .int .i64 H ∧ 0 ≤ L ∧ L < H ∧ H ≤ 3037000500 ∧ Hid ((L = 0 ∨ L * L ≤ n) ∧ n < H * H)) (fun lo hi => (intOf hi - intOf lo).toNat)
  case atStart => exact ⟨0, 3037000500, rfl, rfl, by omega, by omega, by omega, .inl rfl, by omega⟩
  case round =>
    obtain ⟨L, H, rfl, rfl, hL, hLH, hH, hq⟩ := hrel
    by_cases hd : 1 < H - L
    · have m0 : 0 ≤ (L + H) / 2 := by omega
      have m1 : (L + H) / 2 ≤ 3037000499 := by omega
      have p0 : 0 ≤ (L + H) / 2 * ((L + H) / 2) := Int.mul_nonneg m0 m0
      have p1 : (L + H) / 2 * ((L + H) / 2) ≤ 9223372030926249001 := by have := sq_le m0 m1; omega
      by_cases hm : (L + H) / 2 * ((L + H) / 2) ≤ n
      · have G : Hid (((L + H) / 2 = 0 ∨ (L + H) / 2 * ((L + H) / 2) ≤ n) ∧ n < H * H) := ⟨.inr hm, hq.out.2⟩
        go_wp2_with fail
        go_round
        case rel => exact ⟨(L + H) / 2, H, rfl, rfl, m0, by omega, hH, G.out⟩
        case measure => simp [intOf]; omega
      · have G : Hid ((L = 0 ∨ L * L ≤ n) ∧ n < (L + H) / 2 * ((L + H) / 2)) := ⟨hq.out.1, by omega⟩
        go_wp2_with fail
        go_round
        case rel => exact ⟨L, (L + H) / 2, rfl, rfl, hL, by omega, by omega, G.out⟩
        case measure => simp [intOf]; omega
    · obtain rfl : H = L + 1 := by omega
      have E : Hid (L = r) := by
        refine root_same ?_ HR.out
        rcases Int.lt_or_le 0 n with h2 | h2
        · refine .inr ⟨h2, hL, ?_, hq.out.2⟩
          rcases hq.out.1 with h3 | h3
          · rw [h3]; omega
          · exact h3
        · refine .inl ⟨h2, ?_⟩
          rcases hq.out.1 with h3 | h3
          · exact h3
          · rcases Int.lt_or_le 0 L with h4 | h4
            · have := sq_le (a := 1) (b := L) (by omega) (by omega); omega
            · omega
      go_wp2_with fail
      go_ret
      exact ⟨ret_int E.out, rfl⟩
end Go.Proofs.Ytgaonfeljijebaa
