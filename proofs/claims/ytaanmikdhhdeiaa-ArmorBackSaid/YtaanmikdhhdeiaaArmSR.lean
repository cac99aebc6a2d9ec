/-
  The reference's sign: what a byte is read as. Conditions: a byte.
-/
import Derived.Test.YtaanmikdhhdeiaaArmS
namespace Go.Proofs.Ytaanmikdhhdeiaa
open Go.ChangeShapes Go.WideShapes Go.ChangeAt Go.RowKit
set_option linter.unusedVariables false

theorem sgn_0 {r : Nat} (h : alike (up r) = 48) : sgn r = 0 := sgn_found (k := 0) h (fun j hj => by omega) (by omega) rfl
theorem sgn_1 {r : Nat} (h : alike (up r) = 49) : sgn r = 1 := sgn_found (k := 1) h (fun j hj => by obtain rfl : j = 0 := (by omega); decide) (by omega) rfl
set_option maxHeartbeats 1000000 in
theorem refSign (r : Nat) (w : World) (hr : r < 256) : Calls Try.prog 22 #[.int .u8 (r : Nat)] w fun e w' => e = .returned (.int .i64 (sgn r)) ∧ w = w' := by
  rcases (show r < 97 ∨ (97 ≤ r ∧ r ≤ 122) ∨ 122 < r by omega) with h | ⟨h, h'⟩ | h
  · have HU : Hid (up r = r) := up_less h
    have p0 : (r : Int) < 97 := by omega
    by_cases hc : r = 79
    · have E : Hid (sgn r = 0) := sgn_0 (by rw [HU.out, alike, if_pos hc])
      have g : ((r : Int) == 79) = true := by simp; omega
      clear hc h
      go_enter Try.func22, Try.ntmps22
      go_wp2
      go_ret
      exact ⟨ret_int E.out.symm, rfl⟩
    · have hc79 := hc
      clear hc
      by_cases hc : r = 73
      · have E : Hid (sgn r = 1) := sgn_1 (by rw [HU.out, alike, if_neg (by omega), if_pos (.inl hc)])
        have g : ((r : Int) == 73) = true := by simp; omega
        have g79 : ((r : Int) == 79) = false := by simp; omega
        clear hc h
        go_enter Try.func22, Try.ntmps22
        go_wp2
        go_ret
        exact ⟨ret_int E.out.symm, rfl⟩
      · have hc73 := hc
        clear hc
        by_cases hc : r = 76
        · have E : Hid (sgn r = 1) := sgn_1 (by rw [HU.out, alike, if_neg (by omega), if_pos (.inr hc)])
          have g : ((r : Int) == 76) = true := by simp; omega
          have g79 : ((r : Int) == 79) = false := by simp; omega
          have g73 : ((r : Int) == 73) = false := by simp; omega
          clear hc h
          go_enter Try.func22, Try.ntmps22
          go_wp2
          go_ret
          exact ⟨ret_int E.out.symm, rfl⟩
        · have hc76 := hc
          clear hc
          have HR : Hid (alike (up r) = r) := by show _ = _; rw [HU.out, alike, if_neg (by omega), if_neg (by omega)]
          have g79 : ((r : Int) == 79) = false := by simp; omega
          have g73 : ((r : Int) == 73) = false := by simp; omega
          have g76 : ((r : Int) == 76) = false := by simp; omega
          clear h
          go_enter Try.func22, Try.ntmps22
          go_wp2
          go_loop [3] (fun i => ∃ pos : Nat, pos ≤ 32 ∧ i = .int .i64 pos ∧ Hid (NotTo r pos)) (fun i => 32 - (intOf i).toNat)
          case atStart => exact ⟨0, by omega, rfl, fun j hj => by omega⟩
          case round =>
            obtain ⟨pos, hp, rfl, hn⟩ := hrel
            by_cases hlt : pos < 32
            · have SG := Lib.hid (sg pos hlt)
              obtain ⟨X, hX⟩ : ∃ X, signs.getD pos 0 = X := ⟨_, rfl⟩
              have sgx := SG.out
              rw [hX] at sgx
              by_cases he : X = r
              · have be : ((X : Int) == (r : Int)) = true := by simp; omega
                have E : Hid (sgn r = pos) := sgn_found HR.out hn.out hlt (hX.trans he)
                clear hX he
                go_wp2_with (go_at_call 20; refine (refSigns _).mono ?_; rintro e w' ⟨rfl, rfl⟩)
                go_ret
                exact ⟨ret_int E.out.symm, rfl⟩
              · have be : ((X : Int) == (r : Int)) = false := by simp; omega
                have NX : Hid (NotTo r (pos + 1)) := not_succ hn.out (by rw [hX]; exact he)
                clear hX he
                go_wp2_with (go_at_call 20; refine (refSigns _).mono ?_; rintro e w' ⟨rfl, rfl⟩)
                go_round
                case rel => exact ⟨pos + 1, by omega, by go_num, NX⟩
                case measure => simp [intOf]; omega
            · obtain rfl : pos = 32 := by omega
              have E : Hid (sgn r = -1) := sgn_none HR.out hn.out
              go_wp2
              go_ret
              exact ⟨ret_int E.out.symm, rfl⟩
  · obtain ⟨S, hS⟩ : ∃ S, r = S + 32 := ⟨r - 32, by omega⟩
    have HU : Hid (up r = S) := by show _ = _; rw [up_in h h']; omega
    have p0 : 97 ≤ (r : Int) := by omega
    have p1 : (r : Int) ≤ 122 := by omega
    have s1 : S < 91 := by omega
    have x1 : (r : Int) - 32 = (S : Int) := by omega
    clear hS
    by_cases hc : S = 79
    · have E : Hid (sgn r = 0) := sgn_0 (by rw [HU.out, alike, if_pos hc])
      have g : ((S : Int) == 79) = true := by simp; omega
      clear hc h
      clear h'
      go_enter Try.func22, Try.ntmps22
      go_wp2
      go_ret
      exact ⟨ret_int E.out.symm, rfl⟩
    · have hc79 := hc
      clear hc
      by_cases hc : S = 73
      · have E : Hid (sgn r = 1) := sgn_1 (by rw [HU.out, alike, if_neg (by omega), if_pos (.inl hc)])
        have g : ((S : Int) == 73) = true := by simp; omega
        have g79 : ((S : Int) == 79) = false := by simp; omega
        clear hc h
        clear h'
        go_enter Try.func22, Try.ntmps22
        go_wp2
        go_ret
        exact ⟨ret_int E.out.symm, rfl⟩
      · have hc73 := hc
        clear hc
        by_cases hc : S = 76
        · have E : Hid (sgn r = 1) := sgn_1 (by rw [HU.out, alike, if_neg (by omega), if_pos (.inr hc)])
          have g : ((S : Int) == 76) = true := by simp; omega
          have g79 : ((S : Int) == 79) = false := by simp; omega
          have g73 : ((S : Int) == 73) = false := by simp; omega
          clear hc h
          clear h'
          go_enter Try.func22, Try.ntmps22
          go_wp2
          go_ret
          exact ⟨ret_int E.out.symm, rfl⟩
        · have hc76 := hc
          clear hc
          have HR : Hid (alike (up r) = S) := by show _ = _; rw [HU.out, alike, if_neg (by omega), if_neg (by omega)]
          have g79 : ((S : Int) == 79) = false := by simp; omega
          have g73 : ((S : Int) == 73) = false := by simp; omega
          have g76 : ((S : Int) == 76) = false := by simp; omega
          clear h
          clear h'
          go_enter Try.func22, Try.ntmps22
          go_wp2
          go_loop [3] (fun i => ∃ pos : Nat, pos ≤ 32 ∧ i = .int .i64 pos ∧ Hid (NotTo S pos)) (fun i => 32 - (intOf i).toNat)
          case atStart => exact ⟨0, by omega, rfl, fun j hj => by omega⟩
          case round =>
            obtain ⟨pos, hp, rfl, hn⟩ := hrel
            by_cases hlt : pos < 32
            · have SG := Lib.hid (sg pos hlt)
              obtain ⟨X, hX⟩ : ∃ X, signs.getD pos 0 = X := ⟨_, rfl⟩
              have sgx := SG.out
              rw [hX] at sgx
              by_cases he : X = S
              · have be : ((X : Int) == (S : Int)) = true := by simp; omega
                have E : Hid (sgn r = pos) := sgn_found HR.out hn.out hlt (hX.trans he)
                clear hX he
                go_wp2_with (go_at_call 20; refine (refSigns _).mono ?_; rintro e w' ⟨rfl, rfl⟩)
                go_ret
                exact ⟨ret_int E.out.symm, rfl⟩
              · have be : ((X : Int) == (S : Int)) = false := by simp; omega
                have NX : Hid (NotTo S (pos + 1)) := not_succ hn.out (by rw [hX]; exact he)
                clear hX he
                go_wp2_with (go_at_call 20; refine (refSigns _).mono ?_; rintro e w' ⟨rfl, rfl⟩)
                go_round
                case rel => exact ⟨pos + 1, by omega, by go_num, NX⟩
                case measure => simp [intOf]; omega
            · obtain rfl : pos = 32 := by omega
              have E : Hid (sgn r = -1) := sgn_none HR.out hn.out
              go_wp2
              go_ret
              exact ⟨ret_int E.out.symm, rfl⟩
  · have HU : Hid (up r = r) := up_more h
    have p0 : 122 < (r : Int) := by omega
    have HR : Hid (alike (up r) = r) := by show _ = _; rw [HU.out, alike, if_neg (by omega), if_neg (by omega)]
    have g79 : ((r : Int) == 79) = false := by simp; omega
    have g73 : ((r : Int) == 73) = false := by simp; omega
    have g76 : ((r : Int) == 76) = false := by simp; omega
    clear h
    go_enter Try.func22, Try.ntmps22
    go_wp2
    go_loop [3] (fun i => ∃ pos : Nat, pos ≤ 32 ∧ i = .int .i64 pos ∧ Hid (NotTo r pos)) (fun i => 32 - (intOf i).toNat)
    case atStart => exact ⟨0, by omega, rfl, fun j hj => by omega⟩
    case round =>
      obtain ⟨pos, hp, rfl, hn⟩ := hrel
      by_cases hlt : pos < 32
      · have SG := Lib.hid (sg pos hlt)
        obtain ⟨X, hX⟩ : ∃ X, signs.getD pos 0 = X := ⟨_, rfl⟩
        have sgx := SG.out
        rw [hX] at sgx
        by_cases he : X = r
        · have be : ((X : Int) == (r : Int)) = true := by simp; omega
          have E : Hid (sgn r = pos) := sgn_found HR.out hn.out hlt (hX.trans he)
          clear hX he
          go_wp2_with (go_at_call 20; refine (refSigns _).mono ?_; rintro e w' ⟨rfl, rfl⟩)
          go_ret
          exact ⟨ret_int E.out.symm, rfl⟩
        · have be : ((X : Int) == (r : Int)) = false := by simp; omega
          have NX : Hid (NotTo r (pos + 1)) := not_succ hn.out (by rw [hX]; exact he)
          clear hX he
          go_wp2_with (go_at_call 20; refine (refSigns _).mono ?_; rintro e w' ⟨rfl, rfl⟩)
          go_round
          case rel => exact ⟨pos + 1, by omega, by go_num, NX⟩
          case measure => simp [intOf]; omega
      · obtain rfl : pos = 32 := by omega
        have E : Hid (sgn r = -1) := sgn_none HR.out hn.out
        go_wp2
        go_ret
        exact ⟨ret_int E.out.symm, rfl⟩
end Go.Proofs.Ytaanmikdhhdeiaa
