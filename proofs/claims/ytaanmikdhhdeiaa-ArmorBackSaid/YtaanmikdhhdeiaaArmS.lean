/-
  armor.sign and the reference's sign: what a sign is read as. Conditions: a rune from 0 on; a byte.
-/
import Derived.Test.YtaanmikdhhdeiaaArmU
import Derived.Laws.RangeAny
namespace Go.Proofs.Ytaanmikdhhdeiaa
open Go.ChangeShapes Go.WideShapes Go.ChangeAt Go.RowKit
set_option linter.unusedVariables false

/-- What a sign is read as; -1: none. -/
def sgn (r : Nat) : Int := if five r < 32 then (five r : Int) else -1
/-- The first k signs are not R. -/
def NotTo (R k : Nat) : Prop := ∀ j, j < k → signs.getD j 0 ≠ R
theorem not_succ {R k : Nat} (h : NotTo R k) (h' : signs.getD k 0 ≠ R) : NotTo R (k + 1) := fun j hj => by
  rcases Nat.lt_or_ge j k with h1 | h1
  · exact h j h1
  · obtain rfl : j = k := by omega
    exact h'
theorem five_found {R k : Nat} (hn : NotTo R k) (hk : k < 32) (h : signs.getD k 0 = R) : signs.findIdx (· == R) = k := by
  have hl : signs.length = 32 := rfl
  have e : signs.getD k 0 = signs[k]'(by omega) := by rw [List.getD_eq_getElem?_getD, List.getElem?_eq_getElem (by omega), Option.getD_some]
  rw [List.findIdx_eq (by omega)]
  refine ⟨by rw [← e, h]; simp, fun j hj => ?_⟩
  have e2 : signs.getD j 0 = signs[j]'(by omega) := by rw [List.getD_eq_getElem?_getD, List.getElem?_eq_getElem (by omega), Option.getD_some]
  have := hn j hj
  rw [e2] at this
  simpa using this
theorem five_none {R : Nat} (hn : NotTo R 32) : ¬ signs.findIdx (· == R) < 32 := fun hlt => by
  have hl : signs.length = 32 := rfl
  have h1 := List.findIdx_getElem (p := (· == R)) (xs := signs) (w := by rw [hl]; exact hlt)
  have h2 := hn _ hlt
  rw [List.getD_eq_getElem?_getD, List.getElem?_eq_getElem (by rw [hl]; exact hlt), Option.getD_some] at h2
  exact h2 (by simpa using h1)
theorem sgn_found {r R k : Nat} (hR : alike (up r) = R) (hn : NotTo R k) (hk : k < 32) (h : signs.getD k 0 = R) : sgn r = k := by
  have e : five r = k := by unfold five; rw [hR]; exact five_found hn hk h
  unfold sgn
  rw [e, if_pos hk]
theorem sgn_none {r R : Nat} (hR : alike (up r) = R) (hn : NotTo R 32) : sgn r = -1 := by
  have e : ¬ five r < 32 := by unfold five; rw [hR]; exact five_none hn
  unfold sgn
  rw [if_neg e]
theorem ascii_signs : ∀ y : Fin 32, (({ data := #[48, 49, 50, 51, 52, 53, 54, 55, 56, 57, 65, 66, 67, 68, 69, 70, 71, 72, 74, 75, 77, 78, 80, 81, 82, 83, 84, 86, 87, 88, 89, 90] } : ByteArray)[y.val]'(y.isLt)).toNat < 128 := by decide
theorem next_sign (w : World) (pos : Nat) (ty : TypeId) (h : pos < 32) : (Instr.next (.pointer (some ⟨w.heap.size, 0, none⟩)) true ty).run Try.prog (w.iter { data := #[48, 49, 50, 51, 52, 53, 54, 55, 56, 57, 65, 66, 67, 68, 69, 70, 71, 72, 74, 75, 77, 78, 80, 81, 82, 83, 84, 86, 87, 88, 89, 90] } pos) = .ok (.tuple #[.bool true, .int .i64 pos, .int .i32 (signs.getD pos 0 : Nat)]) (w.iter { data := #[48, 49, 50, 51, 52, 53, 54, 55, 56, 57, 65, 66, 67, 68, 69, 70, 71, 72, 74, 75, 77, 78, 80, 81, 82, 83, 84, 86, 87, 88, 89, 90] } (pos + 1)) := by
  rw [run_next_ascii w ({ data := #[48, 49, 50, 51, 52, 53, 54, 55, 56, 57, 65, 66, 67, 68, 69, 70, 71, 72, 74, 75, 77, 78, 80, 81, 82, 83, 84, 86, 87, 88, 89, 90] } : ByteArray) pos ty h (ascii_signs ⟨pos, h⟩), sg]
theorem up_less {r : Nat} (h : r < 97) : up r = r := by unfold up; rw [if_neg (by omega)]
theorem up_more {r : Nat} (h : 122 < r) : up r = r := by unfold up; rw [if_neg (by omega)]
theorem up_in {r : Nat} (h : 97 ≤ r) (h' : r ≤ 122) : up r = r - 32 := by unfold up; rw [if_pos ⟨h, h'⟩]
set_option maxHeartbeats 1000000 in
/-- The walk behind the small letters. -/
theorem goSign (r : Nat) (w : World) (hr : r ≤ 2147483647) : Calls Try.prog 21 #[.int .i32 (r : Nat)] w fun e w' => e = .returned (.int .i64 (sgn r)) ∧ Below w.heap.size w w' := by
  rcases (show r < 97 ∨ (97 ≤ r ∧ r ≤ 122) ∨ 122 < r by omega) with h | ⟨h, h'⟩ | h
  · have HU : Hid (up r = r) := up_less h
    have p0 : (r : Int) < 97 := by omega
    by_cases hc : r = 79
    · have HR : Hid (alike (up r) = 48) := by show _ = _; rw [HU.out, alike, if_pos hc]
      have g : ((r : Int) == 79) = true := by simp; omega
      clear hc h
      go_enter Try.func21, Try.ntmps21
      go_wp2
      go_loopw [3, 4] (fun _ _ w' => ∃ pos : Nat, pos ≤ 32 ∧ w' = w.iter { data := #[48, 49, 50, 51, 52, 53, 54, 55, 56, 57, 65, 66, 67, 68, 69, 70, 71, 72, 74, 75, 77, 78, 80, 81, 82, 83, 84, 86, 87, 88, 89, 90] } pos ∧ Hid (NotTo 48 pos)) (fun _ _ w' => 32 - w'.iterPos w.heap.size)
      case atStart => exact ⟨0, by omega, rfl, fun j hj => by omega⟩
      case round =>
        obtain ⟨pos, hp, rfl, hn⟩ := hrel
        by_cases hlt : pos < 32
        · have hnx : ∀ ty, (Instr.next (.pointer (some ⟨w.heap.size, 0, none⟩)) true ty).run Try.prog (w.iter { data := #[48, 49, 50, 51, 52, 53, 54, 55, 56, 57, 65, 66, 67, 68, 69, 70, 71, 72, 74, 75, 77, 78, 80, 81, 82, 83, 84, 86, 87, 88, 89, 90] } pos) = .ok (.tuple #[.bool true, .int .i64 pos, .int .i32 (signs.getD pos 0 : Nat)]) (w.iter { data := #[48, 49, 50, 51, 52, 53, 54, 55, 56, 57, 65, 66, 67, 68, 69, 70, 71, 72, 74, 75, 77, 78, 80, 81, 82, 83, 84, 86, 87, 88, 89, 90] } (pos + 1)) := fun ty => next_sign w pos ty hlt
          obtain ⟨X, hX⟩ : ∃ X, signs.getD pos 0 = X := ⟨_, rfl⟩
          rw [hX] at hnx
          by_cases he : X = 48
          · have be : ((X : Int) == 48) = true := by simp; omega
            have E : Hid (sgn r = pos) := sgn_found HR.out hn.out hlt (hX.trans he)
            clear hX he
            go_wp2
            go_ret
            exact ⟨ret_int E.out.symm, ((Below.refl _ _).alloc (Nat.le_refl _) _)⟩
          · have be : ((X : Int) == 48) = false := by simp; omega
            have NX : Hid (NotTo 48 (pos + 1)) := not_succ hn.out (by rw [hX]; exact he)
            clear hX he
            go_wp2
            go_roundw
            case rel => exact ⟨pos + 1, by omega, rfl, NX⟩
            case measure => simp; omega
        · obtain rfl : pos = 32 := by omega
          have hnx : ∀ ty, (Instr.next (.pointer (some ⟨w.heap.size, 0, none⟩)) true ty).run Try.prog (w.iter { data := #[48, 49, 50, 51, 52, 53, 54, 55, 56, 57, 65, 66, 67, 68, 69, 70, 71, 72, 74, 75, 77, 78, 80, 81, 82, 83, 84, 86, 87, 88, 89, 90] } 32) = _ := fun ty => run_next_end w _ 32 ty (by decide)
          have E : Hid (sgn r = -1) := sgn_none HR.out hn.out
          go_wp2
          go_ret
          exact ⟨ret_int E.out.symm, ((Below.refl _ _).alloc (Nat.le_refl _) _)⟩
    · have hc79 := hc
      clear hc
      by_cases hc : r = 73
      · have HR : Hid (alike (up r) = 49) := by show _ = _; rw [HU.out, alike, if_neg (by omega), if_pos (.inl hc)]
        have g : ((r : Int) == 73) = true := by simp; omega
        have g79 : ((r : Int) == 79) = false := by simp; omega
        clear hc h
        go_enter Try.func21, Try.ntmps21
        go_wp2
        go_loopw [3, 4] (fun _ _ w' => ∃ pos : Nat, pos ≤ 32 ∧ w' = w.iter { data := #[48, 49, 50, 51, 52, 53, 54, 55, 56, 57, 65, 66, 67, 68, 69, 70, 71, 72, 74, 75, 77, 78, 80, 81, 82, 83, 84, 86, 87, 88, 89, 90] } pos ∧ Hid (NotTo 49 pos)) (fun _ _ w' => 32 - w'.iterPos w.heap.size)
        case atStart => exact ⟨0, by omega, rfl, fun j hj => by omega⟩
        case round =>
          obtain ⟨pos, hp, rfl, hn⟩ := hrel
          by_cases hlt : pos < 32
          · have hnx : ∀ ty, (Instr.next (.pointer (some ⟨w.heap.size, 0, none⟩)) true ty).run Try.prog (w.iter { data := #[48, 49, 50, 51, 52, 53, 54, 55, 56, 57, 65, 66, 67, 68, 69, 70, 71, 72, 74, 75, 77, 78, 80, 81, 82, 83, 84, 86, 87, 88, 89, 90] } pos) = .ok (.tuple #[.bool true, .int .i64 pos, .int .i32 (signs.getD pos 0 : Nat)]) (w.iter { data := #[48, 49, 50, 51, 52, 53, 54, 55, 56, 57, 65, 66, 67, 68, 69, 70, 71, 72, 74, 75, 77, 78, 80, 81, 82, 83, 84, 86, 87, 88, 89, 90] } (pos + 1)) := fun ty => next_sign w pos ty hlt
            obtain ⟨X, hX⟩ : ∃ X, signs.getD pos 0 = X := ⟨_, rfl⟩
            rw [hX] at hnx
            by_cases he : X = 49
            · have be : ((X : Int) == 49) = true := by simp; omega
              have E : Hid (sgn r = pos) := sgn_found HR.out hn.out hlt (hX.trans he)
              clear hX he
              go_wp2
              go_ret
              exact ⟨ret_int E.out.symm, ((Below.refl _ _).alloc (Nat.le_refl _) _)⟩
            · have be : ((X : Int) == 49) = false := by simp; omega
              have NX : Hid (NotTo 49 (pos + 1)) := not_succ hn.out (by rw [hX]; exact he)
              clear hX he
              go_wp2
              go_roundw
              case rel => exact ⟨pos + 1, by omega, rfl, NX⟩
              case measure => simp; omega
          · obtain rfl : pos = 32 := by omega
            have hnx : ∀ ty, (Instr.next (.pointer (some ⟨w.heap.size, 0, none⟩)) true ty).run Try.prog (w.iter { data := #[48, 49, 50, 51, 52, 53, 54, 55, 56, 57, 65, 66, 67, 68, 69, 70, 71, 72, 74, 75, 77, 78, 80, 81, 82, 83, 84, 86, 87, 88, 89, 90] } 32) = _ := fun ty => run_next_end w _ 32 ty (by decide)
            have E : Hid (sgn r = -1) := sgn_none HR.out hn.out
            go_wp2
            go_ret
            exact ⟨ret_int E.out.symm, ((Below.refl _ _).alloc (Nat.le_refl _) _)⟩
      · have hc73 := hc
        clear hc
        by_cases hc : r = 76
        · have HR : Hid (alike (up r) = 49) := by show _ = _; rw [HU.out, alike, if_neg (by omega), if_pos (.inr hc)]
          have g : ((r : Int) == 76) = true := by simp; omega
          have g79 : ((r : Int) == 79) = false := by simp; omega
          have g73 : ((r : Int) == 73) = false := by simp; omega
          clear hc h
          go_enter Try.func21, Try.ntmps21
          go_wp2
          go_loopw [3, 4] (fun _ _ w' => ∃ pos : Nat, pos ≤ 32 ∧ w' = w.iter { data := #[48, 49, 50, 51, 52, 53, 54, 55, 56, 57, 65, 66, 67, 68, 69, 70, 71, 72, 74, 75, 77, 78, 80, 81, 82, 83, 84, 86, 87, 88, 89, 90] } pos ∧ Hid (NotTo 49 pos)) (fun _ _ w' => 32 - w'.iterPos w.heap.size)
          case atStart => exact ⟨0, by omega, rfl, fun j hj => by omega⟩
          case round =>
            obtain ⟨pos, hp, rfl, hn⟩ := hrel
            by_cases hlt : pos < 32
            · have hnx : ∀ ty, (Instr.next (.pointer (some ⟨w.heap.size, 0, none⟩)) true ty).run Try.prog (w.iter { data := #[48, 49, 50, 51, 52, 53, 54, 55, 56, 57, 65, 66, 67, 68, 69, 70, 71, 72, 74, 75, 77, 78, 80, 81, 82, 83, 84, 86, 87, 88, 89, 90] } pos) = .ok (.tuple #[.bool true, .int .i64 pos, .int .i32 (signs.getD pos 0 : Nat)]) (w.iter { data := #[48, 49, 50, 51, 52, 53, 54, 55, 56, 57, 65, 66, 67, 68, 69, 70, 71, 72, 74, 75, 77, 78, 80, 81, 82, 83, 84, 86, 87, 88, 89, 90] } (pos + 1)) := fun ty => next_sign w pos ty hlt
              obtain ⟨X, hX⟩ : ∃ X, signs.getD pos 0 = X := ⟨_, rfl⟩
              rw [hX] at hnx
              by_cases he : X = 49
              · have be : ((X : Int) == 49) = true := by simp; omega
                have E : Hid (sgn r = pos) := sgn_found HR.out hn.out hlt (hX.trans he)
                clear hX he
                go_wp2
                go_ret
                exact ⟨ret_int E.out.symm, ((Below.refl _ _).alloc (Nat.le_refl _) _)⟩
              · have be : ((X : Int) == 49) = false := by simp; omega
                have NX : Hid (NotTo 49 (pos + 1)) := not_succ hn.out (by rw [hX]; exact he)
                clear hX he
                go_wp2
                go_roundw
                case rel => exact ⟨pos + 1, by omega, rfl, NX⟩
                case measure => simp; omega
            · obtain rfl : pos = 32 := by omega
              have hnx : ∀ ty, (Instr.next (.pointer (some ⟨w.heap.size, 0, none⟩)) true ty).run Try.prog (w.iter { data := #[48, 49, 50, 51, 52, 53, 54, 55, 56, 57, 65, 66, 67, 68, 69, 70, 71, 72, 74, 75, 77, 78, 80, 81, 82, 83, 84, 86, 87, 88, 89, 90] } 32) = _ := fun ty => run_next_end w _ 32 ty (by decide)
              have E : Hid (sgn r = -1) := sgn_none HR.out hn.out
              go_wp2
              go_ret
              exact ⟨ret_int E.out.symm, ((Below.refl _ _).alloc (Nat.le_refl _) _)⟩
        · have hc76 := hc
          clear hc
          have HR : Hid (alike (up r) = r) := by show _ = _; rw [HU.out, alike, if_neg (by omega), if_neg (by omega)]
          have g79 : ((r : Int) == 79) = false := by simp; omega
          have g73 : ((r : Int) == 73) = false := by simp; omega
          have g76 : ((r : Int) == 76) = false := by simp; omega
          clear h
          go_enter Try.func21, Try.ntmps21
          go_wp2
          go_loopw [3, 4] (fun _ _ w' => ∃ pos : Nat, pos ≤ 32 ∧ w' = w.iter { data := #[48, 49, 50, 51, 52, 53, 54, 55, 56, 57, 65, 66, 67, 68, 69, 70, 71, 72, 74, 75, 77, 78, 80, 81, 82, 83, 84, 86, 87, 88, 89, 90] } pos ∧ Hid (NotTo r pos)) (fun _ _ w' => 32 - w'.iterPos w.heap.size)
          case atStart => exact ⟨0, by omega, rfl, fun j hj => by omega⟩
          case round =>
            obtain ⟨pos, hp, rfl, hn⟩ := hrel
            by_cases hlt : pos < 32
            · have hnx : ∀ ty, (Instr.next (.pointer (some ⟨w.heap.size, 0, none⟩)) true ty).run Try.prog (w.iter { data := #[48, 49, 50, 51, 52, 53, 54, 55, 56, 57, 65, 66, 67, 68, 69, 70, 71, 72, 74, 75, 77, 78, 80, 81, 82, 83, 84, 86, 87, 88, 89, 90] } pos) = .ok (.tuple #[.bool true, .int .i64 pos, .int .i32 (signs.getD pos 0 : Nat)]) (w.iter { data := #[48, 49, 50, 51, 52, 53, 54, 55, 56, 57, 65, 66, 67, 68, 69, 70, 71, 72, 74, 75, 77, 78, 80, 81, 82, 83, 84, 86, 87, 88, 89, 90] } (pos + 1)) := fun ty => next_sign w pos ty hlt
              obtain ⟨X, hX⟩ : ∃ X, signs.getD pos 0 = X := ⟨_, rfl⟩
              rw [hX] at hnx
              by_cases he : X = r
              · have be : ((X : Int) == (r : Int)) = true := by simp; omega
                have E : Hid (sgn r = pos) := sgn_found HR.out hn.out hlt (hX.trans he)
                clear hX he
                go_wp2
                go_ret
                exact ⟨ret_int E.out.symm, ((Below.refl _ _).alloc (Nat.le_refl _) _)⟩
              · have be : ((X : Int) == (r : Int)) = false := by simp; omega
                have NX : Hid (NotTo r (pos + 1)) := not_succ hn.out (by rw [hX]; exact he)
                clear hX he
                go_wp2
                go_roundw
                case rel => exact ⟨pos + 1, by omega, rfl, NX⟩
                case measure => simp; omega
            · obtain rfl : pos = 32 := by omega
              have hnx : ∀ ty, (Instr.next (.pointer (some ⟨w.heap.size, 0, none⟩)) true ty).run Try.prog (w.iter { data := #[48, 49, 50, 51, 52, 53, 54, 55, 56, 57, 65, 66, 67, 68, 69, 70, 71, 72, 74, 75, 77, 78, 80, 81, 82, 83, 84, 86, 87, 88, 89, 90] } 32) = _ := fun ty => run_next_end w _ 32 ty (by decide)
              have E : Hid (sgn r = -1) := sgn_none HR.out hn.out
              go_wp2
              go_ret
              exact ⟨ret_int E.out.symm, ((Below.refl _ _).alloc (Nat.le_refl _) _)⟩
  · obtain ⟨S, hS⟩ : ∃ S, r = S + 32 := ⟨r - 32, by omega⟩
    have HU : Hid (up r = S) := by show _ = _; rw [up_in h h']; omega
    have p0 : 97 ≤ (r : Int) := by omega
    have p1 : (r : Int) ≤ 122 := by omega
    have s1 : S < 91 := by omega
    have x1 : (r : Int) + -32 = (S : Int) := by omega
    clear hS
    by_cases hc : S = 79
    · have HR : Hid (alike (up r) = 48) := by show _ = _; rw [HU.out, alike, if_pos hc]
      have g : ((S : Int) == 79) = true := by simp; omega
      clear hc h
      clear h'
      go_enter Try.func21, Try.ntmps21
      go_wp2
      go_loopw [3, 4] (fun _ _ w' => ∃ pos : Nat, pos ≤ 32 ∧ w' = w.iter { data := #[48, 49, 50, 51, 52, 53, 54, 55, 56, 57, 65, 66, 67, 68, 69, 70, 71, 72, 74, 75, 77, 78, 80, 81, 82, 83, 84, 86, 87, 88, 89, 90] } pos ∧ Hid (NotTo 48 pos)) (fun _ _ w' => 32 - w'.iterPos w.heap.size)
      case atStart => exact ⟨0, by omega, rfl, fun j hj => by omega⟩
      case round =>
        obtain ⟨pos, hp, rfl, hn⟩ := hrel
        by_cases hlt : pos < 32
        · have hnx : ∀ ty, (Instr.next (.pointer (some ⟨w.heap.size, 0, none⟩)) true ty).run Try.prog (w.iter { data := #[48, 49, 50, 51, 52, 53, 54, 55, 56, 57, 65, 66, 67, 68, 69, 70, 71, 72, 74, 75, 77, 78, 80, 81, 82, 83, 84, 86, 87, 88, 89, 90] } pos) = .ok (.tuple #[.bool true, .int .i64 pos, .int .i32 (signs.getD pos 0 : Nat)]) (w.iter { data := #[48, 49, 50, 51, 52, 53, 54, 55, 56, 57, 65, 66, 67, 68, 69, 70, 71, 72, 74, 75, 77, 78, 80, 81, 82, 83, 84, 86, 87, 88, 89, 90] } (pos + 1)) := fun ty => next_sign w pos ty hlt
          obtain ⟨X, hX⟩ : ∃ X, signs.getD pos 0 = X := ⟨_, rfl⟩
          rw [hX] at hnx
          by_cases he : X = 48
          · have be : ((X : Int) == 48) = true := by simp; omega
            have E : Hid (sgn r = pos) := sgn_found HR.out hn.out hlt (hX.trans he)
            clear hX he
            go_wp2
            go_ret
            exact ⟨ret_int E.out.symm, ((Below.refl _ _).alloc (Nat.le_refl _) _)⟩
          · have be : ((X : Int) == 48) = false := by simp; omega
            have NX : Hid (NotTo 48 (pos + 1)) := not_succ hn.out (by rw [hX]; exact he)
            clear hX he
            go_wp2
            go_roundw
            case rel => exact ⟨pos + 1, by omega, rfl, NX⟩
            case measure => simp; omega
        · obtain rfl : pos = 32 := by omega
          have hnx : ∀ ty, (Instr.next (.pointer (some ⟨w.heap.size, 0, none⟩)) true ty).run Try.prog (w.iter { data := #[48, 49, 50, 51, 52, 53, 54, 55, 56, 57, 65, 66, 67, 68, 69, 70, 71, 72, 74, 75, 77, 78, 80, 81, 82, 83, 84, 86, 87, 88, 89, 90] } 32) = _ := fun ty => run_next_end w _ 32 ty (by decide)
          have E : Hid (sgn r = -1) := sgn_none HR.out hn.out
          go_wp2
          go_ret
          exact ⟨ret_int E.out.symm, ((Below.refl _ _).alloc (Nat.le_refl _) _)⟩
    · have hc79 := hc
      clear hc
      by_cases hc : S = 73
      · have HR : Hid (alike (up r) = 49) := by show _ = _; rw [HU.out, alike, if_neg (by omega), if_pos (.inl hc)]
        have g : ((S : Int) == 73) = true := by simp; omega
        have g79 : ((S : Int) == 79) = false := by simp; omega
        clear hc h
        clear h'
        go_enter Try.func21, Try.ntmps21
        go_wp2
        go_loopw [3, 4] (fun _ _ w' => ∃ pos : Nat, pos ≤ 32 ∧ w' = w.iter { data := #[48, 49, 50, 51, 52, 53, 54, 55, 56, 57, 65, 66, 67, 68, 69, 70, 71, 72, 74, 75, 77, 78, 80, 81, 82, 83, 84, 86, 87, 88, 89, 90] } pos ∧ Hid (NotTo 49 pos)) (fun _ _ w' => 32 - w'.iterPos w.heap.size)
        case atStart => exact ⟨0, by omega, rfl, fun j hj => by omega⟩
        case round =>
          obtain ⟨pos, hp, rfl, hn⟩ := hrel
          by_cases hlt : pos < 32
          · have hnx : ∀ ty, (Instr.next (.pointer (some ⟨w.heap.size, 0, none⟩)) true ty).run Try.prog (w.iter { data := #[48, 49, 50, 51, 52, 53, 54, 55, 56, 57, 65, 66, 67, 68, 69, 70, 71, 72, 74, 75, 77, 78, 80, 81, 82, 83, 84, 86, 87, 88, 89, 90] } pos) = .ok (.tuple #[.bool true, .int .i64 pos, .int .i32 (signs.getD pos 0 : Nat)]) (w.iter { data := #[48, 49, 50, 51, 52, 53, 54, 55, 56, 57, 65, 66, 67, 68, 69, 70, 71, 72, 74, 75, 77, 78, 80, 81, 82, 83, 84, 86, 87, 88, 89, 90] } (pos + 1)) := fun ty => next_sign w pos ty hlt
            obtain ⟨X, hX⟩ : ∃ X, signs.getD pos 0 = X := ⟨_, rfl⟩
            rw [hX] at hnx
            by_cases he : X = 49
            · have be : ((X : Int) == 49) = true := by simp; omega
              have E : Hid (sgn r = pos) := sgn_found HR.out hn.out hlt (hX.trans he)
              clear hX he
              go_wp2
              go_ret
              exact ⟨ret_int E.out.symm, ((Below.refl _ _).alloc (Nat.le_refl _) _)⟩
            · have be : ((X : Int) == 49) = false := by simp; omega
              have NX : Hid (NotTo 49 (pos + 1)) := not_succ hn.out (by rw [hX]; exact he)
              clear hX he
              go_wp2
              go_roundw
              case rel => exact ⟨pos + 1, by omega, rfl, NX⟩
              case measure => simp; omega
          · obtain rfl : pos = 32 := by omega
            have hnx : ∀ ty, (Instr.next (.pointer (some ⟨w.heap.size, 0, none⟩)) true ty).run Try.prog (w.iter { data := #[48, 49, 50, 51, 52, 53, 54, 55, 56, 57, 65, 66, 67, 68, 69, 70, 71, 72, 74, 75, 77, 78, 80, 81, 82, 83, 84, 86, 87, 88, 89, 90] } 32) = _ := fun ty => run_next_end w _ 32 ty (by decide)
            have E : Hid (sgn r = -1) := sgn_none HR.out hn.out
            go_wp2
            go_ret
            exact ⟨ret_int E.out.symm, ((Below.refl _ _).alloc (Nat.le_refl _) _)⟩
      · have hc73 := hc
        clear hc
        by_cases hc : S = 76
        · have HR : Hid (alike (up r) = 49) := by show _ = _; rw [HU.out, alike, if_neg (by omega), if_pos (.inr hc)]
          have g : ((S : Int) == 76) = true := by simp; omega
          have g79 : ((S : Int) == 79) = false := by simp; omega
          have g73 : ((S : Int) == 73) = false := by simp; omega
          clear hc h
          clear h'
          go_enter Try.func21, Try.ntmps21
          go_wp2
          go_loopw [3, 4] (fun _ _ w' => ∃ pos : Nat, pos ≤ 32 ∧ w' = w.iter { data := #[48, 49, 50, 51, 52, 53, 54, 55, 56, 57, 65, 66, 67, 68, 69, 70, 71, 72, 74, 75, 77, 78, 80, 81, 82, 83, 84, 86, 87, 88, 89, 90] } pos ∧ Hid (NotTo 49 pos)) (fun _ _ w' => 32 - w'.iterPos w.heap.size)
          case atStart => exact ⟨0, by omega, rfl, fun j hj => by omega⟩
          case round =>
            obtain ⟨pos, hp, rfl, hn⟩ := hrel
            by_cases hlt : pos < 32
            · have hnx : ∀ ty, (Instr.next (.pointer (some ⟨w.heap.size, 0, none⟩)) true ty).run Try.prog (w.iter { data := #[48, 49, 50, 51, 52, 53, 54, 55, 56, 57, 65, 66, 67, 68, 69, 70, 71, 72, 74, 75, 77, 78, 80, 81, 82, 83, 84, 86, 87, 88, 89, 90] } pos) = .ok (.tuple #[.bool true, .int .i64 pos, .int .i32 (signs.getD pos 0 : Nat)]) (w.iter { data := #[48, 49, 50, 51, 52, 53, 54, 55, 56, 57, 65, 66, 67, 68, 69, 70, 71, 72, 74, 75, 77, 78, 80, 81, 82, 83, 84, 86, 87, 88, 89, 90] } (pos + 1)) := fun ty => next_sign w pos ty hlt
              obtain ⟨X, hX⟩ : ∃ X, signs.getD pos 0 = X := ⟨_, rfl⟩
              rw [hX] at hnx
              by_cases he : X = 49
              · have be : ((X : Int) == 49) = true := by simp; omega
                have E : Hid (sgn r = pos) := sgn_found HR.out hn.out hlt (hX.trans he)
                clear hX he
                go_wp2
                go_ret
                exact ⟨ret_int E.out.symm, ((Below.refl _ _).alloc (Nat.le_refl _) _)⟩
              · have be : ((X : Int) == 49) = false := by simp; omega
                have NX : Hid (NotTo 49 (pos + 1)) := not_succ hn.out (by rw [hX]; exact he)
                clear hX he
                go_wp2
                go_roundw
                case rel => exact ⟨pos + 1, by omega, rfl, NX⟩
                case measure => simp; omega
            · obtain rfl : pos = 32 := by omega
              have hnx : ∀ ty, (Instr.next (.pointer (some ⟨w.heap.size, 0, none⟩)) true ty).run Try.prog (w.iter { data := #[48, 49, 50, 51, 52, 53, 54, 55, 56, 57, 65, 66, 67, 68, 69, 70, 71, 72, 74, 75, 77, 78, 80, 81, 82, 83, 84, 86, 87, 88, 89, 90] } 32) = _ := fun ty => run_next_end w _ 32 ty (by decide)
              have E : Hid (sgn r = -1) := sgn_none HR.out hn.out
              go_wp2
              go_ret
              exact ⟨ret_int E.out.symm, ((Below.refl _ _).alloc (Nat.le_refl _) _)⟩
        · have hc76 := hc
          clear hc
          have HR : Hid (alike (up r) = S) := by show _ = _; rw [HU.out, alike, if_neg (by omega), if_neg (by omega)]
          have g79 : ((S : Int) == 79) = false := by simp; omega
          have g73 : ((S : Int) == 73) = false := by simp; omega
          have g76 : ((S : Int) == 76) = false := by simp; omega
          clear h
          clear h'
          go_enter Try.func21, Try.ntmps21
          go_wp2
          go_loopw [3, 4] (fun _ _ w' => ∃ pos : Nat, pos ≤ 32 ∧ w' = w.iter { data := #[48, 49, 50, 51, 52, 53, 54, 55, 56, 57, 65, 66, 67, 68, 69, 70, 71, 72, 74, 75, 77, 78, 80, 81, 82, 83, 84, 86, 87, 88, 89, 90] } pos ∧ Hid (NotTo S pos)) (fun _ _ w' => 32 - w'.iterPos w.heap.size)
          case atStart => exact ⟨0, by omega, rfl, fun j hj => by omega⟩
          case round =>
            obtain ⟨pos, hp, rfl, hn⟩ := hrel
            by_cases hlt : pos < 32
            · have hnx : ∀ ty, (Instr.next (.pointer (some ⟨w.heap.size, 0, none⟩)) true ty).run Try.prog (w.iter { data := #[48, 49, 50, 51, 52, 53, 54, 55, 56, 57, 65, 66, 67, 68, 69, 70, 71, 72, 74, 75, 77, 78, 80, 81, 82, 83, 84, 86, 87, 88, 89, 90] } pos) = .ok (.tuple #[.bool true, .int .i64 pos, .int .i32 (signs.getD pos 0 : Nat)]) (w.iter { data := #[48, 49, 50, 51, 52, 53, 54, 55, 56, 57, 65, 66, 67, 68, 69, 70, 71, 72, 74, 75, 77, 78, 80, 81, 82, 83, 84, 86, 87, 88, 89, 90] } (pos + 1)) := fun ty => next_sign w pos ty hlt
              obtain ⟨X, hX⟩ : ∃ X, signs.getD pos 0 = X := ⟨_, rfl⟩
              rw [hX] at hnx
              by_cases he : X = S
              · have be : ((X : Int) == (S : Int)) = true := by simp; omega
                have E : Hid (sgn r = pos) := sgn_found HR.out hn.out hlt (hX.trans he)
                clear hX he
                go_wp2
                go_ret
                exact ⟨ret_int E.out.symm, ((Below.refl _ _).alloc (Nat.le_refl _) _)⟩
              · have be : ((X : Int) == (S : Int)) = false := by simp; omega
                have NX : Hid (NotTo S (pos + 1)) := not_succ hn.out (by rw [hX]; exact he)
                clear hX he
                go_wp2
                go_roundw
                case rel => exact ⟨pos + 1, by omega, rfl, NX⟩
                case measure => simp; omega
            · obtain rfl : pos = 32 := by omega
              have hnx : ∀ ty, (Instr.next (.pointer (some ⟨w.heap.size, 0, none⟩)) true ty).run Try.prog (w.iter { data := #[48, 49, 50, 51, 52, 53, 54, 55, 56, 57, 65, 66, 67, 68, 69, 70, 71, 72, 74, 75, 77, 78, 80, 81, 82, 83, 84, 86, 87, 88, 89, 90] } 32) = _ := fun ty => run_next_end w _ 32 ty (by decide)
              have E : Hid (sgn r = -1) := sgn_none HR.out hn.out
              go_wp2
              go_ret
              exact ⟨ret_int E.out.symm, ((Below.refl _ _).alloc (Nat.le_refl _) _)⟩
  · have HU : Hid (up r = r) := up_more h
    have p0 : 122 < (r : Int) := by omega
    have HR : Hid (alike (up r) = r) := by show _ = _; rw [HU.out, alike, if_neg (by omega), if_neg (by omega)]
    have g79 : ((r : Int) == 79) = false := by simp; omega
    have g73 : ((r : Int) == 73) = false := by simp; omega
    have g76 : ((r : Int) == 76) = false := by simp; omega
    clear h
    go_enter Try.func21, Try.ntmps21
    go_wp2
    go_loopw [3, 4] (fun _ _ w' => ∃ pos : Nat, pos ≤ 32 ∧ w' = w.iter { data := #[48, 49, 50, 51, 52, 53, 54, 55, 56, 57, 65, 66, 67, 68, 69, 70, 71, 72, 74, 75, 77, 78, 80, 81, 82, 83, 84, 86, 87, 88, 89, 90] } pos ∧ Hid (NotTo r pos)) (fun _ _ w' => 32 - w'.iterPos w.heap.size)
    case atStart => exact ⟨0, by omega, rfl, fun j hj => by omega⟩
    case round =>
      obtain ⟨pos, hp, rfl, hn⟩ := hrel
      by_cases hlt : pos < 32
      · have hnx : ∀ ty, (Instr.next (.pointer (some ⟨w.heap.size, 0, none⟩)) true ty).run Try.prog (w.iter { data := #[48, 49, 50, 51, 52, 53, 54, 55, 56, 57, 65, 66, 67, 68, 69, 70, 71, 72, 74, 75, 77, 78, 80, 81, 82, 83, 84, 86, 87, 88, 89, 90] } pos) = .ok (.tuple #[.bool true, .int .i64 pos, .int .i32 (signs.getD pos 0 : Nat)]) (w.iter { data := #[48, 49, 50, 51, 52, 53, 54, 55, 56, 57, 65, 66, 67, 68, 69, 70, 71, 72, 74, 75, 77, 78, 80, 81, 82, 83, 84, 86, 87, 88, 89, 90] } (pos + 1)) := fun ty => next_sign w pos ty hlt
        obtain ⟨X, hX⟩ : ∃ X, signs.getD pos 0 = X := ⟨_, rfl⟩
        rw [hX] at hnx
        by_cases he : X = r
        · have be : ((X : Int) == (r : Int)) = true := by simp; omega
          have E : Hid (sgn r = pos) := sgn_found HR.out hn.out hlt (hX.trans he)
          clear hX he
          go_wp2
          go_ret
          exact ⟨ret_int E.out.symm, ((Below.refl _ _).alloc (Nat.le_refl _) _)⟩
        · have be : ((X : Int) == (r : Int)) = false := by simp; omega
          have NX : Hid (NotTo r (pos + 1)) := not_succ hn.out (by rw [hX]; exact he)
          clear hX he
          go_wp2
          go_roundw
          case rel => exact ⟨pos + 1, by omega, rfl, NX⟩
          case measure => simp; omega
      · obtain rfl : pos = 32 := by omega
        have hnx : ∀ ty, (Instr.next (.pointer (some ⟨w.heap.size, 0, none⟩)) true ty).run Try.prog (w.iter { data := #[48, 49, 50, 51, 52, 53, 54, 55, 56, 57, 65, 66, 67, 68, 69, 70, 71, 72, 74, 75, 77, 78, 80, 81, 82, 83, 84, 86, 87, 88, 89, 90] } 32) = _ := fun ty => run_next_end w _ 32 ty (by decide)
        have E : Hid (sgn r = -1) := sgn_none HR.out hn.out
        go_wp2
        go_ret
        exact ⟨ret_int E.out.symm, ((Below.refl _ _).alloc (Nat.le_refl _) _)⟩
end Go.Proofs.Ytaanmikdhhdeiaa
