/-
  armor.Check and the reference's Check hand back chk. Conditions: the arguments' readings; fives below 256.
-/
import Derived.Test.YtaanmikdhhdeiaaRows
import Derived.Test.YtaanmikdhhdeiaaArmB
namespace Go.Proofs.Ytaanmikdhhdeiaa
open Go.ChangeShapes Go.WideShapes Go.ChangeAt Go.RowKit
set_option linter.unusedVariables false

def Small (m : Nat) (l : List Nat) : Prop := ∀ x ∈ l, x < m
theorem Small.at {m k x : Nat} {l : List Nat} (h : Small m l) (hx : l[k]? = some x) : x < m := h x (List.mem_of_getElem? hx)
theorem chkI_go {f : List Nat} {k x : Nat} (h : f[k]? = some x) : ((chkTo f k : Int) + ((k : Int) % 31 + 1) * x) % 31 = (chkTo f (k + 1) : Nat) := by
  have := chk_go f k x h
  rw [← this]
  simp
theorem chkI_ref {f : List Nat} {k x : Nat} (h : f[k]? = some x) : ((chkTo f k : Int) + ((k : Int) + 1) % 31 * x) % 31 = (chkTo f (k + 1) : Nat) := by
  have := chk_ref f k x h
  rw [← this]
  simp
theorem goChk (A : Option Addr) (n c : Nat) (f : List Nat) (w : World) (h : RdK .u8 w A n f) (hm : n ≤ 1000000) (hs : Small 256 f) : Calls Try.prog 9 #[.slice A n c] w fun e w' => e = .returned (.int .u8 (chk f : Nat)) ∧ w = w' := by
  go_enter Try.func9, Try.ntmps9
  go_wp2
  go_loop [3, 8] (fun s i => ∃ (k S : Nat), k ≤ n ∧ i = .int .i64 k ∧ s = .int .i64 S ∧ S < 31 ∧ Hid (S = chkTo f k)) (fun _ i => n - (intOf i).toNat)
  case atStart => exact ⟨0, 0, by omega, rfl, rfl, by omega, rfl⟩
  case round =>
    obtain ⟨k, S, hk, rfl, rfl, hS, hc⟩ := hrel
    by_cases hlt : k < n
    · obtain ⟨x, b, off, hA, hx, hcx⟩ := h.at hlt
      subst hA
      have x1 : x < 256 := hs.at hx.out
      have p0 : 0 ≤ (k : Int) % 31 := by omega
      have p1 : (k : Int) % 31 ≤ 30 := by omega
      obtain ⟨P, hP⟩ : ∃ P : Int, ((k : Int) % 31 + 1) * x = P := ⟨_, rfl⟩
      have q0 : 0 ≤ P := by rw [← hP]; exact Int.mul_nonneg (by omega) (by omega)
      have q1 : P ≤ 7905 := by
        rw [← hP]
        exact Int.le_trans (Int.mul_le_mul_of_nonneg_right (show (k : Int) % 31 + 1 ≤ 31 by omega) (by omega)) (by omega)
      have NX : Hid (((S : Int) + P) % 31 = (chkTo f (k + 1) : Nat)) := by show _ = _; rw [← hP, hc.out]; exact chkI_go hx.out
      have L := Lib.hid (chkTo_lt f (k + 1))
      go_wp2
      go_round
      case rel => exact ⟨k + 1, chkTo f (k + 1), by omega, by go_num, by rw [← NX.out], L.out, rfl⟩
      case measure => simp [intOf]; omega
    · obtain rfl : k = n := by omega
      have E : Hid (S = chk f) := by show _ = _; rw [hc.out, h.1]; rfl
      go_wp2
      go_ret
      exact ⟨ret_int (by rw [E.out]), rfl⟩
theorem refChk (A : Option Addr) (n c : Nat) (f : List Nat) (w : World) (h : RdK .u8 w A n f) (hm : n ≤ 1000000) (hs : Small 256 f) : Calls Try.prog 10 #[.slice A n c] w fun e w' => e = .returned (.int .i64 (chk f : Nat)) ∧ w = w' := by
  go_enter Try.func10, Try.ntmps10
  go_wp2
  go_loop [3, 4] (fun s i => ∃ (k S : Nat), k ≤ n ∧ i = .int .i64 k ∧ s = .int .i64 S ∧ S < 31 ∧ Hid (S = chkTo f k)) (fun _ i => n - (intOf i).toNat)
  case atStart => exact ⟨0, 0, by omega, rfl, rfl, by omega, rfl⟩
  case round =>
    obtain ⟨k, S, hk, rfl, rfl, hS, hc⟩ := hrel
    by_cases hlt : k < n
    · obtain ⟨x, b, off, hA, hx, hcx⟩ := h.at hlt
      subst hA
      have x1 : x < 256 := hs.at hx.out
      have p0 : 0 ≤ ((k : Int) + 1) % 31 := by omega
      have p1 : ((k : Int) + 1) % 31 ≤ 30 := by omega
      obtain ⟨P, hP⟩ : ∃ P : Int, ((k : Int) + 1) % 31 * x = P := ⟨_, rfl⟩
      have q0 : 0 ≤ P := by rw [← hP]; exact Int.mul_nonneg (by omega) (by omega)
      have q1 : P ≤ 7905 := by
        rw [← hP]
        exact Int.le_trans (Int.mul_le_mul_of_nonneg_right (show ((k : Int) + 1) % 31 ≤ 31 by omega) (by omega)) (by omega)
      have NX : Hid (((S : Int) + P) % 31 = (chkTo f (k + 1) : Nat)) := by show _ = _; rw [← hP, hc.out]; exact chkI_ref hx.out
      have L := Lib.hid (chkTo_lt f (k + 1))
      go_wp2
      go_round
      case rel => exact ⟨k + 1, chkTo f (k + 1), by omega, by go_num, by rw [← NX.out], L.out, rfl⟩
      case measure => simp [intOf]; omega
    · obtain rfl : k = n := by omega
      have E : Hid (S = chk f) := by show _ = _; rw [hc.out, h.1]; rfl
      go_wp2
      go_ret
      exact ⟨ret_int (by rw [E.out]), rfl⟩
end Go.Proofs.Ytaanmikdhhdeiaa
