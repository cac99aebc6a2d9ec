/-
  The law GeoRings returns true, for every number, and leaves what was there as it was. No conditions but the argument's reading.
-/
import Derived.Test.YtgaonfeljijebaaGeoA
namespace Go.Proofs.Ytgaonfeljijebaa
open Go.ChangeShapes Go.WideShapes Go.ChangeAt Go.RowKit
theorem goRing_any {r : Nat} {z : Int} {rs : List (Int × Int)} {w : World} (hz : z = r) (h1 : r ≤ 4096) (hr : ringL r = rs) : Calls Try.prog 12 #[.int .i64 z] w (GivesC0 rs w) := by
  rcases Nat.eq_zero_or_pos r with rfl | h0
  · rw [hz, ← hr]; exact goRing_zero w
  · exact goRing_at hz h0 h1 hr
theorem refRing_any {r : Nat} {z : Int} {rs : List (Int × Int)} {w : World} (hz : z = r) (h1 : r ≤ 4096) (hr : ringL r = rs) : Calls Try.prog 13 #[.int .i64 z] w (GivesC rs w) := by
  rw [hz, ← hr]
  rcases Nat.eq_zero_or_pos r with rfl | h0
  · exact refRing_zero w
  · exact refRing r w h0 h1
theorem ring_len {r : Nat} (h : r ≤ 4096) : (ringL r).length ≤ 32768 := by
  unfold ringL
  split
  · simp
  · rw [sides_len]; omega
end Go.Proofs.Ytgaonfeljijebaa
namespace Go.Proofs.Ytgaonfeljijebaa.geoRingsWalk
open Go.ChangeShapes Go.WideShapes Go.ChangeAt Go.RowKit
set_option linter.unusedVariables false

theorem none_ (a0 : Int) (w : World) (h : a0 < 0 ∨ 4096 < a0) : Calls Try.prog 3 #[.int .i64 a0] w fun e w' => e = .returned (.bool true) ∧ Below w.heap.size w w' := by
  have H := Lib.hid h
  by_cases h0 : a0 < 0
  · clear h
    go_enter Try.func3, Try.ntmps3
    go_wp2_with (first
      | (go_at_call 11; refine (awake13 _).mono ?_; rintro e w1 ⟨rfl, b1⟩)
      | (go_at_call 12; refine (goRing_none _ _ H.out).mono ?_; rintro e w2 ⟨rfl, rfl⟩))
    go_ret
    exact ⟨rfl, b1⟩
  · have h1 : 4096 < a0 := by omega
    clear h
    go_enter Try.func3, Try.ntmps3
    go_wp2_with (first
      | (go_at_call 11; refine (awake13 _).mono ?_; rintro e w1 ⟨rfl, b1⟩)
      | (go_at_call 12; refine (goRing_none _ _ H.out).mono ?_; rintro e w2 ⟨rfl, rfl⟩))
    go_ret
    exact ⟨rfl, b1⟩

set_option maxHeartbeats 400000 in
theorem some_ (a0 : Int) (w : World) (r : Nat) (hr : a0 = r) (h1 : r ≤ 4096) : Calls Try.prog 3 #[.int .i64 a0] w fun e w' => e = .returned (.bool true) ∧ Below w.heap.size w w' := by
  have HR := Lib.hid hr
  have h0 : 0 ≤ a0 := by omega
  have h2 : a0 ≤ 4096 := by omega
  have hlen := Lib.hid (ring_len h1)
  obtain ⟨rs, hrs⟩ : ∃ rs, Hid (ringL r = rs) := ⟨_, rfl⟩
  rw [hrs.out] at hlen
  clear hr
  go_enter Try.func3, Try.ntmps3
  go_wp2_with fail
  refine (awake13 _).mono ?_
  rintro e w1 ⟨rfl, b1⟩
  go_wp2_with fail
  refine (goRing_any HR.out h1 hrs.out).mono ?_
  rintro e w2 ⟨A, N, c, rfl, R2, b2'⟩
  have b2 := b1.trans (b2'.mono b1.size)
  have HN := Lib.hid R2.1
  have hN : N ≤ 32768 := by have := HN.out; have := hlen.out; omega
  go_wp2_with fail
  refine (refRing_any HR.out h1 hrs.out).mono ?_
  rintro e w3 ⟨A', N', c', rfl, R3, b3'⟩
  obtain rfl : N = N' := by rw [HN.out, R3.1]
  have b3 := b2.trans (b3'.mono b2.size)
  have R2' := R2.below b3' (Nat.le_refl _)
  clear R2 b1 b2 b2' b3'
  go_wp2_with fail
  go_loopw [40] (fun i wr => ∃ k m : Nat, k ≤ N ∧ i = .int .i64 k ∧ Hid (wr = w3.drewN m)) (fun i _ => N - (intOf i).toNat)
  case atStart => exact ⟨0, 0, Nat.zero_le _, rfl, rfl⟩
  case round =>
    obtain ⟨k, m, hk, rfl, hw⟩ := hrel
    have q2 : Rd two 2 wr A N rs := by rw [hw.out]; exact R2'.drewN m
    have q3 : Rd two 2 wr A' N rs := by rw [hw.out]; exact R3.drewN m
    by_cases hlt : k < N
    · obtain ⟨x, y, b, off, hA, hx, hc, hd⟩ := q2.at2 hlt
      obtain ⟨x', y', b', off', hA', hx', hc', hd'⟩ := q3.at2 hlt
      obtain ⟨rfl, rfl⟩ : x = x' ∧ y = y' := by have := hx.out.symm.trans hx'.out; simpa using this
      subst hA hA'
      go_wp2_with fail
      go_quiet (fail)
      go_wp2_with fail
      go_roundw
      case rel => exact ⟨k + 1, m + nq, by omega, by go_num, by show _ = _; rw [hw.out, World.drewN_drewN]⟩
      case measure => simp [intOf]; omega
    · go_wp2_with fail
      go_ret
      exact ⟨rfl, by rw [hw.out]; exact below_dN b3 m⟩

theorem walk (a0 : Int) (w : World) (w0 : (Lit.int .i64 a0).wf = true) :
    Calls Try.prog 3 #[.int .i64 a0] w fun e w' => e = .returned (.bool true) ∧ Below w.heap.size w w' := by
  by_cases h : a0 < 0 ∨ 4096 < a0
  · exact none_ a0 w h
  · obtain ⟨r, hr⟩ := Int.eq_ofNat_of_zero_le (show 0 ≤ a0 by omega)
    exact some_ a0 w r hr (by omega)
end Go.Proofs.Ytgaonfeljijebaa.geoRingsWalk
