/-
  The chapter's example of the package geo. No conditions.
-/
import Derived.Test.YtgaonfeljijebaaRingG
import Derived.Test.YtgaonfeljijebaaGeoS
import Derived.Test.YtgaonfeljijebaaLater
namespace Go.Proofs.Ytgaonfeljijebaa
open Go.ChangeShapes Go.WideShapes Go.ChangeAt Go.RowKit
set_option linter.unusedVariables false

theorem goRing_at {r : Nat} {z : Int} {rs : List (Int × Int)} {w : World} (hz : z = r) (h0 : 0 < r) (h1 : r ≤ 4096) (hr : ringL r = rs) : Calls Try.prog 12 #[.int .i64 z] w (GivesC0 rs w) := by
  rw [hz, ← hr]; exact goRing r w h0 h1
theorem awake13 (w : World) : Calls Try.prog 11 #[] w fun e w' => e = .returned (.bool true) ∧ Below w.heap.size w w' := by
  have hr : Hid (ringL 1 = [(1, 0), (1, 1), (0, 1), (-1, 1), (-1, 0), (-1, -1), (0, -1), (1, -1)]) := by show _ = _; decide
  have hroot : Hid (IsRoot 17 4) := .inr (by omega)
  go_enter Try.func11, Try.ntmps11
  go_wp2_with fail
  refine (goRing_at (r := 1) rfl (by omega) (by omega) hr.out).mono ?_
  rintro e w1 ⟨A, N, c, rfl, hR, hb⟩
  have hN : N = 8 := hR.1
  subst hN
  obtain ⟨x, y, b, off, hA, h0, c0, d0⟩ := hR.hd2 (by omega)
  obtain ⟨x', y', b', off', hA', h7, c7, d7⟩ := hR.at2 (k := 7) (by omega)
  subst hA
  obtain ⟨rfl, rfl⟩ : b = b' ∧ off = off' := by simpa using hA'
  obtain ⟨rfl, rfl⟩ : 1 = x ∧ 0 = y := by simpa using h0.out
  obtain ⟨rfl, rfl⟩ : 1 = x' ∧ -1 = y' := by simpa using h7.out
  clear hA'
  go_wp2_with (go_at_call 45; refine (goRoot 17 4 _ (by omega) hroot.out).mono ?_; rintro e w2 ⟨rfl, rfl⟩)
  go_ret
  exact ⟨rfl, hb⟩
end Go.Proofs.Ytgaonfeljijebaa
