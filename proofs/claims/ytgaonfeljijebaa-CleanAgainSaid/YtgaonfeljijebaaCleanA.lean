/-
  The chapter's example, and what the laws on filters share. No conditions.
-/
import Derived.Test.YtgaonfeljijebaaCleanR
namespace Go.Proofs.Ytgaonfeljijebaa
open Go.ChangeShapes Go.WideShapes Go.ChangeAt Go.RowKit
set_option linter.unusedVariables false

theorem goFlt_b (s g : Int) (b : Bool) (h : fltB s g = b) (w : World) : Calls Try.prog 18 #[.agg #[.int .i64 s, .int .i64 g]] w fun e w' => e = .returned (.bool b) ∧ Below w.heap.size w w' :=
  (goFlt_is (w := w) h).mono fun _ _ ⟨he, hw⟩ => ⟨he, by rw [← hw]; exact (Below.refl _ _).alloc (Nat.le_refl _) _⟩
theorem refFlt_b (s g : Int) (b : Bool) (h : fltB s g = b) (w : World) : Calls Try.prog 19 #[.agg #[.int .i64 s, .int .i64 g]] w fun e w' => e = .returned (.bool b) ∧ Below w.heap.size w w' :=
  (refFlt_is (w := w) h).mono fun _ _ ⟨he, hw⟩ => ⟨he, by rw [← hw]; exact (Below.refl _ _).alloc (Nat.le_refl _) _⟩
theorem errK_len0 {s g : Int} {l : List Run} (h : errK s g l = 0) : l.length ≤ 2048 := by
  unfold errK at h
  split at h
  · simp at h
  · split at h
    · simp at h
    · omega
theorem keptL_len (s g : Int) (l : List Run) : (keptL s g l).length ≤ 2048 := by
  unfold keptL
  split
  · rename_i h
    have := (kd_lt s g l l.length).2.2
    have := errK_len0 h
    rw [List.length_map]; omega
  · simp
theorem dropI_len (s g : Int) (l : List Run) : (dropI s g l).length ≤ 2048 := by
  unfold dropI
  split
  · rename_i h
    have := (kd_lt s g l l.length).2.2
    have := errK_len0 h
    rw [List.length_map]; omega
  · simp

set_option maxHeartbeats 1000000 in
theorem awake20 (w : World) : Calls Try.prog 14 #[] w fun e w' => e = .returned (.bool true) ∧ Below w.heap.size w w' := by
  have h1 : Hid (keptL 10 0 [(0, 0, 0), (1, 100, 0), (2, 15, 0)] = [(0, 0, 0), (2, 15, 0)]) := by show _ = _; decide +kernel
  have h2 : Hid (errK 10 0 [(0, 0, 0), (1, 100, 0), (2, 15, 0)] = 0) := by show _ = _; decide +kernel
  go_enter Try.func14, Try.ntmps14
  go_wp2_with fail
  refine (goKeep 10 0 _ 3 3 [(0, 0, 0), (1, 100, 0), (2, 15, 0)] _ (Rd.made three 3 w 46 [(0, 0, 0), (1, 100, 0), (2, 15, 0)] #[.int .i64 0, .int .i64 0, .int .i64 0, .int .i64 1, .int .i64 100, .int .i64 0, .int .i64 2, .int .i64 15, .int .i64 0] (fun _ _ => rfl) rfl) (by decide)).mono ?_
  rintro e W ⟨A, N, c, rfl, r, hb⟩
  rw [h1.out] at r
  rw [h2.out]
  obtain rfl : N = 2 := r.1
  obtain ⟨x, y, z, b, off, hA, hx, hd0, _, _⟩ := r.at3 (k := 1) (by omega)
  obtain ⟨rfl, rfl, rfl⟩ : 2 = x ∧ 15 = y ∧ 0 = z := by have := hx.out; simpa using this
  subst hA
  have hd0' : W.cell? ⟨b, off + 3, none⟩ = some (.int .i64 2) := hd0
  clear r hx hd0
  go_wp2
  go_ret
  exact ⟨rfl, ((Below.refl _ _).alloc (Nat.le_refl _) _).trans (hb.mono (by simp))⟩
end Go.Proofs.Ytgaonfeljijebaa
