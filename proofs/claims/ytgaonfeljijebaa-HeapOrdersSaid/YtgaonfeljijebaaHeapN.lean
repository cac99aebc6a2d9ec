/-
  heap: the operations at pairs on a heap that is nil. No conditions.
-/
import Derived.Test.YtgaonfeljijebaaHeapK
namespace Go.Proofs.Ytgaonfeljijebaa
open Go.ChangeShapes Go.WideShapes Go.ChangeAt Go.RowKit Go.Shelf
set_option linter.unusedVariables false

theorem goIsP_nil (w : World) : Calls Try.prog 55 #[.pointer none] w fun e w' => e = .returned (.bool false) ∧ w = w' := by
  go_enter Try.func55, Try.ntmps55
  go_wp2
  go_ret
  exact ⟨rfl, rfl⟩
theorem goLenP_nil (w : World) : Calls Try.prog 36 #[.pointer none] w fun e w' => e = .returned (.int .i64 0) ∧ w = w' := by
  go_enter Try.func36, Try.ntmps36
  go_wp2_with fail
  refine (goIsP_nil _).mono ?_
  rintro e w' ⟨rfl, rfl⟩
  go_wp2_with fail
  go_ret
  exact ⟨rfl, rfl⟩
theorem goTopP_nil (w : World) : Calls Try.prog 56 #[.pointer none] w fun e w' => e = .returned (.tuple #[.agg #[.int .i64 0, .int .i64 0], .bool false]) ∧ Below w.heap.size w w' := by
  go_enter Try.func56, Try.ntmps56
  go_wp2_with fail
  refine (goLenP_nil _).mono ?_
  rintro e w' ⟨rfl, rfl⟩
  go_wp2_with fail
  refine bodyPost_ret (v := .tuple #[.agg #[.int .i64 0, .int .i64 0], .bool false]) ?_ rfl ⟨rfl, ((Below.refl _ _).alloc (Nat.le_refl _) _).alloc (by simp) _⟩
  simp [results, Try.f56, go_sem]
theorem goPushP_nil (x1 x2 : Int) (w : World) : Calls Try.prog 34 #[.pointer none, .agg #[.int .i64 x1, .int .i64 x2]] w fun e w' => (∃ u, e = .returned u) ∧ Below w.heap.size w w' := by
  go_enter Try.func34, Try.ntmps34
  go_wp2_with fail
  refine (goIsP_nil _).mono ?_
  rintro e w' ⟨rfl, rfl⟩
  go_wp2_with fail
  refine bodyPost_ret (results_none rfl _ _ _) rfl ?_
  exact ⟨⟨_, rfl⟩, (Below.refl _ _).alloc (Nat.le_refl _) _⟩
theorem goPopP_nil (w : World) : Calls Try.prog 35 #[.pointer none] w fun e w' => e = .returned (.tuple #[.agg #[.int .i64 0, .int .i64 0], .bool false]) ∧ Below w.heap.size w w' := by
  go_enter Try.func35, Try.ntmps35
  go_wp2_with fail
  refine (goTopP_nil _).mono ?_
  rintro e w' ⟨rfl, hb⟩
  have B3 := Lib.hid (below_boxed hb)
  have R3 : Hid (Bk w' w.heap.size 62 #[.int .i64 0, .int .i64 0]) := (Bk.new w 62 #[.int .i64 0, .int .i64 0]).below hb (by simp)
  have z3 := B3.out.size
  have z33 := R3.out.lt
  clear hb
  obtain ⟨wB, hwB⟩ : ∃ wB, w'.alloc (.cells #[.int .i64 0, .int .i64 0] 62) = wB := ⟨_, rfl⟩
  obtain ⟨r4, hr4⟩ : ∃ r4, w'.heap.size = r4 := ⟨_, rfl⟩
  have BB : Hid (Below w.heap.size w wB) := by show Below _ _ _; rw [← hwB]; exact B3.out.alloc z3 _
  have R2 : Hid (Bk wB w.heap.size 62 #[.int .i64 0, .int .i64 0]) := by show Bk _ _ _ _; rw [← hwB]; exact R3.out.alloc _
  have R4 : Hid (Bk wB r4 62 #[.int .i64 0, .int .i64 0]) := by show Bk _ _ _ _; rw [← hwB, ← hr4]; exact Bk.new _ _ _
  have r4lt : w.heap.size < r4 := by omega
  have n24 : ¬ w.heap.size = r4 := by omega
  have n42 : ¬ r4 = w.heap.size := by omega
  have a0 := R2.out.cell 0
  have a1 := R2.out.cell 1
  have a2 := R2.out.free 0
  have a3 := R2.out.free 1
  have b0 := R4.out.cell 0
  have b1 := R4.out.cell 1
  have b2 := R4.out.free 0
  have b3 := R4.out.free 1
  go_wp2_with fail
  refine bodyPost_ret (v := .tuple #[.agg #[.int .i64 0, .int .i64 0], .bool false]) ?_ rfl ⟨rfl, (((BB.out.setCell (p := ⟨r4, 0, none⟩) (Nat.le_of_lt r4lt) _).setCell (p := ⟨r4, 1, none⟩) (Nat.le_of_lt r4lt) _).setCell (Nat.le_refl _) _).setCell (Nat.le_refl _) _⟩
  have hfin := (((R2.out.far (p := ⟨r4, 0, none⟩) n24 (.int .i64 0)).far (p := ⟨r4, 1, none⟩) n24 (.int .i64 0)).put 0 (.int .i64 0)).put 1 (.int .i64 0)
  have y0 := hfin.cell 0
  have y1 := hfin.cell 1
  simp at y0 y1
  simp [results, Try.f35, go_sem, y0, y1]
end Go.Proofs.Ytgaonfeljijebaa
