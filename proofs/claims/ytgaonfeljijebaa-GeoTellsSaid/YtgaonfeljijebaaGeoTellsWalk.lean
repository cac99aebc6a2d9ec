/-
  The law GeoTells returns true, for every three places, and leaves what was there as it was. No conditions but the arguments' readings.
-/
import Derived.Test.YtgaonfeljijebaaGeoA
namespace Go.Proofs.Ytgaonfeljijebaa
open Go.ChangeShapes Go.WideShapes Go.ChangeAt Go.RowKit
theorem sq0 (x : Int) : 0 ≤ x * x := by
  rcases Int.le_total 0 x with h | h
  · exact Int.mul_nonneg h h
  · have := Int.mul_nonneg (show 0 ≤ -x by omega) (show 0 ≤ -x by omega)
    rwa [Int.neg_mul_neg] at this
theorem sqr_bd (a b c d : Int) : 0 ≤ sqr a b c d ∧ sqr a b c d ≤ 9007199254740992 := by
  unfold sqr
  split
  · rename_i h
    obtain ⟨a0, a1, b0, b1⟩ := plc_iff.1 h.1
    obtain ⟨c0, c1, d0, d1⟩ := plc_iff.1 h.2
    obtain ⟨_, p1⟩ := prod_bd (x := a - c) (y := a - c) (B := 67108864) (by omega) (by omega) (by omega) (by omega) (by omega)
    obtain ⟨_, q1⟩ := prod_bd (x := b - d) (y := b - d) (B := 67108864) (by omega) (by omega) (by omega) (by omega) (by omega)
    have h1 := sq0 (a - c)
    have h2 := sq0 (b - d)
    omega
  · omega
theorem goSqr_is {a b c d q : Int} {w : World} (h : sqr a b c d = q) : Calls Try.prog 41 #[.agg #[.int .i64 a, .int .i64 b], .agg #[.int .i64 c, .int .i64 d]] w fun e w' => e = .returned (.int .i64 q) ∧ Below w.heap.size w w' := by rw [← h]; exact goSqr a b c d w
theorem refSqr_is {a b c d q : Int} {w : World} (h : sqr a b c d = q) : Calls Try.prog 42 #[.agg #[.int .i64 a, .int .i64 b], .agg #[.int .i64 c, .int .i64 d]] w fun e w' => e = .returned (.int .i64 q) ∧ Below w.heap.size w w' := by rw [← h]; exact refSqr a b c d w
theorem goSid_is {a b c d e f q : Int} {w : World} (h : sid a b c d e f = q) : Calls Try.prog 43 #[.agg #[.int .i64 a, .int .i64 b], .agg #[.int .i64 c, .int .i64 d], .agg #[.int .i64 e, .int .i64 f]] w fun en w' => en = .returned (.int .i64 q) ∧ Below w.heap.size w w' := by rw [← h]; exact goSid a b c d e f w
theorem refSid_is {a b c d e f q : Int} {w : World} (h : sid a b c d e f = q) : Calls Try.prog 44 #[.agg #[.int .i64 a, .int .i64 b], .agg #[.int .i64 c, .int .i64 d], .agg #[.int .i64 e, .int .i64 f]] w fun en w' => en = .returned (.int .i64 q) ∧ Below w.heap.size w w' := by rw [← h]; exact refSid a b c d e f w
end Go.Proofs.Ytgaonfeljijebaa
namespace Go.Proofs.Ytgaonfeljijebaa.geoTellsWalk
open Go.ChangeShapes Go.WideShapes Go.ChangeAt Go.RowKit
set_option linter.unusedVariables false

set_option maxRecDepth 100000 in
set_option maxHeartbeats 2000000 in
theorem walk (s0a s0b : Int) (s1a s1b : Int) (s2a s2b : Int) (w : World) (ws0a : Fits s0a) (ws0b : Fits s0b) (ws1a : Fits s1a) (ws1b : Fits s1b) (ws2a : Fits s2a) (ws2b : Fits s2b) :
    Calls Try.prog 9 #[.agg #[.int .i64 s0a, .int .i64 s0b], .agg #[.int .i64 s1a, .int .i64 s1b], .agg #[.int .i64 s2a, .int .i64 s2b]] w fun e w' => e = .returned (.bool true) ∧ Below w.heap.size w w' := by
  obtain ⟨pl, hpl⟩ : ∃ pl, Hid (plc s0a s1b = pl) := ⟨_, rfl⟩
  obtain ⟨q1, hq1⟩ : ∃ q, Hid (sqr s0a s0b s1a s1b = q) := ⟨_, rfl⟩
  obtain ⟨q2, hq2⟩ : ∃ q, Hid (sqr s1a s1b s2a s2b = q) := ⟨_, rfl⟩
  obtain ⟨sd, hsd⟩ : ∃ q, Hid (sid s0a s0b s1a s1b s2a s2b = q) := ⟨_, rfl⟩
  obtain ⟨r1, hr1⟩ := root_ex s0a
  obtain ⟨r2, hr2⟩ := root_ex q2
  have hb2 := sqr_bd s1a s1b s2a s2b
  rw [hq2.out] at hb2
  obtain ⟨k0, k1⟩ := hb2
  obtain ⟨a0, a1⟩ := ws0a
  have HR1 := Lib.hid hr1
  have HR2 := Lib.hid hr2
  clear hr1 hr2 ws0b ws1a ws1b ws2a ws2b
  go_enter Try.func9, Try.ntmps9
  go_wp2_with fail
  refine (awake13 _).mono ?_
  rintro e w1 ⟨rfl, b1⟩
  have z0 := b1.cell (p := ⟨w.heap.size, 0, none⟩) (by first | (simp; done) | (simp; omega))
  have z1 := b1.cell (p := ⟨w.heap.size, 1, none⟩) (by first | (simp; done) | (simp; omega))
  have z2 := b1.cell (p := ⟨w.heap.size + 1, 0, none⟩) (by first | (simp; done) | (simp; omega))
  have z3 := b1.cell (p := ⟨w.heap.size + 1, 1, none⟩) (by first | (simp; done) | (simp; omega))
  have z4 := b1.cell (p := ⟨w.heap.size + 1 + 1, 0, none⟩) (by first | (simp; done) | (simp; omega))
  have z5 := b1.cell (p := ⟨w.heap.size + 1 + 1, 1, none⟩) (by first | (simp; done) | (simp; omega))
  have e0 : w1.cell? ⟨w.heap.size, 0, none⟩ = some (.int .i64 s0a) := z0.trans (by go_simp)
  have e1 : w1.cell? ⟨w.heap.size, 1, none⟩ = some (.int .i64 s0b) := z1.trans (by go_simp)
  have e2 : w1.cell? ⟨w.heap.size + 1, 0, none⟩ = some (.int .i64 s1a) := z2.trans (by go_simp)
  have e3 : w1.cell? ⟨w.heap.size + 1, 1, none⟩ = some (.int .i64 s1b) := z3.trans (by go_simp)
  have e4 : w1.cell? ⟨w.heap.size + 1 + 1, 0, none⟩ = some (.int .i64 s2a) := z4.trans (by go_simp)
  have e5 : w1.cell? ⟨w.heap.size + 1 + 1, 1, none⟩ = some (.int .i64 s2b) := z5.trans (by go_simp)
  clear z0 z1 z2 z3 z4 z5
  have d0 := fun s : Later w1 => Later.cell e0 s
  have d1 := fun s : Later w1 => Later.cell e1 s
  have d2 := fun s : Later w1 => Later.cell e2 s
  have d3 := fun s : Later w1 => Later.cell e3 s
  have d4 := fun s : Later w1 => Later.cell e4 s
  have d5 := fun s : Later w1 => Later.cell e5 s
  clear e0 e1 e2 e3 e4 e5
  go_wp2_with fail
  refine wp_region_later (by kernel_rfl) (by kernel_rfl) ?_
  repeat (go_big_quiet_step ((first
    | (go_at_call 39; exact calls_still (goPlc_is hpl.out))
    | (go_at_call 40; exact calls_still (refPlc_is hpl.out))
    | (go_at_call 41; exact calls_later (goSqr_is hq1.out))
    | (go_at_call 42; exact calls_later (refSqr_is hq1.out))
    | (go_at_call 42; exact calls_later (refSqr_is hq2.out))
    | (go_at_call 43; exact calls_later (goSid_is hsd.out))
    | (go_at_call 44; exact calls_later (refSid_is hsd.out))
    | (go_at_call 45; exact calls_still (goRoot _ _ _ a1 HR1.out))
    | (go_at_call 45; exact calls_still (goRoot _ _ _ (by omega) HR2.out))
    | (go_at_call 46; exact calls_still (refRoot _ _ _ a0 a1 HR1.out))
    | (go_at_call 46; exact calls_still (refRoot _ _ _ (by omega) (by omega) HR2.out)))))
  refine wpQuiet_nil ?_
  rintro w2 ⟨s, rfl⟩
  have b2 := b1.trans (s.below.mono b1.size)
  generalize s.w = w2 at b2 ⊢
  clear d0 d1 d2 d3 d4 d5
  go_wp2_with fail
  go_ret
  exact ⟨rfl, below_boxed (below_boxed (below_boxed b2))⟩
end Go.Proofs.Ytgaonfeljijebaa.geoTellsWalk
