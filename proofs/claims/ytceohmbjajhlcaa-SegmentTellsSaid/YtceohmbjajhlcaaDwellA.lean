/-
  dwell.Runs whatever the lengths, and the chapter's example. No conditions but the arguments' readings.
-/
import Derived.Test.YtceohmbjajhlcaaGoRuns
namespace Go.Proofs.Ytceohmbjajhlcaa
open Go.ChangeShapes Go.WideShapes Go.ChangeAt Go.RowKit
set_option linter.unusedVariables false

theorem goRuns_any (A B : Option Addr) (n c n' c' : Nat) (st : List Int) (l : List Run) (w : World) (h : Rd one 1 w A n st) (h' : Rd three 3 w B n' l) (hm : n ≤ 9223372036854775807) (hm' : n' ≤ 9223372036854775807) :
    Calls Try.prog 11 #[.slice A n c, .slice B n' c'] w (Gives (runsOf st l) (errR st l) w) := by
  have hn := h.1
  have hn' := h'.1
  by_cases h3 : 2048 < n'
  · have E : Hid (errR st l = 3) := by show _ = _; rw [errR, if_pos (by omega)]
    have R : Hid (runsOf st l = []) := by show _ = _; rw [runsOf, E.out]; rfl
    clear hn hn'
    go_enter Try.func11, Try.ntmps11
    go_wp2
    go_step3
    go_wp2
    rw [Exit.noGoto_ret]
    go_ret2
    exact ⟨none, 0, 0, by rw [E.out]; rfl, by rw [R.out]; exact Rd.nil _ _ _ _, Below.refl _ _⟩
  by_cases h2 : n = n'
  · subst h2
    exact goRuns A B n c c' st l w h h' (by omega)
  · have E : Hid (errR st l = 2) := by show _ = _; rw [errR, if_neg (by omega), if_neg (by rw [← hn, ← hn']; exact fun hh => h2 hh.1)]
    have R : Hid (runsOf st l = []) := by show _ = _; rw [runsOf, E.out]; rfl
    have b : ((n : Int) != (n' : Int)) = true := by simp; omega
    clear hn hn'
    go_enter Try.func11, Try.ntmps11
    go_wp2
    go_step3
    go_wp2
    rw [Exit.noGoto_ret]
    go_ret2
    exact ⟨none, 0, 0, by rw [E.out]; rfl, by rw [R.out]; exact Rd.nil _ _ _ _, Below.refl _ _⟩

theorem goRuns_is {A B : Option Addr} {n c n' c' : Nat} {st : List Int} {l rs : List Run} {err : Int} {w : World} (hR : runsOf st l = rs) (hE : errR st l = err) (h : Rd one 1 w A n st) (h' : Rd three 3 w B n' l) (hm : n ≤ 9223372036854775807) (hm' : n' ≤ 9223372036854775807) :
    Calls Try.prog 11 #[.slice A n c, .slice B n' c'] w (Gives rs err w) := by rw [← hR, ← hE]; exact goRuns_any A B n c n' c' st l w h h' hm hm'
theorem refRuns_is {A B : Option Addr} {n c n' c' : Nat} {st : List Int} {l rs : List Run} {err : Int} {w : World} (hR : runsOf st l = rs) (hE : errR st l = err) (h : Rd one 1 w A n st) (h' : Rd three 3 w B n' l) (hm : n ≤ 9223372036854775807) (hm' : n' ≤ 9223372036854775807) :
    Calls Try.prog 12 #[.slice A n c, .slice B n' c'] w (Gives rs err w) := by rw [← hR, ← hE]; exact refRuns A B n c n' c' st l w h h' hm hm'
theorem same_runs {A B : Option Addr} {n c n' c' : Nat} {l : List Run} {w : World} (h : Rd three 3 w A n l) (h' : Rd three 3 w B n' l) (hm : n ≤ 9223372036854775807) (hm' : n' ≤ 9223372036854775807) :
    Calls Try.prog 13 #[.slice A n c, .slice B n' c'] w fun e w' => e = .returned (.bool true) ∧ ∃ m, w' = w.drewN m := (same_any A B n c n' c' l l w h h' hm hm').mono fun e w' ⟨he, hw⟩ => ⟨by rw [he]; simp, hw⟩

theorem awake24 (w : World) : Calls Try.prog 10 #[] w fun e w' => e = .returned (.bool true) ∧ Below w.heap.size w w' := by
  have r1 : Hid (runsOf [1, 1, 2] [(0, 0, 0), (5, 0, 0), (9, 0, 0)] = [(1, 0, 5), (2, 9, 9)]) := by show _ = _; decide
  have r2 : Hid (errR [1, 1, 2] [(0, 0, 0), (5, 0, 0), (9, 0, 0)] = 0) := by show _ = _; decide
  have ra := (Rd.made one 1 w 3 [1, 1, 2] #[.int .i64 1, .int .i64 1, .int .i64 2] (by simp [one]) rfl).alloc (.cells #[.int .i64 0, .int .i64 0, .int .i64 0, .int .i64 5, .int .i64 0, .int .i64 0, .int .i64 9, .int .i64 0, .int .i64 0] 46)
  have rb := Rd.made three 3 (w.alloc (.cells #[.int .i64 1, .int .i64 1, .int .i64 2] 3)) 46 [(0, 0, 0), (5, 0, 0), (9, 0, 0)] #[.int .i64 0, .int .i64 0, .int .i64 0, .int .i64 5, .int .i64 0, .int .i64 0, .int .i64 9, .int .i64 0, .int .i64 0] (by simp [three]) rfl
  rw [World.size_alloc] at rb
  go_enter Try.func10, Try.ntmps10
  go_wp2_with fail
  refine (goRuns_is r1.out r2.out ra rb (by decide) (by decide)).mono ?_
  rintro e w1 ⟨A, N, c, rfl, hR, hb⟩
  have hN : N = 2 := hR.1
  subst hN
  have rc := hR.alloc (.cells #[.int .i64 1, .int .i64 0, .int .i64 5, .int .i64 2, .int .i64 9, .int .i64 9] 48)
  have rd := Rd.made three 3 w1 48 [(1, 0, 5), (2, 9, 9)] #[.int .i64 1, .int .i64 0, .int .i64 5, .int .i64 2, .int .i64 9, .int .i64 9] (by simp [three]) rfl
  go_wp2_with fail
  refine (same_runs rc rd (by decide) (by decide)).mono ?_
  rintro e w2 ⟨rfl, m, rfl⟩
  go_wp2_with fail
  go_ret
  exact ⟨rfl, below_dN ((below_boxed (below_boxed hb)).alloc (by have := hb.size; simp at this; omega) _) m⟩
end Go.Proofs.Ytceohmbjajhlcaa
