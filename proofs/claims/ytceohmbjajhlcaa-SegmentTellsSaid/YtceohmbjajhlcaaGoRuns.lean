/-
  dwell.Runs hands back runsOf and errR. No conditions but the arguments' readings.
-/
import Derived.Test.YtceohmbjajhlcaaRefRuns
import Derived.Test.YtceohmbjajhlcaaOwn
import Derived.Outline
namespace Go.Proofs.Ytceohmbjajhlcaa
open Go.ChangeShapes Go.WideShapes Go.ChangeAt Go.RowKit
set_option linter.unusedVariables false

/-- A run begins at k. -/
def Starts (st : List Int) (k : Nat) : Prop := k = 0 ∨ st[k]? = none ∨ st[k]? ≠ st[k - 1]?
/-- Where the loop of dwell.Runs stands at its label. -/
def GoAt (A B : Option Addr) (n c c' : Nat) (st : List Int) (l : List Run) (w : World) (a' : Act) (wr : World) : Prop :=
  ∃ (k : Nat) (v : Value) (us : Nat → Value), a' = { tmps := #[.slice A n c, .slice B n c', undef, undef, us 4, us 5, us 6, us 7, v, .int .i64 k, us 10, us 11, us 12, us 13, us 14, us 15, us 16, us 17, us 18, us 19, us 20, us 21, us 22, us 23, us 24, us 25, us 26, us 27, us 28, us 29, us 30, us 31, us 32, us 33, us 34, us 35, us 36, us 37, us 38, us 39, us 40, us 41, us 42, us 43, us 44, us 45, us 46, us 47, us 48, us 49, us 50, us 51, us 52, us 53, us 54, us 55, us 56, us 57, us 58, us 59, us 60, us 61, us 62, us 63, us 64, us 65, us 66, us 67, us 68, us 69, us 70, us 71, us 72, us 73, us 74, us 75, us 76, us 77, us 78, us 79, us 80, us 81, us 82, us 83, us 84, us 85, us 86, us 87, us 88, us 89, us 90, us 91, us 92, us 93, us 94, us 95, us 96, us 97, us 98], defers := [] } ∧ k ≤ n ∧ Hid (Starts st k) ∧ Hid (errR st l = 0) ∧ RefAt st l w k v wr
set_option maxRecDepth 100000 in
theorem GoAt_mk {A B : Option Addr} {n c c' : Nat} {st : List Int} {l : List Run} {w : World} {wr : World} {T : Array Value} (k : Nat) (v : Value) (hT : T = #[.slice A n c, .slice B n c', undef, undef, T.getD 4 undef, T.getD 5 undef, T.getD 6 undef, T.getD 7 undef, v, .int .i64 k, T.getD 10 undef, T.getD 11 undef, T.getD 12 undef, T.getD 13 undef, T.getD 14 undef, T.getD 15 undef, T.getD 16 undef, T.getD 17 undef, T.getD 18 undef, T.getD 19 undef, T.getD 20 undef, T.getD 21 undef, T.getD 22 undef, T.getD 23 undef, T.getD 24 undef, T.getD 25 undef, T.getD 26 undef, T.getD 27 undef, T.getD 28 undef, T.getD 29 undef, T.getD 30 undef, T.getD 31 undef, T.getD 32 undef, T.getD 33 undef, T.getD 34 undef, T.getD 35 undef, T.getD 36 undef, T.getD 37 undef, T.getD 38 undef, T.getD 39 undef, T.getD 40 undef, T.getD 41 undef, T.getD 42 undef, T.getD 43 undef, T.getD 44 undef, T.getD 45 undef, T.getD 46 undef, T.getD 47 undef, T.getD 48 undef, T.getD 49 undef, T.getD 50 undef, T.getD 51 undef, T.getD 52 undef, T.getD 53 undef, T.getD 54 undef, T.getD 55 undef, T.getD 56 undef, T.getD 57 undef, T.getD 58 undef, T.getD 59 undef, T.getD 60 undef, T.getD 61 undef, T.getD 62 undef, T.getD 63 undef, T.getD 64 undef, T.getD 65 undef, T.getD 66 undef, T.getD 67 undef, T.getD 68 undef, T.getD 69 undef, T.getD 70 undef, T.getD 71 undef, T.getD 72 undef, T.getD 73 undef, T.getD 74 undef, T.getD 75 undef, T.getD 76 undef, T.getD 77 undef, T.getD 78 undef, T.getD 79 undef, T.getD 80 undef, T.getD 81 undef, T.getD 82 undef, T.getD 83 undef, T.getD 84 undef, T.getD 85 undef, T.getD 86 undef, T.getD 87 undef, T.getD 88 undef, T.getD 89 undef, T.getD 90 undef, T.getD 91 undef, T.getD 92 undef, T.getD 93 undef, T.getD 94 undef, T.getD 95 undef, T.getD 96 undef, T.getD 97 undef, T.getD 98 undef]) (hr : k ≤ n ∧ Hid (Starts st k) ∧ Hid (errR st l = 0) ∧ RefAt st l w k v wr) : GoAt A B n c c' st l w { tmps := T, defers := [] } wr :=
  ⟨k, v, fun i => T.getD i undef, by rw [← hT], hr⟩

theorem prs_start {st : List Int} {l : List Run} {k : Nat} {s u x y : Int} (hS : Starts st k) (hs : st[k]? = some s) (hl : l[k]? = some (u, x, y)) : prs st l k = (runsTo st l k, (s, u, u)) := by
  cases k with
  | zero => exact prs_zero hs hl
  | succ j =>
    obtain ⟨⟨o, s1, f, t⟩, hp⟩ : ∃ p : List Run × Run, prs st l j = p := ⟨_, rfl⟩
    have hj : st[j]? = some s1 := by
      have h1 := prs_stop st l j
      rw [hp] at h1
      have hlt : j + 1 < st.length := (List.getElem?_eq_some_iff.1 hs).1
      have h2 : st[j]? = some (st[j]'(by omega)) := List.getElem?_eq_getElem (by omega)
      rw [getD_of h2] at h1
      rw [h2, ← h1]
    have hne : s ≠ s1 := by
      rcases hS with h | h | h
      · omega
      · rw [hs] at h; cases h
      · rw [hs, show j + 1 - 1 = j by omega, hj] at h
        exact fun e => h (by rw [e])
    rw [prs_off hp hs hne hl, runsTo_of hp]

/-- Sample j is behind the first one of the run that begins at k. -/
def InRun (st : List Int) (l : List Run) (k : Nat) (s u : Int) (j : Nat) (t : Int) : Prop := j = k ∨ (k < j ∧ st[j - 1]? = some s ∧ prs st l (j - 1) = (runsTo st l k, (s, u, t)))
theorem inRun_more {st : List Int} {l : List Run} {k j : Nat} {s u t u2 x y x2 y2 : Int} (h : InRun st l k s u j t) (hS : Starts st k) (hst : st[k]? = some s) (hsl : l[k]? = some (u, x, y)) (hs2 : st[j]? = some s) (hl2 : l[j]? = some (u2, x2, y2)) (hkj : k ≤ j) : InRun st l k s u (j + 1) u2 := by
  refine .inr ⟨by omega, by simpa using hs2, ?_⟩
  rw [show j + 1 - 1 = j by omega]
  rcases h with rfl | ⟨hlt, h1, h2⟩
  · rw [hsl] at hl2
    obtain ⟨rfl, _⟩ : u = u2 ∧ (x, y) = (x2, y2) := by simpa using hl2
    exact prs_start hS hst hsl
  · obtain ⟨i, rfl⟩ : ∃ i, j = i + 1 := ⟨j - 1, by omega⟩
    exact prs_on h2 hs2 hl2
theorem inRun_runs {st : List Int} {l : List Run} {k j : Nat} {s u t : Int} (h : InRun st l k s u j t) (hne : j ≠ k) : runsTo st l j = runsTo st l k ++ [(s, u, t)] := by
  rcases h with h | ⟨hlt, _, h2⟩
  · exact absurd h hne
  · obtain ⟨i, rfl⟩ : ∃ i, j = i + 1 := ⟨j - 1, by omega⟩
    exact runsTo_of h2
theorem inRun_last {st : List Int} {l : List Run} {k j : Nat} {s u t : Int} (h : InRun st l k s u j t) (hne : j ≠ k) : st[j - 1]? = some s := by
  rcases h with h | ⟨_, h, _⟩
  · exact absurd h hne
  · exact h
theorem own_below {w w' : World} {base n : Nat} {t : TypeId} {size : Nat} {v : Value} {xs : List Value} (h : w.ownsRow base t size v n xs) (hb : Below w.heap.size w w') : w'.ownsRow base t size v n xs :=
  h.kept (row := none) ⟨hb.os, hb.tape, hb.output, hb.size, fun i hi _ => hb.block i hi⟩ (by
    rcases hv : v.ownBlock with _ | g
    · exact .inl rfl
    · exact .inr (by simp))
theorem own_dN {w : World} {base n : Nat} {t : TypeId} {size : Nat} {v : Value} {xs : List Value} (h : w.ownsRow base t size v n xs) (k : Nat) : (w.drewN k).ownsRow base t size v n xs := h
theorem refAt_app {st : List Int} {l : List Run} {w w1 : World} {k j : Nat} {v' : Value} {s u t : Int} (R : runsTo st l j = runsTo st l k ++ [(s, u, t)])
    (hown1 : w1.ownsRow w.heap.size 48 3 v' ((runsTo st l k).length + 1) (cellsR (runsTo st l k) ++ [.int .i64 s, .int .i64 u, .int .i64 t])) (hb : Below w.heap.size w w1) : RefAt st l w j v' w1 := by
  obtain ⟨A, c, rfl⟩ := own_any hown1
  unfold RefAt
  rw [R, cellsR_snoc, List.length_append]
  exact ⟨_, _, rfl, hown1, hb⟩

theorem wp_scope_run {P : Program} {Q : Exit → Act → World → Prop} {a : Act} {w : World} {c rest : Code} (l : Nat) (J : Act → World → Prop) (μ : Act → World → Nat) (hf : findLabel c l = some (.seq .skip rest))
    (pass : ∀ a w, J a w → rest.wp P (Exit.jump l (fun a' w' => J a' w' ∧ μ a' w' < μ a w) Q) a w)
    (first : (∀ a w, J a w → rest.wp P (Exit.jump l J Q) a w) → c.wp P (Exit.jump l J Q) a w) : (Code.scope c).wp P Q a w :=
  wp_scope_jumps l J μ hf (first fun a w h => Code.wp_mono (fun e a' w' hh => by
    cases e <;> first | exact hh | exact ⟨hh.1, hh.2.1⟩) (pass a w h)) (fun a w h => wp_seq (wp_skip (pass a w h)))

set_option maxRecDepth 100000 in
set_option maxHeartbeats 4000000 in
theorem goRuns (A B : Option Addr) (n c c' : Nat) (st : List Int) (l : List Run) (w : World) (h : Rd one 1 w A n st) (h' : Rd three 3 w B n l) (hm : n ≤ 2048) :
    Calls Try.prog 11 #[.slice A n c, .slice B n c'] w (Gives (runsOf st l) (errR st l) w) := by
  have hm' : (n : Int) ≤ 2048 := by omega
  obtain ⟨i0, hi, hz0, hz1, hz2⟩ := info_parts Try.info48
  go_enter Try.func11, Try.ntmps11
  go_wp2
  refine wp_scope_run 0 (GoAt A B n c c' st l w) (fun a' _ => n - (intOf (a'.tmps.getD 9 undef)).toNat) rfl ?pass ?first
  case first =>
    intro again
    have AG := Lib.hid again
    clear again
    go_wp2
    go_loopw [21] (fun i wr => ∃ k : Nat, k ≤ n ∧ i = .int .i64 k ∧ Hid (Sound st l k) ∧ Below w.heap.size w wr) (fun i _ => n - (intOf i).toNat)
    case atStart => exact ⟨0, Nat.zero_le _, rfl, fun j hj => absurd hj (by omega), Below.refl _ _⟩
    case round =>
      obtain ⟨k, hk, rfl, hs, hb⟩ := hrel
      have szr := hb.size
      have ER : Hid (errR st l = 2 → runsOf st l = []) := fun e => by rw [runsOf, e]; rfl
      by_cases hlt : k < n
      · have hkl : k < l.length := by rw [← h'.1]; exact hlt
        obtain ⟨s, bs, os, hA, hst, hcs⟩ := (h.below hb (Nat.le_refl _)).at1 hlt
        obtain ⟨u, x, y, bl, ol, hB, hsl, hcu, hcx, hcy⟩ := (h'.below hb (Nat.le_refl _)).at3 hlt
        subst hA hB
        have d0 : ∀ ns : Nat, (boxes (wr.alloc (.cells #[.int .i64 u, .int .i64 x, .int .i64 y] 46)) (.cells #[.int .i64 u, .int .i64 x, .int .i64 y] 46) ns).cell? ⟨wr.heap.size, 0, none⟩ = some (.int .i64 u) := fun ns => ((boxes_below (wr.alloc (.cells #[.int .i64 u, .int .i64 x, .int .i64 y] 46)) _ ns).cell (p := ⟨wr.heap.size, 0, none⟩) (by simp)).trans (Bk.cell (Bk.new wr 46 _) 0)
        have d1 : ∀ ns : Nat, (boxes (wr.alloc (.cells #[.int .i64 u, .int .i64 x, .int .i64 y] 46)) (.cells #[.int .i64 u, .int .i64 x, .int .i64 y] 46) ns).cell? ⟨wr.heap.size, 1, none⟩ = some (.int .i64 x) := fun ns => ((boxes_below (wr.alloc (.cells #[.int .i64 u, .int .i64 x, .int .i64 y] 46)) _ ns).cell (p := ⟨wr.heap.size, 1, none⟩) (by simp)).trans (Bk.cell (Bk.new wr 46 _) 1)
        have d2 : ∀ ns : Nat, (boxes (wr.alloc (.cells #[.int .i64 u, .int .i64 x, .int .i64 y] 46)) (.cells #[.int .i64 u, .int .i64 x, .int .i64 y] 46) ns).cell? ⟨wr.heap.size, 2, none⟩ = some (.int .i64 y) := fun ns => ((boxes_below (wr.alloc (.cells #[.int .i64 u, .int .i64 x, .int .i64 y] 46)) _ ns).cell (p := ⟨wr.heap.size, 2, none⟩) (by simp)).trans (Bk.cell (Bk.new wr 46 _) 2)
        have ds : ∀ ns : Nat, (boxes (wr.alloc (.cells #[.int .i64 u, .int .i64 x, .int .i64 y] 46)) (.cells #[.int .i64 u, .int .i64 x, .int .i64 y] 46) ns).cell? ⟨bs, os + k, none⟩ = some (.int .i64 s) := fun ns => ((boxes_below (wr.alloc (.cells #[.int .i64 u, .int .i64 x, .int .i64 y] 46)) _ ns).cell (p := ⟨bs, os + k, none⟩) (by have := lt_of_cell hcs; simp at this ⊢; omega)).trans ((World.cell?_alloc_lt wr _ ⟨bs, os + k, none⟩ (lt_of_cell hcs)).trans hcs)
        rcases hM : mayB u x y with _ | _
        · have E : Hid (errR st l = 2) := errR_bad (by rw [← h'.1]; exact hm) (allS_bad hkl (okS_bad (inTime_may hsl.out hM)))
          go_wp2
          refine wp_region_boxes (.cells #[.int .i64 u, .int .i64 x, .int .i64 y] 46) (by kernel_rfl) (by kernel_rfl) ?_
          repeat (go_big_quiet_step ((go_at_call 36; exact calls_boxes (goMay_is u x y false hM _))))
          refine wpQuiet_nil ?_
          rintro w2 ⟨ns, rfl⟩
          have hb2 := boxes_below (wr.alloc (.cells #[.int .i64 u, .int .i64 x, .int .i64 y] 46)) (.cells #[.int .i64 u, .int .i64 x, .int .i64 y] 46) ns
          generalize boxes (wr.alloc (.cells #[.int .i64 u, .int .i64 x, .int .i64 y] 46)) (.cells #[.int .i64 u, .int .i64 x, .int .i64 y] 46) ns = w2 at hb2 ⊢
          have hb3 : Below w.heap.size w w2 := (hb.alloc szr _).trans (hb2.mono (by simp; omega))
          clear d0 d1 d2 ds
          go_wp2
          go_ret2
          exact ⟨none, 0, 0, by rw [E.out]; rfl, by rw [ER.out E.out]; exact Rd.nil _ _ _ _, hb3⟩
        · rcases Nat.eq_zero_or_pos k with rfl | hpos
          · rw [Nat.zero_mul, Nat.add_zero] at hcu hcx hcy
            rw [Nat.add_zero] at hcs ds
            have HT : Hid (inTime l 0 = true) := by show _ = _; rw [inTime_zero hsl.out, hM]
            by_cases h0 : 0 ≤ s
            · have g0 : decide (s < 0) = false := by simp; omega
              by_cases h4 : s ≤ 4095
              · have G : Hid (Sound st l (0 + 1)) := sound_succ hs.out (by rw [okS_of hst.out, HT.out]; simp; omega)
                go_wp2
                refine wp_region_boxes (.cells #[.int .i64 u, .int .i64 x, .int .i64 y] 46) (by kernel_rfl) (by kernel_rfl) ?_
                repeat (go_big_quiet_step ((go_at_call 36; exact calls_boxes (goMay_is u x y true hM _))))
                refine wpQuiet_nil ?_
                rintro w2 ⟨ns, rfl⟩
                have hb2 := boxes_below (wr.alloc (.cells #[.int .i64 u, .int .i64 x, .int .i64 y] 46)) (.cells #[.int .i64 u, .int .i64 x, .int .i64 y] 46) ns
                generalize boxes (wr.alloc (.cells #[.int .i64 u, .int .i64 x, .int .i64 y] 46)) (.cells #[.int .i64 u, .int .i64 x, .int .i64 y] 46) ns = w2 at hb2 ⊢
                have hb3 : Below w.heap.size w w2 := (hb.alloc szr _).trans (hb2.mono (by simp; omega))
                clear d0 d1 d2 ds
                go_wp2
                go_roundw
                case rel => exact ⟨0 + 1, by omega, by go_num, G.out, hb3⟩
                case measure => simp [intOf]; omega
              · have E : Hid (errR st l = 2) := errR_bad (by rw [← h'.1]; exact hm) (allS_bad hkl (by rw [okS_of hst.out]; simp; omega))
                go_wp2
                refine wp_region_boxes (.cells #[.int .i64 u, .int .i64 x, .int .i64 y] 46) (by kernel_rfl) (by kernel_rfl) ?_
                repeat (go_big_quiet_step ((go_at_call 36; exact calls_boxes (goMay_is u x y true hM _))))
                refine wpQuiet_nil ?_
                rintro w2 ⟨ns, rfl⟩
                have hb2 := boxes_below (wr.alloc (.cells #[.int .i64 u, .int .i64 x, .int .i64 y] 46)) (.cells #[.int .i64 u, .int .i64 x, .int .i64 y] 46) ns
                generalize boxes (wr.alloc (.cells #[.int .i64 u, .int .i64 x, .int .i64 y] 46)) (.cells #[.int .i64 u, .int .i64 x, .int .i64 y] 46) ns = w2 at hb2 ⊢
                have hb3 : Below w.heap.size w w2 := (hb.alloc szr _).trans (hb2.mono (by simp; omega))
                clear d0 d1 d2 ds
                go_wp2
                go_ret2
                exact ⟨none, 0, 0, by rw [E.out]; rfl, by rw [ER.out E.out]; exact Rd.nil _ _ _ _, hb3⟩
            · have E : Hid (errR st l = 2) := errR_bad (by rw [← h'.1]; exact hm) (allS_bad hkl (by rw [okS_of hst.out]; simp; omega))
              go_wp2
              refine wp_region_boxes (.cells #[.int .i64 u, .int .i64 x, .int .i64 y] 46) (by kernel_rfl) (by kernel_rfl) ?_
              repeat (go_big_quiet_step ((go_at_call 36; exact calls_boxes (goMay_is u x y true hM _))))
              refine wpQuiet_nil ?_
              rintro w2 ⟨ns, rfl⟩
              have hb2 := boxes_below (wr.alloc (.cells #[.int .i64 u, .int .i64 x, .int .i64 y] 46)) (.cells #[.int .i64 u, .int .i64 x, .int .i64 y] 46) ns
              generalize boxes (wr.alloc (.cells #[.int .i64 u, .int .i64 x, .int .i64 y] 46)) (.cells #[.int .i64 u, .int .i64 x, .int .i64 y] 46) ns = w2 at hb2 ⊢
              have hb3 : Below w.heap.size w w2 := (hb.alloc szr _).trans (hb2.mono (by simp; omega))
              clear d0 d1 d2 ds
              go_wp2
              go_ret2
              exact ⟨none, 0, 0, by rw [E.out]; rfl, by rw [ER.out E.out]; exact Rd.nil _ _ _ _, hb3⟩
          · obtain ⟨j, rfl⟩ : ∃ j, k = j + 1 := ⟨k - 1, by omega⟩
            obtain ⟨u', x', y', b', off', hA', hx', hcu', hcx', hcy'⟩ := (h'.below hb (Nat.le_refl _)).at3 (k := j) (by omega)
            obtain ⟨rfl, rfl⟩ : bl = b' ∧ ol = off' := by simpa using hA'
            clear hA' hpos hcx' hcy'
            have HO := Lib.hid (inTime_succ hsl.out hx'.out)
            have d3 : ∀ ns : Nat, (boxes (wr.alloc (.cells #[.int .i64 u, .int .i64 x, .int .i64 y] 46)) (.cells #[.int .i64 u, .int .i64 x, .int .i64 y] 46) ns).cell? ⟨bl, ol + j * 3, none⟩ = some (.int .i64 u') := fun ns => ((boxes_below (wr.alloc (.cells #[.int .i64 u, .int .i64 x, .int .i64 y] 46)) _ ns).cell (p := ⟨bl, ol + j * 3, none⟩) (by have := lt_of_cell hcu'; simp at this ⊢; omega)).trans ((World.cell?_alloc_lt wr _ ⟨bl, ol + j * 3, none⟩ (lt_of_cell hcu')).trans hcu')
            have WJ : Hid (IntKind.i64.wrap (j : Int) = (j : Int)) := IntWalk.i64_in _ (by omega)
            have wj0 : (0 : Int) ≤ j := by omega
            have wjn : (j : Int) < n := by omega
            by_cases ht : u' < u
            · have gt : decide (u ≤ u') = false := by simp; omega
              have HT : Hid (inTime l (j + 1) = true) := by show _ = _; rw [HO.out, hM]; simpa using ht
              by_cases h0 : 0 ≤ s
              · have g0 : decide (s < 0) = false := by simp; omega
                by_cases h4 : s ≤ 4095
                · have G : Hid (Sound st l (j + 1 + 1)) := sound_succ hs.out (by rw [okS_of hst.out, HT.out]; simp; omega)
                  go_wp2
                  refine wp_region_boxes (.cells #[.int .i64 u, .int .i64 x, .int .i64 y] 46) (by kernel_rfl) (by kernel_rfl) ?_
                  have wj := WJ.out
                  repeat (go_big_quiet_step ((go_at_call 36; exact calls_boxes (goMay_is u x y true hM _))))
                  refine wpQuiet_nil ?_
                  clear wj
                  rintro w2 ⟨ns, rfl⟩
                  have hb2 := boxes_below (wr.alloc (.cells #[.int .i64 u, .int .i64 x, .int .i64 y] 46)) (.cells #[.int .i64 u, .int .i64 x, .int .i64 y] 46) ns
                  generalize boxes (wr.alloc (.cells #[.int .i64 u, .int .i64 x, .int .i64 y] 46)) (.cells #[.int .i64 u, .int .i64 x, .int .i64 y] 46) ns = w2 at hb2 ⊢
                  have hb3 : Below w.heap.size w w2 := (hb.alloc szr _).trans (hb2.mono (by simp; omega))
                  clear d0 d1 d2 ds d3
                  go_wp2
                  go_roundw
                  case rel => exact ⟨j + 1 + 1, by omega, by go_num, G.out, hb3⟩
                  case measure => simp [intOf]; omega
                · have E : Hid (errR st l = 2) := errR_bad (by rw [← h'.1]; exact hm) (allS_bad hkl (by rw [okS_of hst.out]; simp; omega))
                  go_wp2
                  refine wp_region_boxes (.cells #[.int .i64 u, .int .i64 x, .int .i64 y] 46) (by kernel_rfl) (by kernel_rfl) ?_
                  have wj := WJ.out
                  repeat (go_big_quiet_step ((go_at_call 36; exact calls_boxes (goMay_is u x y true hM _))))
                  refine wpQuiet_nil ?_
                  clear wj
                  rintro w2 ⟨ns, rfl⟩
                  have hb2 := boxes_below (wr.alloc (.cells #[.int .i64 u, .int .i64 x, .int .i64 y] 46)) (.cells #[.int .i64 u, .int .i64 x, .int .i64 y] 46) ns
                  generalize boxes (wr.alloc (.cells #[.int .i64 u, .int .i64 x, .int .i64 y] 46)) (.cells #[.int .i64 u, .int .i64 x, .int .i64 y] 46) ns = w2 at hb2 ⊢
                  have hb3 : Below w.heap.size w w2 := (hb.alloc szr _).trans (hb2.mono (by simp; omega))
                  clear d0 d1 d2 ds d3
                  go_wp2
                  go_ret2
                  exact ⟨none, 0, 0, by rw [E.out]; rfl, by rw [ER.out E.out]; exact Rd.nil _ _ _ _, hb3⟩
              · have E : Hid (errR st l = 2) := errR_bad (by rw [← h'.1]; exact hm) (allS_bad hkl (by rw [okS_of hst.out]; simp; omega))
                go_wp2
                refine wp_region_boxes (.cells #[.int .i64 u, .int .i64 x, .int .i64 y] 46) (by kernel_rfl) (by kernel_rfl) ?_
                have wj := WJ.out
                repeat (go_big_quiet_step ((go_at_call 36; exact calls_boxes (goMay_is u x y true hM _))))
                refine wpQuiet_nil ?_
                clear wj
                rintro w2 ⟨ns, rfl⟩
                have hb2 := boxes_below (wr.alloc (.cells #[.int .i64 u, .int .i64 x, .int .i64 y] 46)) (.cells #[.int .i64 u, .int .i64 x, .int .i64 y] 46) ns
                generalize boxes (wr.alloc (.cells #[.int .i64 u, .int .i64 x, .int .i64 y] 46)) (.cells #[.int .i64 u, .int .i64 x, .int .i64 y] 46) ns = w2 at hb2 ⊢
                have hb3 : Below w.heap.size w w2 := (hb.alloc szr _).trans (hb2.mono (by simp; omega))
                clear d0 d1 d2 ds d3
                go_wp2
                go_ret2
                exact ⟨none, 0, 0, by rw [E.out]; rfl, by rw [ER.out E.out]; exact Rd.nil _ _ _ _, hb3⟩
            · have E : Hid (errR st l = 2) := errR_bad (by rw [← h'.1]; exact hm) (allS_bad hkl (okS_bad (by rw [HO.out, hM]; simpa using ht)))
              go_wp2
              refine wp_region_boxes (.cells #[.int .i64 u, .int .i64 x, .int .i64 y] 46) (by kernel_rfl) (by kernel_rfl) ?_
              have wj := WJ.out
              repeat (go_big_quiet_step ((go_at_call 36; exact calls_boxes (goMay_is u x y true hM _))))
              refine wpQuiet_nil ?_
              clear wj
              rintro w2 ⟨ns, rfl⟩
              have hb2 := boxes_below (wr.alloc (.cells #[.int .i64 u, .int .i64 x, .int .i64 y] 46)) (.cells #[.int .i64 u, .int .i64 x, .int .i64 y] 46) ns
              generalize boxes (wr.alloc (.cells #[.int .i64 u, .int .i64 x, .int .i64 y] 46)) (.cells #[.int .i64 u, .int .i64 x, .int .i64 y] 46) ns = w2 at hb2 ⊢
              have hb3 : Below w.heap.size w w2 := (hb.alloc szr _).trans (hb2.mono (by simp; omega))
              clear d0 d1 d2 ds d3
              go_wp2
              go_ret2
              exact ⟨none, 0, 0, by rw [E.out]; rfl, by rw [ER.out E.out]; exact Rd.nil _ _ _ _, hb3⟩
      · obtain rfl : k = n := by omega
        have E : Hid (errR st l = 0) := errR_good (by rw [← h'.1]; exact hm) (by rw [← h'.1]; exact hs.out) (by rw [← h.1, ← h'.1])
        go_wp2
        go_step3
        rename_i hK
        refine hK _ _ (AG.out _ _ ?_)
        refine GoAt_mk 0 (.slice none 0 0) rfl ?_
        exact ⟨ by omega, .inl rfl, E, none, 0, rfl, World.ownsRow_nil _ _ _ _, hb⟩
  case pass =>
    rintro a' wo ⟨k, v, us, rfl, hk, hS, E, A', c2, rfl, hown, hbr⟩
    have HO := Lib.hid hown
    have HRL := Lib.hid (runsTo_len st l k)
    have szr := hbr.size
    clear hown
    by_cases hlt : k < n
    · obtain ⟨s, bs, os, hA, hst, hcs⟩ := (h.below hbr (Nat.le_refl _)).at1 hlt
      obtain ⟨u, x, y, bl, ol, hB, hsl, hcu, hcx, hcy⟩ := (h'.below hbr (Nat.le_refl _)).at3 hlt
      subst hA hB
      have lbs := lt_of_cell hcs
      have lbl := lt_of_cell hcu
      have k0 : (0 : Int) ≤ k := by omega
      have k1 : (k : Int) < n := by omega
      have nb0 := World.new_ne wo _ hcs
      have nb1 := World.new_ne wo _ hcu
      go_wp2_with fail
      go_region_held3 (fun w' => w'.cell? ⟨bs, os + k, none⟩ = some (.int .i64 s) ∧ w'.cell? ⟨bl, ol + k * 3, none⟩ = some (.int .i64 u)) (go_keep) (fail)
      go_wp2_with fail
      go_loopw [9] (fun i w2 => ∃ (j : Nat) (t : Int), k ≤ j ∧ j ≤ n ∧ i = .int .i64 j ∧ Hid (InRun st l k s u j t) ∧ Hid (Bk w2 wo.heap.size 48 #[.int .i64 s, .int .i64 u, .int .i64 t]) ∧ Hid (Below wo.heap.size wo w2)) (fun i _ => n - (intOf i).toNat)
      case atStart => exact ⟨k, 0, Nat.le_refl _, by omega, rfl, .inl rfl, Bk.dN (Bk.new wo 48 #[.int .i64 s, .int .i64 u, .int .i64 0]) 1, below_dN ((Below.refl _ _).alloc (Nat.le_refl _) _) 1⟩
      case round =>
        obtain ⟨j, t, hkj, hjn, rfl, hI, hbk, hb2⟩ := hrel
        have z0 := hbk.out.cell 0
        have z1 := hbk.out.cell 1
        have z2 := hbk.out.cell 2
        have f0 := hbk.out.free 0
        have f1 := hbk.out.free 1
        have f2 := hbk.out.free 2
        have hbw := hbr.trans (hb2.out.mono szr)
        have szw := hb2.out.size
        have szb := hbk.out.lt
        have HOw := Lib.hid (own_below HO.out hb2.out)
        by_cases hlj : j < n
        · obtain ⟨s2, bs2, os2, hA2, hst2, hcs2⟩ := (h.below hbw (Nat.le_refl _)).at1 hlj
          obtain ⟨rfl, rfl⟩ : bs = bs2 ∧ os = os2 := by simpa using hA2
          obtain ⟨u2, x2, y2, bl2, ol2, hB2, hsl2, hcu2, hcx2, hcy2⟩ := (h'.below hbw (Nat.le_refl _)).at3 hlj
          obtain ⟨rfl, rfl⟩ : bl = bl2 ∧ ol = ol2 := by simpa using hB2
          clear hA2 hB2
          have j0 : (0 : Int) ≤ j := by omega
          have j1 : (j : Int) < n := by omega
          by_cases es : s2 = s
          · subst es
            have G : Hid (InRun st l k s2 u (j + 1) u2) := inRun_more hI.out hS.out hst.out hsl.out hst2.out hsl2.out hkj
            go_wp2_with fail
            go_quiet (fail)
            go_wp2_with fail
            go_roundw
            case rel => exact ⟨j + 1, u2, by omega, by omega, by go_num, G.out, (hbk.out.dN nq).put 2 (.int .i64 u2), (below_dN hb2.out nq).setCell (p := ⟨wo.heap.size, 2, none⟩) (Nat.le_refl _) _⟩
            case measure => simp [intOf]; omega
          · have b1 : (s2 == s) = false := by simpa using es
            have hne : j ≠ k := by
              rintro rfl
              have h1 := hst2.out
              rw [hst.out] at h1
              exact es (by injection h1 with h1; exact h1.symm)
            have R := Lib.hid (inRun_runs hI.out hne)
            have SS : Hid (Starts st j) := by
              refine .inr (.inr ?_)
              rw [hst2.out, inRun_last hI.out hne]
              exact fun hh => es (by injection hh)
            have hkj2 : k < j := by omega
            clear es hne
            go_wp2_with fail
            go_quiet (fail)
            go_wp2_with (at_builtin; refine wpList_append_own _ rfl _ _ 25 rfl w.heap.size 48 i0 _ 3 24 Try.underlying25 hi hz0 hz1 hz2 rfl (by omega) _ _ (cellsR (runsTo st l k)) rfl (own_dN (HOw.out.alloc _) nq) ⟨wr.heap.size, 0, none⟩ 1 1 [.int .i64 s, .int .i64 u, .int .i64 t] rfl rfl (World.news_of_block (cs := #[.int .i64 s, .int .i64 u, .int .i64 t]) (t := 48) (fr := (0, 0)) (heap_alloc_new wr _)) (by simp [Value.oneCell']) (by have := HRL.out; unfold maxLen; omega) (by have := HRL.out; omega) (by simp; omega) ?_; intro v' w1 hown' hgrow _; have hown1 := Lib.hid hown'; have hb9 := (below_dN (hbw.alloc (by omega) _) nq).grown hgrow (by simp; omega) (fun i hi => (HOw.out.lt i hi).1); clear hown' hgrow)
            go_step3
            refine ⟨rfl, GoAt_mk j v' rfl ⟨hjn, SS, E, refAt_app R.out hown1.out hb9⟩, ?_⟩
            simp [intOf]; omega
        · obtain rfl : j = n := by omega
          have hne : j ≠ k := by omega
          have R := Lib.hid (inRun_runs hI.out hne)
          have SS : Hid (Starts st j) := .inr (.inl (List.getElem?_eq_none (by rw [← h.1]; exact Nat.le_refl _)))
          clear hne
          go_wp2_with fail
          go_quiet (fail)
          go_wp2_with (at_builtin; refine wpList_append_own _ rfl _ _ 25 rfl w.heap.size 48 i0 _ 3 24 Try.underlying25 hi hz0 hz1 hz2 rfl (by omega) _ _ (cellsR (runsTo st l k)) rfl (own_dN (HOw.out.alloc _) nq) ⟨wr.heap.size, 0, none⟩ 1 1 [.int .i64 s, .int .i64 u, .int .i64 t] rfl rfl (World.news_of_block (cs := #[.int .i64 s, .int .i64 u, .int .i64 t]) (t := 48) (fr := (0, 0)) (heap_alloc_new wr _)) (by simp [Value.oneCell']) (by have := HRL.out; unfold maxLen; omega) (by have := HRL.out; omega) (by simp; omega) ?_; intro v' w1 hown' hgrow _; have hown1 := Lib.hid hown'; have hb9 := (below_dN (hbw.alloc (by omega) _) nq).grown hgrow (by simp; omega) (fun i hi => (HOw.out.lt i hi).1); clear hown' hgrow)
          go_step3
          refine ⟨rfl, GoAt_mk j v' rfl ⟨hjn, SS, E, refAt_app R.out hown1.out hb9⟩, ?_⟩
          simp [intOf]; omega
    · obtain rfl : k = n := by omega
      have R : Hid (runsOf st l = runsTo st l k) := by show _ = _; rw [runsOf, if_pos E.out, ← h'.1]
      go_wp2
      simp only [Exit.jump]
      go_ret2
      exact ⟨A', _, c2, by rw [E.out]; rfl, by rw [R.out]; exact rd_cellsR HO.out, hbr⟩
end Go.Proofs.Ytceohmbjajhlcaa
