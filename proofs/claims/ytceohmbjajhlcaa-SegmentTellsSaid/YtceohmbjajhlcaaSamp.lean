/-
  Which samples may be, and which traces are right: sample.May, its reference, and the reference of the package trace. No conditions but the arguments' readings.
-/
import Derived.Test.YtceohmbjajhlcaaDwell
import Derived.Deep.RegionHeld3
namespace Go.Proofs.Ytceohmbjajhlcaa
open Go.ChangeShapes Go.WideShapes Go.ChangeAt Go.RowKit
set_option linter.unusedVariables false

def mayB (t x y : Int) : Bool := decide (0 ≤ t ∧ t ≤ 1099511627776 ∧ 0 ≤ x ∧ x < 67108864 ∧ 0 ≤ y ∧ y < 67108864)
theorem mayB_iff {t x y : Int} : mayB t x y = true ↔ 0 ≤ t ∧ t ≤ 1099511627776 ∧ 0 ≤ x ∧ x < 67108864 ∧ 0 ≤ y ∧ y < 67108864 := by simp [mayB]
theorem mayB_no {t x y : Int} (h : ¬ (0 ≤ t ∧ t ≤ 1099511627776 ∧ 0 ≤ x ∧ x < 67108864 ∧ 0 ≤ y ∧ y < 67108864)) : mayB t x y = false := by
  rcases hm : mayB t x y with _ | _
  · rfl
  · exact absurd (mayB_iff.1 hm) h

theorem within_any (a b : Int) (w : World) : Calls Try.prog 44 #[.int .i64 a, .int .i64 b] w fun e w' => e = .returned (.bool (decide (0 ≤ a) && decide (a ≤ b))) ∧ w' = w := by
  by_cases h : 0 ≤ a
  · by_cases h' : a ≤ b
    all_goals
      go_enter Try.func44, Try.ntmps44
      go_wp2
      go_ret
      exact ⟨ret_bool (by simp; omega), rfl⟩
  · go_enter Try.func44, Try.ntmps44
    go_wp2
    go_ret
    exact ⟨ret_bool (by simp; omega), rfl⟩

theorem goMay (t x y : Int) (w : World) : Calls Try.prog 36 #[.agg #[.int .i64 t, .int .i64 x, .int .i64 y]] w fun e w' => e = .returned (.bool (mayB t x y)) ∧ w' = w.alloc (.cells #[.int .i64 t, .int .i64 x, .int .i64 y] 46) := by
  by_cases h : 0 ≤ t ∧ t ≤ 1099511627776 ∧ 0 ≤ x ∧ x < 67108864 ∧ 0 ≤ y ∧ y < 67108864
  · have H := Lib.hid (mayB_iff.2 h)
    obtain ⟨h1, h2, h3, h4, h5, h6⟩ := h
    go_enter Try.func36, Try.ntmps36
    go_wp2
    go_ret
    exact ⟨ret_bool (by first | (rw [H.out]; done) | (rw [H.out]; simp; done) | (rw [H.out]; simp; omega)), rfl⟩
  · have H := Lib.hid (mayB_no h)
    by_cases h1 : 0 ≤ t
    · by_cases h2 : t ≤ 1099511627776
      · by_cases h3 : 0 ≤ x
        · by_cases h4 : x ≤ 67108863
          · by_cases h5 : 0 ≤ y
            · have h6 : ¬ y ≤ 67108863 := by omega
              clear h
              go_enter Try.func36, Try.ntmps36
              go_wp2
              go_ret
              exact ⟨ret_bool (by first | (rw [H.out]; done) | (rw [H.out]; simp; done) | (rw [H.out]; simp; omega)), rfl⟩
            · clear h
              go_enter Try.func36, Try.ntmps36
              go_wp2
              go_ret
              exact ⟨ret_bool (by first | (rw [H.out]; done) | (rw [H.out]; simp; done) | (rw [H.out]; simp; omega)), rfl⟩
          · clear h
            go_enter Try.func36, Try.ntmps36
            go_wp2
            go_ret
            exact ⟨ret_bool (by first | (rw [H.out]; done) | (rw [H.out]; simp; done) | (rw [H.out]; simp; omega)), rfl⟩
        · clear h
          go_enter Try.func36, Try.ntmps36
          go_wp2
          go_ret
          exact ⟨ret_bool (by first | (rw [H.out]; done) | (rw [H.out]; simp; done) | (rw [H.out]; simp; omega)), rfl⟩
      · clear h
        go_enter Try.func36, Try.ntmps36
        go_wp2
        go_ret
        exact ⟨ret_bool (by first | (rw [H.out]; done) | (rw [H.out]; simp; done) | (rw [H.out]; simp; omega)), rfl⟩
    · clear h
      go_enter Try.func36, Try.ntmps36
      go_wp2
      go_ret
      exact ⟨ret_bool (by first | (rw [H.out]; done) | (rw [H.out]; simp; done) | (rw [H.out]; simp; omega)), rfl⟩

theorem refMay (t x y : Int) (w : World) : Calls Try.prog 45 #[.agg #[.int .i64 t, .int .i64 x, .int .i64 y]] w fun e w' => e = .returned (.bool (mayB t x y)) ∧ w' = w.alloc (.cells #[.int .i64 t, .int .i64 x, .int .i64 y] 46) := by
  by_cases h : 0 ≤ t ∧ t ≤ 1099511627776 ∧ 0 ≤ x ∧ x < 67108864 ∧ 0 ≤ y ∧ y < 67108864
  · have H := Lib.hid (mayB_iff.2 h)
    obtain ⟨h1, h2, h3, h4, h5, h6⟩ := h
    go_enter Try.func45, Try.ntmps45
    go_wp2
    go_ret
    exact ⟨ret_bool (by first | (rw [H.out]; done) | (rw [H.out]; simp; done) | (rw [H.out]; simp; omega)), rfl⟩
  · have H := Lib.hid (mayB_no h)
    by_cases h1 : 0 ≤ t
    · by_cases h2 : t ≤ 1099511627776
      · by_cases h3 : 0 ≤ x
        · by_cases h4 : x < 67108864
          · by_cases h5 : 0 ≤ y
            · have h6 : ¬ y < 67108864 := by omega
              clear h
              go_enter Try.func45, Try.ntmps45
              go_wp2
              go_ret
              exact ⟨ret_bool (by first | (rw [H.out]; done) | (rw [H.out]; simp; done) | (rw [H.out]; simp; omega)), rfl⟩
            · clear h
              go_enter Try.func45, Try.ntmps45
              go_wp2
              go_ret
              exact ⟨ret_bool (by first | (rw [H.out]; done) | (rw [H.out]; simp; done) | (rw [H.out]; simp; omega)), rfl⟩
          · clear h
            go_enter Try.func45, Try.ntmps45
            go_wp2
            go_ret
            exact ⟨ret_bool (by first | (rw [H.out]; done) | (rw [H.out]; simp; done) | (rw [H.out]; simp; omega)), rfl⟩
        · clear h
          go_enter Try.func45, Try.ntmps45
          go_wp2
          go_ret
          exact ⟨ret_bool (by first | (rw [H.out]; done) | (rw [H.out]; simp; done) | (rw [H.out]; simp; omega)), rfl⟩
      · clear h
        go_enter Try.func45, Try.ntmps45
        go_wp2
        go_ret
        exact ⟨ret_bool (by first | (rw [H.out]; done) | (rw [H.out]; simp; done) | (rw [H.out]; simp; omega)), rfl⟩
    · clear h
      go_enter Try.func45, Try.ntmps45
      go_wp2
      go_ret
      exact ⟨ret_bool (by first | (rw [H.out]; done) | (rw [H.out]; simp; done) | (rw [H.out]; simp; omega)), rfl⟩

theorem goMay_is (t x y : Int) (b : Bool) (h : mayB t x y = b) (w : World) : Calls Try.prog 36 #[.agg #[.int .i64 t, .int .i64 x, .int .i64 y]] w fun e w' => e = .returned (.bool b) ∧ w' = w.alloc (.cells #[.int .i64 t, .int .i64 x, .int .i64 y] 46) := by
  rw [← h]; exact goMay t x y w
theorem refMay_is (t x y : Int) (b : Bool) (h : mayB t x y = b) (w : World) : Calls Try.prog 45 #[.agg #[.int .i64 t, .int .i64 x, .int .i64 y]] w fun e w' => e = .returned (.bool b) ∧ w' = w.alloc (.cells #[.int .i64 t, .int .i64 x, .int .i64 y] 46) := by
  rw [← h]; exact refMay t x y w

/-- Sample k may be, and is later than the one ahead. -/
def inTime (l : List Run) (k : Nat) : Bool := match l[k]? with
  | some r => mayB r.1 r.2.1 r.2.2 && match k with
    | 0 => true
    | j + 1 => match l[j]? with
      | some q => decide (q.1 < r.1)
      | none => true
  | none => true
def traceB (l : List Run) : Bool := (List.range l.length).all (inTime l)
theorem inTime_zero {l : List Run} {t x y : Int} (h : l[0]? = some (t, x, y)) : inTime l 0 = mayB t x y := by simp [inTime, h]
theorem inTime_succ {l : List Run} {j : Nat} {t x y t' x' y' : Int} (h : l[j + 1]? = some (t, x, y)) (h' : l[j]? = some (t', x', y')) : inTime l (j + 1) = (mayB t x y && decide (t' < t)) := by simp [inTime, h, h']
theorem inTime_may {l : List Run} {k : Nat} {t x y : Int} (h : l[k]? = some (t, x, y)) (hm : mayB t x y = false) : inTime l k = false := by simp [inTime, h, hm]
def Good (l : List Run) (k : Nat) : Prop := ∀ j, j < k → inTime l j = true
theorem good_succ {l : List Run} {k : Nat} (h : Good l k) (h' : inTime l k = true) : Good l (k + 1) := fun j hj => by
  rcases Nat.lt_or_ge j k with h1 | h1
  · exact h j h1
  · obtain rfl : j = k := by omega
    exact h'
theorem traceB_bad {l : List Run} {k : Nat} (hk : k < l.length) (h : inTime l k = false) : traceB l = false := by
  unfold traceB
  rw [List.all_eq_false]
  exact ⟨k, by simpa using hk, by simp [h]⟩
theorem traceB_good {l : List Run} (h : Good l l.length) : traceB l = true := by
  unfold traceB
  rw [List.all_eq_true]
  exact fun j hj => h j (by simpa using hj)

set_option maxHeartbeats 1000000 in
theorem refTrace (A : Option Addr) (n c : Nat) (l : List Run) (w : World) (h : Rd three 3 w A n l) (hm : n ≤ 9223372036854775807) :
    Calls Try.prog 37 #[.slice A n c] w fun e w' => e = .returned (.bool (traceB l)) ∧ Below w.heap.size w w' := by
  go_enter Try.func37, Try.ntmps37
  go_wp2
  go_loopw [3] (fun i wr => ∃ k : Nat, k ≤ n ∧ i = .int .i64 k ∧ Hid (Good l k) ∧ Below w.heap.size w wr) (fun i _ => n - (intOf i).toNat)
  case atStart => exact ⟨0, Nat.zero_le _, rfl, fun j h1 => absurd h1 (by omega), Below.refl _ _⟩
  case round =>
    obtain ⟨k, hk, rfl, hg, hb⟩ := hrel
    have hsz := hb.size
    by_cases hlt : k < n
    · obtain ⟨x, y, z, b, off, hA, hx, hc0, hc1, hc2⟩ := (h.below hb (Nat.le_refl _)).at3 hlt
      subst hA
      have hkl : k < l.length := by rw [← h.1]; exact hlt
      have d0 : ∀ s : Nat, (boxes wr (.cells #[.int .i64 x, .int .i64 y, .int .i64 z] 46) s).cell? ⟨b, off + k * 3, none⟩ = some (.int .i64 x) := fun s => ((boxes_below wr _ s).cell (p := ⟨b, _, none⟩) (lt_of_cell hc0)).trans hc0
      have d1 : ∀ s : Nat, (boxes wr (.cells #[.int .i64 x, .int .i64 y, .int .i64 z] 46) s).cell? ⟨b, off + k * 3 + 1, none⟩ = some (.int .i64 y) := fun s => ((boxes_below wr _ s).cell (p := ⟨b, _, none⟩) (lt_of_cell hc1)).trans hc1
      have d2 : ∀ s : Nat, (boxes wr (.cells #[.int .i64 x, .int .i64 y, .int .i64 z] 46) s).cell? ⟨b, off + k * 3 + 2, none⟩ = some (.int .i64 z) := fun s => ((boxes_below wr _ s).cell (p := ⟨b, _, none⟩) (lt_of_cell hc2)).trans hc2
      rcases hM : mayB x y z with _ | _
      · have G : Hid (traceB l = false) := traceB_bad hkl (inTime_may hx.out hM)
        go_wp2
        refine wp_region_boxes (.cells #[.int .i64 x, .int .i64 y, .int .i64 z] 46) (by kernel_rfl) (by kernel_rfl) ?_
        repeat (go_big_quiet_step ((go_at_call 45; exact calls_boxes (refMay_is x y z false hM _))))
        refine wpQuiet_nil ?_
        rintro w2 ⟨s, rfl⟩
        have hb2 := boxes_below wr (.cells #[.int .i64 x, .int .i64 y, .int .i64 z] 46) s
        generalize boxes wr (.cells #[.int .i64 x, .int .i64 y, .int .i64 z] 46) s = w2 at hb2 ⊢
        clear d0 d1 d2
        go_wp2
        go_ret
        exact ⟨ret_bool G.out.symm, hb.trans (hb2.mono hsz)⟩
      · rcases Nat.eq_zero_or_pos k with rfl | hpos
        · rw [Nat.zero_mul, Nat.add_zero] at hc0 hc1 hc2 d0 d1 d2
          have G : Hid (Good l (0 + 1)) := good_succ hg.out (by rw [inTime_zero hx.out, hM])
          go_wp2
          refine wp_region_boxes (.cells #[.int .i64 x, .int .i64 y, .int .i64 z] 46) (by kernel_rfl) (by kernel_rfl) ?_
          repeat (go_big_quiet_step ((go_at_call 45; exact calls_boxes (refMay_is x y z true hM _))))
          refine wpQuiet_nil ?_
          rintro w2 ⟨s, rfl⟩
          have hb2 := boxes_below wr (.cells #[.int .i64 x, .int .i64 y, .int .i64 z] 46) s
          generalize boxes wr (.cells #[.int .i64 x, .int .i64 y, .int .i64 z] 46) s = w2 at hb2 ⊢
          clear d0 d1 d2
          go_wp2
          go_roundw
          case rel => exact ⟨0 + 1, by omega, by go_num, G.out, hb.trans (hb2.mono hsz)⟩
          case measure => simp [intOf]; omega
        · obtain ⟨j, rfl⟩ : ∃ j, k = j + 1 := ⟨k - 1, by omega⟩
          obtain ⟨x', y', z', b', off', hA', hx', hc0', hc1', hc2'⟩ := (h.below hb (Nat.le_refl _)).at3 (k := j) (by omega)
          obtain ⟨rfl, rfl⟩ : b = b' ∧ off = off' := by simpa using hA'
          clear hA' hpos hc1' hc2'
          have HO := Lib.hid (inTime_succ hx.out hx'.out)
          have d3 : ∀ s : Nat, (boxes wr (.cells #[.int .i64 x, .int .i64 y, .int .i64 z] 46) s).cell? ⟨b, off + j * 3, none⟩ = some (.int .i64 x') := fun s => ((boxes_below wr _ s).cell (p := ⟨b, _, none⟩) (lt_of_cell hc0')).trans hc0'
          have WJ : Hid (IntKind.i64.wrap (j : Int) = (j : Int)) := IntWalk.i64_in _ (by omega)
          have wj0 : (0 : Int) ≤ j := by omega
          have wjn : (j : Int) < n := by omega
          by_cases ht : x' < x
          · have G : Hid (Good l (j + 1 + 1)) := good_succ hg.out (by rw [HO.out, hM]; simpa using ht)
            go_wp2
            refine wp_region_boxes (.cells #[.int .i64 x, .int .i64 y, .int .i64 z] 46) (by kernel_rfl) (by kernel_rfl) ?_
            have wj := WJ.out
            repeat (go_big_quiet_step ((go_at_call 45; exact calls_boxes (refMay_is x y z true hM _))))
            refine wpQuiet_nil ?_
            rintro w2 ⟨s, rfl⟩
            have hb2 := boxes_below wr (.cells #[.int .i64 x, .int .i64 y, .int .i64 z] 46) s
            generalize boxes wr (.cells #[.int .i64 x, .int .i64 y, .int .i64 z] 46) s = w2 at hb2 ⊢
            clear d0 d1 d2 d3 wj
            go_wp2
            go_roundw
            case rel => exact ⟨j + 1 + 1, by omega, by go_num, G.out, hb.trans (hb2.mono hsz)⟩
            case measure => simp [intOf]; omega
          · have G : Hid (traceB l = false) := traceB_bad hkl (by rw [HO.out, hM]; simpa using ht)
            go_wp2
            refine wp_region_boxes (.cells #[.int .i64 x, .int .i64 y, .int .i64 z] 46) (by kernel_rfl) (by kernel_rfl) ?_
            have wj := WJ.out
            repeat (go_big_quiet_step ((go_at_call 45; exact calls_boxes (refMay_is x y z true hM _))))
            refine wpQuiet_nil ?_
            rintro w2 ⟨s, rfl⟩
            have hb2 := boxes_below wr (.cells #[.int .i64 x, .int .i64 y, .int .i64 z] 46) s
            generalize boxes wr (.cells #[.int .i64 x, .int .i64 y, .int .i64 z] 46) s = w2 at hb2 ⊢
            clear d0 d1 d2 d3 wj
            go_wp2
            go_ret
            exact ⟨ret_bool G.out.symm, hb.trans (hb2.mono hsz)⟩
    · obtain rfl : k = n := by omega
      have G : Hid (traceB l = true) := traceB_good (by rw [← h.1]; exact hg.out)
      go_wp2
      go_ret
      exact ⟨ret_bool G.out.symm, hb⟩
end Go.Proofs.Ytceohmbjajhlcaa
