/-
  Which runs are right: the function of the package dwell and that of its reference return rightR. No conditions but the arguments' readings.
-/
import Derived.Test.YtceohmbjajhlcaaDwellA
namespace Go.Proofs.Ytceohmbjajhlcaa
open Go.ChangeShapes Go.WideShapes Go.ChangeAt Go.RowKit
set_option linter.unusedVariables false

/-- Run k has a time, and begins behind the one ahead, at another stop. -/
def okR (l : List Run) (k : Nat) : Bool := match l[k]? with
  | some r => decide (0 ≤ r.2.1 ∧ r.2.1 ≤ r.2.2 ∧ r.2.2 ≤ 1099511627776) && match k with
    | 0 => true
    | j + 1 => match l[j]? with
      | some q => decide (q.2.2 < r.2.1 ∧ r.1 ≠ q.1)
      | none => true
  | none => true
def rightR (l : List Run) : Bool := (List.range l.length).all (okR l)
theorem okR_time {l : List Run} {k : Nat} {x y z : Int} (h : l[k]? = some (x, y, z)) (hn : ¬ (0 ≤ y ∧ y ≤ z ∧ z ≤ 1099511627776)) : okR l k = false := by simp [okR, h, hn]
theorem okR_zero {l : List Run} {x y z : Int} (h : l[0]? = some (x, y, z)) : okR l 0 = decide (0 ≤ y ∧ y ≤ z ∧ z ≤ 1099511627776) := by simp [okR, h]
theorem okR_succ {l : List Run} {j : Nat} {x y z x' y' z' : Int} (h : l[j + 1]? = some (x, y, z)) (h' : l[j]? = some (x', y', z')) : okR l (j + 1) = (decide (0 ≤ y ∧ y ≤ z ∧ z ≤ 1099511627776) && decide (z' < y ∧ x ≠ x')) := by simp [okR, h, h']
def GoodR (l : List Run) (k : Nat) : Prop := ∀ j, j < k → okR l j = true
theorem goodR_succ {l : List Run} {k : Nat} (h : GoodR l k) (h' : okR l k = true) : GoodR l (k + 1) := fun j hj => by
  rcases Nat.lt_or_ge j k with h1 | h1
  · exact h j h1
  · obtain rfl : j = k := by omega
    exact h'
theorem rightR_bad {l : List Run} {k : Nat} (hk : k < l.length) (h : okR l k = false) : rightR l = false := by
  unfold rightR
  rw [List.all_eq_false]
  exact ⟨k, by simpa using hk, by simp [h]⟩
theorem rightR_good {l : List Run} (h : GoodR l l.length) : rightR l = true := by
  unfold rightR
  rw [List.all_eq_true]
  exact fun j hj => h j (by simpa using hj)
theorem rightR_of {l : List Run} (h : rightR l = true) : GoodR l l.length := fun j hj => by
  unfold rightR at h
  rw [List.all_eq_true] at h
  exact h j (by simpa using hj)
theorem right_timed {l : List Run} (h : rightR l = true) : Timed l := fun r hr => by
  obtain ⟨i, hi⟩ := List.mem_iff_getElem?.1 hr
  have h1 := rightR_of h i (List.getElem?_eq_some_iff.1 hi).1
  obtain ⟨x, y, z⟩ := r
  by_cases hn : 0 ≤ y ∧ y ≤ z ∧ z ≤ 1099511627776
  · exact hn
  · rw [okR_time hi hn] at h1; cases h1

set_option maxHeartbeats 1000000 in
theorem goRightR (A : Option Addr) (n c : Nat) (l : List Run) (w : World) (h : Rd three 3 w A n l) (hm : n ≤ 9223372036854775807) :
    Calls Try.prog 19 #[.slice A n c] w fun e w' => e = .returned (.bool (rightR l)) ∧ Below w.heap.size w w' := by
  go_enter Try.func19, Try.ntmps19
  go_wp2
  go_loopw [7] (fun i wr => ∃ k : Nat, k ≤ n ∧ i = .int .i64 k ∧ Hid (GoodR l k) ∧ Below w.heap.size w wr) (fun i _ => n - (intOf i).toNat)
  case atStart => exact ⟨0, Nat.zero_le _, rfl, fun j hj => absurd hj (by omega), Below.refl _ _⟩
  case round =>
    obtain ⟨k, hk, rfl, hg, hb⟩ := hrel
    have hsz := hb.size
    by_cases hlt : k < n
    · obtain ⟨x, y, z, b, off, hA, hx, hc0, hc1, hc2⟩ := (h.below hb (Nat.le_refl _)).at3 hlt
      subst hA
      have hkl : k < l.length := by have := h.1; omega
      have lb := lt_of_cell hc0
      have bad : ¬ (0 ≤ y ∧ y ≤ z ∧ z ≤ 1099511627776) → Hid (rightR l = false) := fun hn => rightR_bad hkl (okR_time hx.out hn)
      by_cases h1 : 0 ≤ y
      · by_cases h2 : y ≤ z
        · by_cases h3 : z ≤ 1099511627776
          · clear bad
            rcases Nat.eq_zero_or_pos k with rfl | hpos
            · rw [Nat.zero_mul, Nat.add_zero] at hc0 hc1 hc2
              have G : Hid (GoodR l (0 + 1)) := goodR_succ hg.out (by rw [okR_zero hx.out]; simp; omega)
              go_wp2
              go_quiet (fail)
              go_wp2
              go_roundw
              case rel => exact ⟨1, by omega, rfl, G.out, below_dN (hb.alloc hsz _) _⟩
              case measure => simp [intOf]; omega
            · obtain ⟨j, rfl⟩ : ∃ j, k = j + 1 := ⟨k - 1, by omega⟩
              obtain ⟨x', y', z', b', off', hA', hx', hc0', hc1', hc2'⟩ := (h.below hb (Nat.le_refl _)).at3 (k := j) (by omega)
              obtain ⟨rfl, rfl⟩ : b = b' ∧ off = off' := by simpa using hA'
              clear hA' hpos hc1'
              have HO := Lib.hid (okR_succ hx.out hx'.out)
              have WJ : Hid (IntKind.i64.wrap (j : Int) = (j : Int)) := IntWalk.i64_in _ (by omega)
              have wj0 : (0 : Int) ≤ j := by omega
              have wjn : (j : Int) < n := by omega
              by_cases h4 : z' < y
              · by_cases h5 : x = x'
                · have G : Hid (rightR l = false) := rightR_bad hkl (by rw [HO.out]; simp [h5])
                  subst h5
                  clear hkl
                  go_wp2
                  have wj := WJ.out
                  go_quiet (fail)
                  clear wj
                  go_wp2
                  go_ret
                  exact ⟨ret_bool G.out.symm, below_dN (hb.alloc hsz _) _⟩
                · have b5 : (x == x') = false := by simpa using h5
                  have G : Hid (GoodR l (j + 1 + 1)) := goodR_succ hg.out (by rw [HO.out]; simp [h5]; omega)
                  clear hkl h5
                  go_wp2
                  have wj := WJ.out
                  go_quiet (fail)
                  clear wj
                  go_wp2
                  go_roundw
                  case rel => exact ⟨j + 1 + 1, by omega, by go_num, G.out, below_dN (hb.alloc hsz _) _⟩
                  case measure => simp [intOf]; omega
              · have G : Hid (rightR l = false) := rightR_bad hkl (by rw [HO.out]; simp [h4])
                clear hkl
                go_wp2
                have wj := WJ.out
                go_quiet (fail)
                clear wj
                go_wp2
                go_ret
                exact ⟨ret_bool G.out.symm, below_dN (hb.alloc hsz _) _⟩
          · have G := bad (fun hh => h3 hh.2.2)
            clear bad
            go_wp2
            go_ret
            exact ⟨ret_bool G.out.symm, hb.alloc hsz _⟩
        · have G := bad (fun hh => h2 hh.2.1)
          clear bad
          go_wp2
          go_ret
          exact ⟨ret_bool G.out.symm, hb.alloc hsz _⟩
      · have G := bad (fun hh => h1 hh.1)
        clear bad
        go_wp2
        go_ret
        exact ⟨ret_bool G.out.symm, hb.alloc hsz _⟩
    · obtain rfl : k = n := by omega
      have G : Hid (rightR l = true) := rightR_good (by rw [← h.1]; exact hg.out)
      go_wp2
      go_ret
      exact ⟨ret_bool G.out.symm, hb⟩

set_option maxHeartbeats 2000000 in
theorem refRightR (A : Option Addr) (n c : Nat) (l : List Run) (w : World) (h : Rd three 3 w A n l) (hm : n ≤ 9223372036854775807) :
    Calls Try.prog 16 #[.slice A n c] w fun e w' => e = .returned (.bool (rightR l)) ∧ ∃ m, w' = w.drewN m := by
  go_enter Try.func16, Try.ntmps16
  go_wp2
  go_loopw [3] (fun i wr => ∃ k m : Nat, k ≤ n ∧ i = .int .i64 k ∧ Hid (GoodR l k) ∧ Hid (wr = w.drewN m)) (fun i _ => n - (intOf i).toNat)
  case atStart => exact ⟨0, 0, Nat.zero_le _, rfl, fun j hj => absurd hj (by omega), rfl⟩
  case round =>
    obtain ⟨k, m, hk, rfl, hg, hw⟩ := hrel
    have hR : Rd three 3 wr A n l := by rw [hw.out]; exact h.drewN _
    by_cases hlt : k < n
    · obtain ⟨x, y, z, b, off, hA, hx, hc0, hc1, hc2⟩ := hR.at3 hlt
      subst hA
      have hkl : k < l.length := by have := h.1; omega
      have k0 : (0 : Int) ≤ k := by omega
      have kn : (k : Int) < n := by omega
      have bad : ¬ (0 ≤ y ∧ y ≤ z ∧ z ≤ 1099511627776) → Hid (rightR l = false) := fun hn => rightR_bad hkl (okR_time hx.out hn)
      by_cases h1 : 0 ≤ y
      · have d1 : decide (y < 0) = false := by simp; omega
        by_cases h2 : y ≤ z
        · have d2 : decide (z < y) = false := by simp; omega
          by_cases h3 : z ≤ 1099511627776
          · clear bad
            rcases Nat.eq_zero_or_pos k with rfl | hpos
            · rw [Nat.zero_mul, Nat.add_zero] at hc0 hc1 hc2
              have G : Hid (GoodR l (0 + 1)) := goodR_succ hg.out (by rw [okR_zero hx.out]; simp; omega)
              clear hkl
              go_wp2
              go_quiet (fail)
              go_wp2
              go_quiet (fail)
              go_wp2
              go_roundw
              case rel => exact ⟨1, _, by omega, rfl, G.out, by show _ = _; rw [hw.out]; simp only [World.drewN_drewN]; rfl⟩
              case measure => simp [intOf]; omega
            · obtain ⟨j, rfl⟩ : ∃ j, k = j + 1 := ⟨k - 1, by omega⟩
              obtain ⟨x', y', z', b', off', hA', hx', hc0', hc1', hc2'⟩ := hR.at3 (k := j) (by omega)
              obtain ⟨rfl, rfl⟩ : b = b' ∧ off = off' := by simpa using hA'
              clear hA' hpos hc1'
              have HO := Lib.hid (okR_succ hx.out hx'.out)
              have WJ : Hid (IntKind.i64.wrap (j : Int) = (j : Int)) := IntWalk.i64_in _ (by omega)
              have wj0 : (0 : Int) ≤ j := by omega
              have wjn : (j : Int) < n := by omega
              by_cases h4 : z' < y
              · have d4 : decide (y ≤ z') = false := by simp; omega
                by_cases h5 : x = x'
                · have G : Hid (rightR l = false) := rightR_bad hkl (by rw [HO.out]; simp [h5])
                  subst h5
                  clear hkl
                  go_wp2
                  go_quiet (fail)
                  go_wp2
                  have wj := WJ.out
                  go_quiet (fail)
                  clear wj
                  go_wp2
                  go_ret
                  exact ⟨ret_bool G.out.symm, _, by rw [hw.out]; simp only [World.drewN_drewN]; rfl⟩
                · have b5 : (x == x') = false := by simpa using h5
                  have G : Hid (GoodR l (j + 1 + 1)) := goodR_succ hg.out (by rw [HO.out]; simp [h5]; omega)
                  clear hkl h5
                  go_wp2
                  go_quiet (fail)
                  go_wp2
                  have wj := WJ.out
                  go_quiet (fail)
                  clear wj
                  go_wp2
                  go_roundw
                  case rel => exact ⟨j + 1 + 1, _, by omega, by go_num, G.out, by show _ = _; rw [hw.out]; simp only [World.drewN_drewN]; rfl⟩
                  case measure => simp [intOf]; omega
              · have G : Hid (rightR l = false) := rightR_bad hkl (by rw [HO.out]; simp [h4])
                clear hkl
                go_wp2
                go_quiet (fail)
                go_wp2
                have wj := WJ.out
                go_quiet (fail)
                clear wj
                go_wp2
                go_ret
                exact ⟨ret_bool G.out.symm, _, by rw [hw.out]; simp only [World.drewN_drewN]; rfl⟩
          · have G := bad (fun hh => h3 hh.2.2)
            clear bad
            go_wp2
            go_quiet (fail)
            go_wp2
            go_ret
            exact ⟨ret_bool G.out.symm, m + nq, drewN_more hw.out nq⟩
        · have G := bad (fun hh => h2 hh.2.1)
          clear bad
          go_wp2
          go_quiet (fail)
          go_wp2
          go_ret
          exact ⟨ret_bool G.out.symm, m + nq, drewN_more hw.out nq⟩
      · have G := bad (fun hh => h1 hh.1)
        clear bad
        go_wp2
        go_quiet (fail)
        go_wp2
        go_ret
        exact ⟨ret_bool G.out.symm, m + nq, drewN_more hw.out nq⟩
    · obtain rfl : k = n := by omega
      have G : Hid (rightR l = true) := rightR_good (by rw [← h.1]; exact hg.out)
      go_wp2
      go_ret
      exact ⟨ret_bool G.out.symm, m, hw.out⟩
end Go.Proofs.Ytceohmbjajhlcaa
