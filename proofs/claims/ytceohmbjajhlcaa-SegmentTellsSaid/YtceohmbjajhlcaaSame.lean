/-
  Two lists of runs are compared: the reference's Same. No conditions but the arguments' readings.
-/
import Derived.Test.YtceohmbjajhlcaaSamp
namespace Go.Proofs.Ytceohmbjajhlcaa
open Go.ChangeShapes Go.WideShapes Go.ChangeAt Go.RowKit
set_option linter.unusedVariables false

theorem same_step {α : Type} {a b : List α} {k : Nat} {x y : α} (h : ∀ j, j < k → a[j]? = b[j]?) (ha : a[k]? = some x) (hb : b[k]? = some y) (e : x = y) : ∀ j, j < k + 1 → a[j]? = b[j]? := fun j hj => by
  rcases Nat.lt_or_ge j k with h1 | h1
  · exact h j h1
  · obtain rfl : j = k := by omega
    rw [ha, hb, e]
theorem same_all {α : Type} {a b : List α} (h : ∀ j, j < a.length → a[j]? = b[j]?) (hl : a.length = b.length) : a = b := List.ext_getElem? fun j => by
  rcases Nat.lt_or_ge j a.length with h1 | h1
  · exact h j h1
  · rw [List.getElem?_eq_none h1, List.getElem?_eq_none (by omega)]

set_option maxHeartbeats 400000 in
theorem same_any (A B : Option Addr) (n c n' c' : Nat) (l l' : List Run) (w : World) (h : Rd three 3 w A n l) (h' : Rd three 3 w B n' l') (hm : n ≤ 9223372036854775807) (hm' : n' ≤ 9223372036854775807) :
    Calls Try.prog 13 #[.slice A n c, .slice B n' c'] w fun e w' => e = .returned (.bool (decide (l = l'))) ∧ ∃ m, w' = w.drewN m := by
  by_cases hn : n = n'
  · subst hn
    go_enter Try.func13, Try.ntmps13
    go_wp2
    go_loopw [5] (fun i wr => ∃ k m : Nat, k ≤ n ∧ i = .int .i64 k ∧ Hid (∀ j, j < k → l[j]? = l'[j]?) ∧ Hid (wr = w.drewN m)) (fun i _ => n - (intOf i).toNat)
    case atStart => exact ⟨0, 0, Nat.zero_le _, rfl, fun j hj => absurd hj (by omega), rfl⟩
    case round =>
      obtain ⟨k, m, hk, rfl, hs, hw⟩ := hrel
      have hR : Rd three 3 wr A n l := by rw [hw.out]; exact h.drewN _
      have hR' : Rd three 3 wr B n l' := by rw [hw.out]; exact h'.drewN _
      by_cases hlt : k < n
      · obtain ⟨x, y, z, b, off, hA, hx, hc0, hc1, hc2⟩ := hR.at3 hlt
        obtain ⟨x', y', z', b', off', hB, hx', hc0', hc1', hc2'⟩ := hR'.at3 hlt
        subst hA hB
        by_cases e : (x, y, z) = (x', y', z')
        · have G : Hid (∀ j, j < k + 1 → l[j]? = l'[j]?) := same_step hs.out hx.out hx'.out e
          obtain ⟨rfl, rfl, rfl⟩ : x = x' ∧ y = y' ∧ z = z' := by simpa using e
          clear e
          go_wp2
          go_quiet (fail)
          go_wp2
          go_roundw
          case rel => exact ⟨k + 1, m + nq, by omega, by go_num, G.out, drewN_more hw.out nq⟩
          case measure => simp [intOf]; omega
        · have G : Hid (decide (l = l') = false) := by
            show _ = _
            rw [decide_eq_false_iff_not]
            rintro rfl
            have h1 := hx.out
            rw [hx'.out] at h1
            exact e (by injection h1 with h1; exact h1.symm)
          have e' : x ≠ x' ∨ x = x' ∧ y ≠ y' ∨ x = x' ∧ y = y' ∧ z ≠ z' := by
            by_cases e1 : x = x'
            · by_cases e2 : y = y'
              · exact .inr (.inr ⟨e1, e2, fun e3 => e (by rw [e1, e2, e3])⟩)
              · exact .inr (.inl ⟨e1, e2⟩)
            · exact .inl e1
          clear e
          rcases e' with e1 | ⟨rfl, e1⟩ | ⟨rfl, rfl, e1⟩
          · have b1 : (x == x') = false := by simpa using e1
            clear e1
            go_wp2
            go_quiet (fail)
            go_wp2
            go_ret
            exact ⟨ret_bool G.out.symm, m + nq, drewN_more hw.out nq⟩
          · have b1 : (y == y') = false := by simpa using e1
            clear e1
            go_wp2
            go_quiet (fail)
            go_wp2
            go_ret
            exact ⟨ret_bool G.out.symm, m + nq, drewN_more hw.out nq⟩
          · have b1 : (z == z') = false := by simpa using e1
            clear e1
            go_wp2
            go_quiet (fail)
            go_wp2
            go_ret
            exact ⟨ret_bool G.out.symm, m + nq, drewN_more hw.out nq⟩
      · obtain rfl : k = n := by omega
        have G : Hid (decide (l = l') = true) := by
          show _ = _
          rw [decide_eq_true_iff]
          exact same_all (fun j hj => hs.out j (by rw [h.1]; exact hj)) (by rw [← h.1, h'.1])
        go_wp2
        go_ret
        exact ⟨ret_bool G.out.symm, m, hw.out⟩
  · have G : Hid (decide (l = l') = false) := by
      show _ = _
      rw [decide_eq_false_iff_not]
      rintro rfl
      exact hn (by rw [h.1, h'.1])
    have b : ((n : Int) != (n' : Int)) = true := by simp; omega
    go_enter Try.func13, Try.ntmps13
    go_wp2
    go_ret
    exact ⟨ret_bool G.out.symm, 0, rfl⟩
end Go.Proofs.Ytceohmbjajhlcaa
