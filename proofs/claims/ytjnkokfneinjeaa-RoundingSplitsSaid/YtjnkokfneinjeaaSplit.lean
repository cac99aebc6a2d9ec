/-
  rounding.Split returns the parts of a number. No conditions but the arguments' ranges.
-/
import Derived.Test.YtjnkokfneinjeaaRound
namespace Go.Proofs.Ytjnkokfneinjeaa
open Go.ChangeShapes Go.WideShapes Go.ChangeAt Go.RowKit
set_option linter.unusedVariables false

def part (n p : Int) (i : Nat) : Int := n / p + if (i : Int) < n % p then 1 else 0
/-- The parts so far: the first k are written. -/
def partsTo (n p : Int) (k m : Nat) : List Value := (List.range m).map fun i => .int .i64 (if i < k then part n p i else 0)

theorem partsTo_zero (n p : Int) (m : Nat) : partsTo n p 0 m = (madeCells #[Value.int .i64 0] (m * 1)).toList := by
  apply List.ext_getElem?
  intro j
  simp [partsTo, madeCells]
  rcases Nat.lt_or_ge j m with h | h
  · simp [h, Nat.mod_one]
  · simp [h]
theorem partsTo_set (n p : Int) (k m : Nat) (u : Value) (hu : u = .int .i64 (part n p k)) : (partsTo n p k m).set k u = partsTo n p (k + 1) m := by
  subst hu
  apply List.ext_getElem?
  intro j
  rw [List.getElem?_set]
  simp only [partsTo, List.getElem?_map, List.length_map, List.length_range]
  by_cases hj : k = j
  · subst hj
    by_cases hm : k < m
    · simp [hm]
    · simp [hm]
  · rw [if_neg hj]
    by_cases hm : j < m
    · simp only [List.getElem?_range hm, Option.map_some, Option.some.injEq, Value.int.injEq, true_and]
      by_cases h1 : j < k
      · rw [if_pos h1, if_pos (by omega)]
      · rw [if_neg h1, if_neg (by omega)]
    · simp [List.getElem?_eq_none (show (List.range m).length ≤ j by simpa using hm)]

theorem Try.info3 : (Try.prog.info? 3).map (fun i => (i.zero, i.size, i.bytes)) = some (some (.int .i64 0), 1, 8) := by kernel_rfl

theorem split_bad (n p : Int) (w : World) (h : ¬ (0 ≤ n ∧ n ≤ 281474976710656) ∨ ¬ (1 ≤ p ∧ p ≤ 2048)) :
    Calls Try.prog 21 #[.int .i64 n, .int .i64 p] w fun e w' => e = .returned (.tuple #[.slice none 0 0, .int .i64 2]) ∧ w' = w := by
  have h' : n < 0 ∨ (0 ≤ n ∧ 281474976710656 < n) ∨ (0 ≤ n ∧ n ≤ 281474976710656 ∧ p < 1) ∨ (0 ≤ n ∧ n ≤ 281474976710656 ∧ 1 ≤ p ∧ 2048 < p) := by omega
  clear h
  rcases h' with h | ⟨h, h1⟩ | ⟨h, h1, h2⟩ | ⟨h, h1, h2, h3⟩
  rotate_right
  · have b : decide (p ≤ 2048) = false := by simp; omega
    go_enter Try.func21, Try.ntmps21
    go_wp2
    go_ret2
    exact ⟨rfl, rfl⟩
  all_goals
    go_enter Try.func21, Try.ntmps21
    go_wp2
    go_ret2
    exact ⟨rfl, rfl⟩

theorem split_ok (n : Int) (p : Nat) (w : World) (h0 : 0 ≤ n) (h2 : n ≤ 281474976710656) (h1 : 1 ≤ p) (h3 : p ≤ 2048) :
    Calls Try.prog 21 #[.int .i64 n, .int .i64 p] w fun e w' => e = .returned (.tuple #[.slice (some ⟨w.heap.size, 0, none⟩) p p, .int .i64 0]) ∧ w'.ownsRow w.heap.size 3 1 (.slice (some ⟨w.heap.size, 0, none⟩) p p) p (partsTo n p p p) ∧ Below w.heap.size w w' := by
  obtain ⟨i0, hi, hz0, hz1, hz2⟩ := info_parts Try.info3
  have h3' : (p : Int) ≤ 2048 := by omega
  have h1' : (1 : Int) ≤ p := by omega
  have q1 : 0 ≤ n / (p : Int) := Int.ediv_nonneg h0 (by omega)
  have q2 : n / (p : Int) ≤ 281474976710656 := by have := Int.ediv_le_self (p : Int) h0; omega
  have q3 := Int.emod_nonneg n (show (p : Int) ≠ 0 by omega)
  have q4 := Int.emod_lt_of_pos n (show (0 : Int) < p by omega)
  go_enter Try.func21, Try.ntmps21
  go_wp2_with (first
    | (at_make; refine wpList_make_full _ rfl _ _ 22 rfl w.heap.size 3 i0 (.int .i64 0) 1 Try.underlying22 hi hz0 hz1 .i64 .i64 _ _ p rfl rfl rfl rfl (by rw [hz2]; omega) (by unfold maxLen; omega) (Nat.le_refl _) ?_; intro w1 hown hg)
    | go_in)
  have hown0 : Hid (w1.ownsRow w.heap.size 3 1 (.slice (some ⟨w.heap.size, 0, none⟩) p p) p (partsTo n p 0 p)) := by
    show World.ownsRow _ _ _ _ _ _ _
    rw [partsTo_zero]; exact hown
  have hb0 := (Below.refl w.heap.size w).grown hg (Nat.le_refl _) (by intro k hk; cases hk)
  clear hown hg hi hz0 hz1 hz2
  go_loopw [20] (fun i wr => ∃ k : Nat, k ≤ p ∧ i = .int .i64 k ∧ Hid (wr.ownsRow w.heap.size 3 1 (.slice (some ⟨w.heap.size, 0, none⟩) p p) p (partsTo n p k p)) ∧ Below w.heap.size w wr) (fun i _ => p - (intOf i).toNat)
  case atStart => exact ⟨0, Nat.zero_le _, rfl, hown0, hb0⟩
  case round =>
    obtain ⟨k, hk, rfl, hown, hb⟩ := hrel
    clear hown0 hb0
    by_cases hlt : k < p
    · have hc : wr.cell? ⟨w.heap.size, k, none⟩ = some (.int .i64 0) := by
        rw [hown.out.cellAt k (by omega)]; simp [partsTo, hlt]
      have hf := hown.out.frozenAt k
      by_cases hr : (k : Int) < n % (p : Int)
      · have hp : Hid (n / (p : Int) + 1 = part n p k) := by show _ = _; rw [part, if_pos hr]
        go_wp2
        go_roundw
        case rel =>
          have s1 := (hown.out.stored k (.int .i64 (n / (p : Int)))).1.stored k (.int .i64 (n / (p : Int) + 1))
          rw [List.set_set, partsTo_set _ _ _ _ _ (by rw [hp.out])] at s1
          exact ⟨k + 1, by omega, by go_num, s1.1, (hb.setCell (Nat.le_refl _) _).setCell (Nat.le_refl _) _⟩
        case measure => simp [intOf]; omega
      · have hp : Hid (n / (p : Int) = part n p k) := by show _ = _; rw [part, if_neg hr, Int.add_zero]
        go_wp2
        go_roundw
        case rel =>
          have s1 := hown.out.stored k (.int .i64 (n / (p : Int)))
          rw [partsTo_set _ _ _ _ _ (by rw [hp.out])] at s1
          exact ⟨k + 1, by omega, by go_num, s1.1, hb.setCell (Nat.le_refl _) _⟩
        case measure => simp [intOf]; omega
    · obtain rfl : k = p := by omega
      go_wp2
      go_ret2
      exact ⟨rfl, hown.out, hb⟩

/-- The parts as a list. -/
def partsL (n p : Int) (m : Nat) : List Int := (List.range m).map (part n p)
theorem partsL_cells (n p : Int) (m : Nat) : partsTo n p m m = ((partsL n p m).flatMap one).map (Value.int .i64) := by
  have e : ∀ l : List Int, l.flatMap one = l := fun l => by induction l with
    | nil => rfl
    | cons a l ih => rw [List.flatMap_cons, ih]; rfl
  rw [e, partsL, partsTo, List.map_map]
  apply List.map_congr_left
  intro i hi
  simp at hi
  simp [hi]
theorem partsL_at (n p : Int) {m k : Nat} (h : k < m) : (partsL n p m)[k]? = some (part n p k) := by simp [partsL, h]

/-- What the first k parts come to. -/
def sumTo (n p : Int) (k : Nat) : Int := k * (n / p) + min (k : Int) (n % p)
theorem sumTo_succ (n p : Int) (k : Nat) (h : 0 ≤ n % p) : sumTo n p k + part n p k = sumTo n p (k + 1) := by
  unfold sumTo part
  rw [show ((k + 1 : Nat) : Int) = (k : Int) + 1 by omega, Int.add_mul]
  split <;> omega
theorem sumTo_zero (n p : Int) (h : 0 ≤ n % p) : sumTo n p 0 = 0 := by unfold sumTo; simp; omega
theorem sumTo_bd (n : Int) (p k : Nat) (h0 : 0 ≤ n) (h1 : 1 ≤ p) (hk : k ≤ p) : 0 ≤ sumTo n p k ∧ sumTo n p k ≤ n ∧ sumTo n p p = n := by
  have q1 : 0 ≤ n / (p : Int) := Int.ediv_nonneg h0 (by omega)
  have q3 := Int.emod_nonneg n (show (p : Int) ≠ 0 by omega)
  have q4 := Int.emod_lt_of_pos n (show (0 : Int) < p by omega)
  have e := Int.mul_ediv_add_emod n p
  have a : 0 ≤ (k : Int) * (n / p) := Int.mul_nonneg (by omega) q1
  have b : (k : Int) * (n / p) ≤ p * (n / p) := Int.mul_le_mul_of_nonneg_right (by omega) q1
  unfold sumTo
  generalize (k : Int) * (n / p) = u at *
  generalize (p : Int) * (n / p) = v at *
  omega
end Go.Proofs.Ytjnkokfneinjeaa
