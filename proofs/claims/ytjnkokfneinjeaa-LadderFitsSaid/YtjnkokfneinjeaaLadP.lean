/-
  What is to be paid of a sum on a ladder, in plain words: never less for more, never more than the sum, nothing more above the last rung. No program in sight.
-/
namespace Go.Proofs.Ytjnkokfneinjeaa
set_option linter.unusedVariables false

/-- From where span k counts, and its share. -/
def frm (l : List (Int × Int)) (k : Nat) : Int × Int := match k with | 0 => (0, 1000) | j + 1 => l.getD j (0, 0)
/-- Up to where span k counts. -/
def upt (l : List (Int × Int)) (k : Nat) : Int := if k < l.length then (l.getD k (0, 0)).1 else 281474976710656
/-- How much of a sum lies in span k. -/
def inS (l : List (Int × Int)) (s : Int) (k : Nat) : Int := max 0 (min s (upt l k) - (frm l k).1)
/-- What is to be paid of it. -/
def ofS (l : List (Int × Int)) (s : Int) (k : Nat) : Int := inS l s k * (frm l k).2 / 1000
def sumTo (f : Nat → Int) : Nat → Int
  | 0 => 0
  | k + 1 => sumTo f k + f k
/-- What is to be paid of a sum. -/
def payOf (l : List (Int × Int)) (s : Int) : Int := sumTo (ofS l s) (l.length + 1)
/-- The ladder is right, step by step. -/
structure Fine (l : List (Int × Int)) : Prop where
  up : ∀ k, k < l.length → (frm l k).1 ≤ (l.getD k (0, 0)).1 ∧ (0 < k → (frm l k).1 < (l.getD k (0, 0)).1)
  top : ∀ k, k < l.length → 0 ≤ (l.getD k (0, 0)).1 ∧ (l.getD k (0, 0)).1 ≤ 281474976710656
  share : ∀ k, k < l.length → 0 ≤ (l.getD k (0, 0)).2 ∧ (l.getD k (0, 0)).2 ≤ 999
  last : l = [] ∨ (frm l l.length).2 = 0
section
variable {l : List (Int × Int)}
theorem Fine.frm (h : Fine l) : ∀ k, k ≤ l.length → 0 ≤ (frm l k).1 ∧ (frm l k).1 ≤ 281474976710656 ∧ 0 ≤ (frm l k).2 ∧ (frm l k).2 ≤ 1000
  | 0, _ => by simp [Go.Proofs.Ytjnkokfneinjeaa.frm]
  | j + 1, hk => by
    have h1 := h.top j (by omega)
    have h2 := h.share j (by omega)
    simp only [Go.Proofs.Ytjnkokfneinjeaa.frm]
    omega
theorem Fine.upt (h : Fine l) (k : Nat) (hk : k ≤ l.length) : (Go.Proofs.Ytjnkokfneinjeaa.frm l k).1 ≤ upt l k ∧ upt l k ≤ 281474976710656 := by
  unfold Go.Proofs.Ytjnkokfneinjeaa.upt
  split
  · rename_i hlt
    exact ⟨(h.up k hlt).1, (h.top k hlt).2⟩
  · exact ⟨(h.frm k hk).2.1, Int.le_refl _⟩
theorem upt_frm (k : Nat) (hk : k < l.length) : upt l k = (frm l (k + 1)).1 := by simp [upt, frm, hk]
theorem sumTo_add (f g : Nat → Int) : ∀ k, sumTo (fun i => f i + g i) k = sumTo f k + sumTo g k
  | 0 => rfl
  | k + 1 => by simp only [sumTo, sumTo_add f g k]; omega
theorem sumTo_le {f g : Nat → Int} : ∀ (k : Nat), (∀ i, i < k → f i ≤ g i) → sumTo f k ≤ sumTo g k
  | 0, _ => Int.le_refl _
  | k + 1, h => by
    have h1 := sumTo_le k (fun i hi => h i (by omega))
    have h2 := h k (by omega)
    simp only [sumTo]; omega
theorem sumTo_zero {f : Nat → Int} : ∀ (k : Nat), (∀ i, i < k → f i = 0) → sumTo f k = 0
  | 0, _ => rfl
  | k + 1, h => by
    rw [sumTo, sumTo_zero k (fun i hi => h i (by omega)), h k (by omega)]; rfl
theorem sumTo_eq {f g : Nat → Int} : ∀ (k : Nat), (∀ i, i < k → f i = g i) → sumTo f k = sumTo g k
  | 0, _ => rfl
  | k + 1, h => by rw [sumTo, sumTo, sumTo_eq k (fun i hi => h i (by omega)), h k (by omega)]
theorem sumTo_cut {f : Nat → Int} {m : Nat} : ∀ (k : Nat), m ≤ k → (∀ i, m ≤ i → i < k → f i = 0) → sumTo f k = sumTo f m
  | 0, hm, _ => by rw [show m = 0 by omega]
  | k + 1, hm, h => by
    rcases Nat.lt_or_ge k m with h1 | h1
    · rw [show m = k + 1 by omega]
    · rw [sumTo, sumTo_cut k h1 (fun i hi hik => h i hi (by omega)), h k h1 (by omega)]; omega
/-- The sum, span by span. -/
theorem parts_to (h : Fine l) {s : Int} (h0 : 0 ≤ s) : ∀ k, k ≤ l.length → sumTo (inS l s) k = min s (frm l k).1
  | 0, _ => by simp [sumTo, frm]; omega
  | k + 1, hk => by
    have ih := parts_to h h0 k (by omega)
    have h1 := (h.upt k (by omega)).1
    rw [sumTo, ih, inS, ← upt_frm k (by omega)]
    omega
theorem parts_all (h : Fine l) {s : Int} (h0 : 0 ≤ s) (h1 : s ≤ 281474976710656) : sumTo (inS l s) (l.length + 1) = s := by
  have ih := parts_to h h0 l.length (Nat.le_refl _)
  have h2 := h.upt l.length (Nat.le_refl _)
  have e : upt l l.length = 281474976710656 := by unfold upt; rw [if_neg (by omega)]
  rw [sumTo, ih, inS, e]
  omega
theorem inS_nonneg (s : Int) (k : Nat) : 0 ≤ inS l s k := by unfold inS; omega
theorem inS_mono {x y : Int} (h : x ≤ y) (k : Nat) : inS l x k ≤ inS l y k := by unfold inS; omega
theorem of_nonneg (h : Fine l) (s : Int) (k : Nat) (hk : k ≤ l.length) : 0 ≤ ofS l s k :=
  Int.ediv_nonneg (Int.mul_nonneg (inS_nonneg s k) (h.frm k hk).2.2.1) (by omega)
theorem of_mono (h : Fine l) {x y : Int} (hxy : x ≤ y) (k : Nat) (hk : k ≤ l.length) : ofS l x k ≤ ofS l y k :=
  Int.ediv_le_ediv (by omega) (Int.mul_le_mul_of_nonneg_right (inS_mono hxy k) (h.frm k hk).2.2.1)
theorem div_less {a d s : Int} (hd : 0 ≤ d) (hs : s ≤ 1000) (h0 : 0 ≤ s) : (a + d) * s / 1000 ≤ a * s / 1000 + d := by
  have h1 : d * s ≤ d * 1000 := Int.mul_le_mul_of_nonneg_left hs hd
  have h2 : (a + d) * s = a * s + d * s := Int.add_mul a d s
  omega
theorem of_diff (h : Fine l) {x y : Int} (hxy : x ≤ y) (k : Nat) (hk : k ≤ l.length) : ofS l y k ≤ ofS l x k + (inS l y k - inS l x k) := by
  have h1 := inS_mono (l := l) hxy k
  have h2 := h.frm k hk
  have h3 := div_less (a := inS l x k) (d := inS l y k - inS l x k) (s := (frm l k).2) (by omega) h2.2.2.2 h2.2.2.1
  rw [show inS l x k + (inS l y k - inS l x k) = inS l y k by omega] at h3
  exact h3
theorem pay_nonneg (h : Fine l) (s : Int) : 0 ≤ payOf l s := by
  have h1 := sumTo_le (f := fun _ => 0) (g := ofS l s) (l.length + 1) (fun i hi => of_nonneg h s i (by omega))
  have h2 := sumTo_zero (f := fun _ => 0) (l.length + 1) (fun i hi => rfl)
  unfold payOf
  omega
theorem pay_mono (h : Fine l) {x y : Int} (hxy : x ≤ y) : payOf l x ≤ payOf l y :=
  sumTo_le _ (fun i hi => of_mono h hxy i (by omega))
theorem sumTo_sub (f g : Nat → Int) : ∀ k, sumTo (fun i => f i - g i) k = sumTo f k - sumTo g k
  | 0 => rfl
  | k + 1 => by simp only [sumTo, sumTo_sub f g k]; omega
theorem pay_diff (h : Fine l) {x y : Int} (h0 : 0 ≤ x) (hxy : x ≤ y) (hy : y ≤ 281474976710656) : payOf l y - payOf l x ≤ y - x := by
  have h1 := sumTo_le (f := ofS l y) (g := fun k => ofS l x k + (inS l y k - inS l x k)) (l.length + 1) (fun i hi => of_diff h hxy i (by omega))
  rw [sumTo_add, sumTo_sub, parts_all h h0 (by omega), parts_all h (by omega) hy] at h1
  unfold payOf
  omega
theorem pay_zero (h : Fine l) : payOf l 0 = 0 := by
  refine sumTo_zero _ fun i hi => ?_
  have h1 := h.frm i (by omega)
  have h2 := h.upt i (by omega)
  have e : inS l 0 i = 0 := by unfold inS; omega
  rw [ofS, e]; simp
theorem pay_le (h : Fine l) {s : Int} (h0 : 0 ≤ s) (h1 : s ≤ 281474976710656) : payOf l s ≤ s := by
  have := pay_diff h (Int.le_refl 0) h0 h1
  rw [pay_zero h] at this
  omega
/-- Above the last rung nothing more is to be paid. -/
theorem pay_top (h : Fine l) (hn : l ≠ []) {s : Int} (h0 : (l.getD (l.length - 1) (0, 0)).1 ≤ s) : payOf l s = payOf l 281474976710656 := by
  have hlen : 0 < l.length := List.length_pos_iff.2 hn
  have mono : ∀ j, ∀ k, k ≤ j → j < l.length → (l.getD k (0, 0)).1 ≤ (l.getD j (0, 0)).1 := by
    intro j
    induction j with
    | zero => intro k hk _; rw [show k = 0 by omega]; exact Int.le_refl _
    | succ j ih =>
      intro k hk hj
      rcases Nat.lt_or_ge k (j + 1) with h1 | h1
      · have h2 := ih k (by omega) (by omega)
        have h3 := (h.up (j + 1) hj).1
        simp only [frm] at h3
        omega
      · rw [show k = j + 1 by omega]; exact Int.le_refl _
  refine sumTo_eq _ fun k hk => ?_
  rcases Nat.lt_or_ge k l.length with h1 | h1
  · have e : upt l k = (l.getD k (0, 0)).1 := by unfold upt; rw [if_pos h1]
    have h2 := mono (l.length - 1) k (by omega) (by omega)
    have h3 := h.top k h1
    have h4 : inS l s k = inS l 281474976710656 k := by unfold inS; rw [e]; omega
    rw [ofS, ofS, h4]
  · have e : k = l.length := by omega
    subst e
    rcases h.last with h2 | h2
    · exact absurd h2 hn
    · rw [ofS, ofS, h2]; simp
/-- The spans above a sum do not count. -/
theorem pay_cut (h : Fine l) {s : Int} {k : Nat} (hk : k ≤ l.length) (hs : s ≤ (frm l k).1) : payOf l s = sumTo (ofS l s) k := by
  have mono : ∀ j, k ≤ j → j ≤ l.length → s ≤ (frm l j).1 := by
    intro j
    induction j with
    | zero => intro hj _; rw [show 0 = k by omega]; exact hs
    | succ j ih =>
      intro hj hl
      rcases Nat.lt_or_ge j k with h1 | h1
      · rw [show j + 1 = k by omega]; exact hs
      · have h2 := ih h1 (by omega)
        have h3 := (h.up j (by omega)).1
        have e : (frm l (j + 1)).1 = (l.getD j (0, 0)).1 := rfl
        omega
  refine sumTo_cut _ (by omega) fun i hi hl => ?_
  have h1 := mono i hi (by omega)
  have e : inS l s i = 0 := by unfold inS; omega
  rw [ofS, e]; simp
end
end Go.Proofs.Ytjnkokfneinjeaa
