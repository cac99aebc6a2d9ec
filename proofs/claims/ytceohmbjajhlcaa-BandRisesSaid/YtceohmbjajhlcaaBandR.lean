/-
  What BandRises leans on, in plain words: the steps rise, each price is one of them, and how many of them are one of two. No program in sight.
-/
import Derived.Test.YtceohmbjajhlcaaBandP
namespace Go.Proofs.Ytceohmbjajhlcaa
set_option linter.unusedVariables false

theorem all_rise {l : List (Int × Int)} {over : Int} (hB : bandB l over = true) : (bAll l over).Pairwise (· ≤ ·) := by
  obtain ⟨hu, _, ho, _⟩ := bandB_up hB
  have hm : (l.map (·.2)).Pairwise (· ≤ ·) := by
    rw [List.pairwise_iff_getElem]
    intro i j hi hj hij
    simp at hi hj
    obtain ⟨d, rfl⟩ : ∃ d, j = i + d := ⟨j - i, by omega⟩
    have := bUp_rise hu d i (x := (l[i]).1) (y := (l[i]).2) (x' := (l[i + d]).1) (y' := (l[i + d]).2) (List.getElem?_eq_getElem hi) (List.getElem?_eq_getElem hj)
    simpa using this.2
  unfold bAll
  split
  · rw [List.pairwise_append]
    refine ⟨hm, by simp, fun a ha b hb => ?_⟩
    simp at hb; subst hb
    obtain ⟨i, hi, rfl⟩ := List.getElem_of_mem ha
    simp at hi
    obtain ⟨j, hj⟩ : ∃ j, l.length = j + 1 := ⟨l.length - 1, by omega⟩
    rw [hj, bAhead_succ (List.getElem?_eq_getElem (show j < l.length by omega))] at ho
    obtain ⟨d, rfl⟩ : ∃ d, j = i + d := ⟨j - i, by omega⟩
    have := bUp_rise hu d i (x := (l[i]).1) (y := (l[i]).2) (x' := (l[i + d]).1) (y' := (l[i + d]).2) (List.getElem?_eq_getElem hi) (List.getElem?_eq_getElem (by omega))
    rw [List.getElem_map]
    omega
  · rw [List.append_nil]; exact hm
theorem steps_rise {l : List (Int × Int)} {over : Int} (hB : bandB l over = true) : (bSteps l over).Pairwise (· < ·) := (compact_rises _ _ rfl (all_rise hB)).1
theorem steps_up {l : List (Int × Int)} {over : Int} {k : Nat} {x y : Int} (hB : bandB l over = true) (hx : (bSteps l over)[k + 1]? = some x) (hy : (bSteps l over)[k]? = some y) : y < x := by
  obtain ⟨h1, rfl⟩ := List.getElem?_eq_some_iff.1 hx
  obtain ⟨h2, rfl⟩ := List.getElem?_eq_some_iff.1 hy
  exact List.pairwise_iff_getElem.1 (steps_rise hB) k (k + 1) h2 h1 (by omega)
theorem price_in {l : List (Int × Int)} {over far : Int} (hB : bandB l over = true) (h1 : far ≤ 4294967296) : bPrice l over far ∈ bSteps l over := by
  rw [bSteps, (compact_rises _ _ rfl (all_rise hB)).2.1]
  obtain ⟨i, hi, hs, hf⟩ := first_ex l far l.length 0 (by omega) (short_zero _ _)
  unfold bAll
  rcases Nat.lt_or_ge i l.length with hlt | hge
  · have hr : l[i]? = some (l[i]) := List.getElem?_eq_getElem hlt
    rw [bPrice_at hs hr (hf _ hr)]
    exact List.mem_append_left _ (List.mem_map.2 ⟨_, List.getElem_mem hlt, rfl⟩)
  · obtain rfl : i = l.length := by omega
    rw [bPrice_end hs]
    rw [if_pos]
    · simp
    · rcases Nat.eq_zero_or_pos l.length with h0 | h0
      · exact .inl h0
      · refine .inr ?_
        obtain ⟨j, hj⟩ : ∃ j, l.length = j + 1 := ⟨l.length - 1, by omega⟩
        have hr : l[j]? = some (l[j]'(by omega)) := List.getElem?_eq_getElem (by omega)
        rw [hj, bAhead_succ hr]
        have := hs j _ (by omega) hr
        omega
theorem bPrice_mono {l : List (Int × Int)} {over a b : Int} (hB : bandB l over = true) (hab : a ≤ b) : bPrice l over a ≤ bPrice l over b := by
  obtain ⟨hu, _, ho, _⟩ := bandB_up hB
  obtain ⟨i, hi, hs, hf⟩ := first_ex l a l.length 0 (by omega) (short_zero _ _)
  obtain ⟨j, hj, hs', hf'⟩ := first_ex l b l.length 0 (by omega) (short_zero _ _)
  have hij : i ≤ j := by
    rcases Nat.lt_or_ge j i with h | h
    · have hr : l[j]? = some (l[j]'(by omega)) := List.getElem?_eq_getElem (by omega)
      have h1 := hs j _ h hr
      have h2 := hf' _ hr
      omega
    · exact h
  rcases Nat.lt_or_ge j l.length with hlt | hge
  · have hr : l[i]? = some (l[i]'(by omega)) := List.getElem?_eq_getElem (by omega)
    have hr' : l[j]? = some (l[j]) := List.getElem?_eq_getElem hlt
    rw [bPrice_at hs hr (hf _ hr), bPrice_at hs' hr' (hf' _ hr')]
    obtain ⟨d, rfl⟩ : ∃ d, j = i + d := ⟨j - i, by omega⟩
    exact (bUp_rise hu d i (x := (l[i]'(by omega)).1) (y := (l[i]'(by omega)).2) (x' := (l[i + d]).1) (y' := (l[i + d]).2) hr hr').2
  · obtain rfl : j = l.length := by omega
    rw [bPrice_end hs']
    rcases Nat.lt_or_ge i l.length with hlt | hge
    · have hr : l[i]? = some (l[i]) := List.getElem?_eq_getElem hlt
      rw [bPrice_at hs hr (hf _ hr)]
      obtain ⟨j, hj⟩ : ∃ j, l.length = j + 1 := ⟨l.length - 1, by omega⟩
      have hr' : l[j]? = some (l[j]'(by omega)) := List.getElem?_eq_getElem (by omega)
      rw [hj, bAhead_succ hr'] at ho
      obtain ⟨d, rfl⟩ : ∃ d, j = i + d := ⟨j - i, by omega⟩
      have := (bUp_rise hu d i (x := (l[i]).1) (y := (l[i]).2) (x' := (l[i + d]'(by omega)).1) (y' := (l[i + d]'(by omega)).2) hr hr').2
      omega
    · obtain rfl : i = l.length := by omega
      rw [bPrice_end hs]; exact Int.le_refl _
/-- At a band's end its price. -/
theorem price_own {l : List (Int × Int)} {over : Int} {k : Nat} {x y : Int} (hB : bandB l over = true) (h : l[k]? = some (x, y)) : bPrice l over x = y := by
  obtain ⟨hu, _, _, _⟩ := bandB_up hB
  refine bPrice_at (i := k) (fun j r hj hr => ?_) h (Int.le_refl _)
  obtain ⟨d, rfl⟩ : ∃ d, k = j + d := ⟨k - j, by omega⟩
  have := bUp_rise hu d j (x := r.1) (y := r.2) hr h
  omega

/-- How many of these are one of two. -/
def cnt (a b : Int) : List Int → Int
  | [] => 0
  | s :: l => (if s = a ∨ s = b then 1 else 0) + cnt a b l
theorem cnt_snoc (a b : Int) (zs : List Int) (x : Int) : cnt a b (zs ++ [x]) = cnt a b zs + if x = a ∨ x = b then 1 else 0 := by
  induction zs with
  | nil => simp [cnt]
  | cons s zs ih => rw [List.cons_append, cnt, cnt, ih]; omega
theorem cnt_bd (a b : Int) (zs : List Int) : 0 ≤ cnt a b zs ∧ cnt a b zs ≤ zs.length := by
  induction zs with
  | nil => simp [cnt]
  | cons s zs ih => rw [cnt, List.length_cons]; split <;> omega
theorem cnt_is {a b : Int} {zs : List Int} (h : zs.Pairwise (· < ·)) : cnt a b zs = (if a ∈ zs then 1 else 0) + if b ∈ zs ∧ a ≠ b then 1 else 0 := by
  induction zs with
  | nil => simp [cnt]
  | cons s zs ih =>
    rw [List.pairwise_cons] at h
    have hs : s ∉ zs := fun hh => by have := h.1 s hh; omega
    rw [cnt, ih h.2]
    by_cases e1 : s = a
    · subst e1
      by_cases e2 : s = b
      · subst e2; simp [hs]
      · have e2' : ¬ b = s := fun h => e2 h.symm
        simp [hs, e2, e2', List.mem_cons]
    · have e1' : ¬ a = s := fun h => e1 h.symm
      by_cases e2 : s = b
      · subst e2; simp [hs, e1, e1', List.mem_cons]; omega
      · have e2' : ¬ b = s := fun h => e2 h.symm
        simp [e1, e1', e2, e2', List.mem_cons]
theorem cnt_found {l : List (Int × Int)} {over a b : Int} (hB : bandB l over = true) (ha : a ∈ bSteps l over) (hb : b ∈ bSteps l over) : cnt a b (bSteps l over) = if a = b then 1 else 2 := by
  rw [cnt_is (steps_rise hB), if_pos ha]
  by_cases e : a = b
  · simp [e]
  · simp [e, hb]
end Go.Proofs.Ytceohmbjajhlcaa
