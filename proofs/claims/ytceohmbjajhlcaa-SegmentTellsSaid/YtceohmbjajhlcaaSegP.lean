/-
  The legs of runs, in plain words, step by step. No program in sight but the checkout's law.
-/
import Derived.Test.YtceohmbjajhlcaaDwellT
namespace Go.Proofs.Ytceohmbjajhlcaa
open Go.ChangeShapes Go.WideShapes Go.ChangeAt Go.RowKit
set_option linter.unusedVariables false

abbrev Leg := Int × Int × Int × Int
def lastB (l : List Run) (least : Int) (j : Nat) : Bool := decide (least ≤ (l.getD j (0, 0, 0)).2.2 - (l.getD j (0, 0, 0)).2.1)
/-- The checkout's place. -/
def chkF (l : List Run) (least : Int) : Nat := ((List.range l.length).find? (fun j => decide (1 ≤ j) && lastB l least j)).getD (l.length - 1)
theorem lastB_iff {l : List Run} {least : Int} {j : Nat} (hj : j < l.length) : lastB l least j = true ↔ lasts l least j := by
  obtain ⟨x, y, z⟩ : ∃ r, r = l[j] := ⟨_, rfl⟩
  have e : l[j]? = some l[j] := List.getElem?_eq_getElem hj
  unfold lastB
  rw [getD_of e, decide_eq_true_iff]
  exact (lasts_iff (x := l[j].1) (y := l[j].2.1) (z := l[j].2.2) e).symm
theorem chkF_is {l : List Run} {least : Int} (h : 0 < l.length) : IsChk l least (chkF l least) := by
  unfold chkF
  rcases hf : (List.range l.length).find? (fun j => decide (1 ≤ j) && lastB l least j) with _ | i
  · rw [List.find?_range_eq_none] at hf
    refine ⟨by simp; omega, fun j h1 h2 hl => ?_, .inl (by simp; omega)⟩
    simp only [Option.getD_none] at h2
    have := hf j (by omega)
    rw [(lastB_iff (by omega)).2 hl] at this
    simp at this
    omega
  · rw [List.find?_range_eq_some] at hf
    obtain ⟨h1, h2, h3⟩ := hf
    rw [Bool.and_eq_true, decide_eq_true_iff] at h1
    have hi : i < l.length := List.mem_range.1 h2
    refine ⟨hi, fun j hj1 hj2 hl => ?_, .inr ⟨h1.1, (lastB_iff hi).1 h1.2⟩⟩
    simp only [Option.getD_some] at hj2
    have := h3 j hj2
    rw [(lastB_iff (by omega)).2 hl] at this
    simp at this
    omega
theorem chk_pos {l : List Run} {least : Int} {i : Nat} (h : IsChk l least i) (h2 : 2 ≤ l.length) : 1 ≤ i := by
  obtain ⟨_, _, h3 | h3⟩ := h
  · omega
  · exact h3.1
def legAt (l : List Run) (p k : Nat) : Leg := ((l.getD p (0, 0, 0)).1, (l.getD (p + k) (0, 0, 0)).1, (l.getD p (0, 0, 0)).2.2, (l.getD (p + k) (0, 0, 0)).2.1)
/-- Where one stands behind m legs, and the legs. -/
def st (l : List Run) (least : Int) : Nat → Nat × List Leg
  | 0 => (0, [])
  | m + 1 => if (st l least m).1 + 1 < l.length then ((st l least m).1 + chkF (l.drop (st l least m).1) least, (st l least m).2 ++ [legAt l (st l least m).1 (chkF (l.drop (st l least m).1) least)]) else st l least m
def legsOf (l : List Run) (least : Int) : List Leg := (st l least l.length).2
section
variable {l : List Run} {least : Int}
theorem st_more {m p : Nat} {o : List Leg} (h : st l least m = (p, o)) (hp : p + 1 < l.length) {k : Nat} (hk : IsChk (l.drop p) least k) : st l least (m + 1) = (p + k, o ++ [legAt l p k]) := by
  have e : chkF (l.drop p) least = k := chk_same (chkF_is (by rw [List.length_drop]; omega)) hk
  rw [st, h]
  simp only [e]
  rw [if_pos hp]
theorem st_stop {m : Nat} (h : ¬ (st l least m).1 + 1 < l.length) : ∀ d, st l least (m + d) = st l least m
  | 0 => rfl
  | d + 1 => by
    rw [← Nat.add_assoc, st, st_stop h d, if_neg h]
theorem legs_end {m p : Nat} {o : List Leg} (h : st l least m = (p, o)) (hp : ¬ p + 1 < l.length) (hm : m ≤ l.length) : legsOf l least = o := by
  have h1 := st_stop (l := l) (least := least) (m := m) (by rw [h]; exact hp) (l.length - m)
  rw [show m + (l.length - m) = l.length by omega, h] at h1
  unfold legsOf
  rw [h1]
theorem st_len : ∀ m, (st l least m).2.length ≤ m
  | 0 => Nat.le_refl _
  | m + 1 => by
    have := st_len m
    rw [st]
    split
    · simp; omega
    · omega
end
end Go.Proofs.Ytceohmbjajhlcaa
