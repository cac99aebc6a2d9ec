/-
  The runs of stops and samples, in plain words: runsTo; and why there are none: errR. No program in sight.
-/
import Derived.Test.YtceohmbjajhlcaaSame
import Derived.Deep.AppendLies
namespace Go.Proofs.Ytceohmbjajhlcaa
open Go.ChangeShapes Go.WideShapes Go.ChangeAt Go.RowKit
set_option linter.unusedVariables false

/-- Behind sample k: the runs that are over, and the one that is not. -/
def prs (st : List Int) (l : List Run) : Nat → List Run × Run
  | 0 => ([], (st.getD 0 0, (l.getD 0 (0, 0, 0)).1, (l.getD 0 (0, 0, 0)).1))
  | k + 1 =>
    if st.getD (k + 1) 0 = st.getD k 0 then ((prs st l k).1, ((prs st l k).2.1, (prs st l k).2.2.1, (l.getD (k + 1) (0, 0, 0)).1))
    else ((prs st l k).1 ++ [(prs st l k).2], (st.getD (k + 1) 0, (l.getD (k + 1) (0, 0, 0)).1, (l.getD (k + 1) (0, 0, 0)).1))
def runsTo (st : List Int) (l : List Run) : Nat → List Run
  | 0 => []
  | k + 1 => (prs st l k).1 ++ [(prs st l k).2]
def okS (st : List Int) (l : List Run) (k : Nat) : Bool := inTime l k && decide (0 ≤ st.getD k 0 ∧ st.getD k 0 ≤ 4095)
def allS (st : List Int) (l : List Run) : Bool := (List.range l.length).all (okS st l)
def errR (st : List Int) (l : List Run) : Int := if 2048 < l.length then 3 else if st.length = l.length ∧ allS st l = true then 0 else 2

theorem getD_of {α : Type} {l : List α} {k : Nat} {x d : α} (h : l[k]? = some x) : l.getD k d = x := by rw [List.getD_eq_getElem?_getD, h]; rfl
theorem prs_stop (st : List Int) (l : List Run) : ∀ k, (prs st l k).2.1 = st.getD k 0
  | 0 => rfl
  | k + 1 => by
    rw [prs]
    split
    · rename_i h; rw [h]; exact prs_stop st l k
    · rfl
theorem prs_on {st : List Int} {l : List Run} {k : Nat} {o : List Run} {s f t u x y : Int} (h : prs st l k = (o, (s, f, t))) (hs : st[k + 1]? = some s) (hl : l[k + 1]? = some (u, x, y)) : prs st l (k + 1) = (o, (s, f, u)) := by
  have h1 := prs_stop st l k
  rw [h] at h1
  rw [prs, getD_of hs, getD_of hl, if_pos h1, h]
theorem prs_off {st : List Int} {l : List Run} {k : Nat} {o : List Run} {s f t s' u x y : Int} (h : prs st l k = (o, (s, f, t))) (hs : st[k + 1]? = some s') (hne : s' ≠ s) (hl : l[k + 1]? = some (u, x, y)) : prs st l (k + 1) = (o ++ [(s, f, t)], (s', u, u)) := by
  have h1 := prs_stop st l k
  rw [h] at h1
  rw [prs, getD_of hs, getD_of hl, if_neg (by rw [← h1]; exact hne), h]
theorem prs_zero {st : List Int} {l : List Run} {s u x y : Int} (hs : st[0]? = some s) (hl : l[0]? = some (u, x, y)) : prs st l 0 = ([], (s, u, u)) := by
  rw [prs, getD_of hs, getD_of hl]
theorem runsTo_of {st : List Int} {l : List Run} {k : Nat} {o : List Run} {r : Run} (h : prs st l k = (o, r)) : runsTo st l (k + 1) = o ++ [r] := by rw [runsTo, h]

theorem okS_of {st : List Int} {l : List Run} {k : Nat} {s : Int} (hs : st[k]? = some s) : okS st l k = (inTime l k && decide (0 ≤ s ∧ s ≤ 4095)) := by rw [okS, getD_of hs]
theorem okS_bad {st : List Int} {l : List Run} {k : Nat} (h : inTime l k = false) : okS st l k = false := by rw [okS, h]; rfl
def Sound (st : List Int) (l : List Run) (k : Nat) : Prop := ∀ j, j < k → okS st l j = true
theorem sound_succ {st : List Int} {l : List Run} {k : Nat} (h : Sound st l k) (h' : okS st l k = true) : Sound st l (k + 1) := fun j hj => by
  rcases Nat.lt_or_ge j k with h1 | h1
  · exact h j h1
  · obtain rfl : j = k := by omega
    exact h'
theorem allS_bad {st : List Int} {l : List Run} {k : Nat} (hk : k < l.length) (h : okS st l k = false) : allS st l = false := by
  unfold allS
  rw [List.all_eq_false]
  exact ⟨k, by simpa using hk, by simp [h]⟩
theorem allS_good {st : List Int} {l : List Run} (h : Sound st l l.length) : allS st l = true := by
  unfold allS
  rw [List.all_eq_true]
  exact fun j hj => h j (by simpa using hj)
theorem errR_bad {st : List Int} {l : List Run} (h : l.length ≤ 2048) (h' : allS st l = false) : errR st l = 2 := by
  rw [errR, if_neg (by omega), if_neg (by rw [h']; simp)]
theorem errR_good {st : List Int} {l : List Run} (h : l.length ≤ 2048) (h' : Sound st l l.length) (hl : st.length = l.length) : errR st l = 0 := by
  rw [errR, if_neg (by omega), if_pos ⟨hl, allS_good h'⟩]
theorem sound_trace {st : List Int} {l : List Run} (h : Sound st l l.length) : traceB l = true := traceB_good fun j hj => by
  have := h j hj
  simp [okS] at this
  exact this.1
theorem trace_bad {st : List Int} {l : List Run} (h : traceB l = false) : allS st l = false := by
  rcases ha : allS st l with _ | _
  · rfl
  · unfold allS at ha
    rw [List.all_eq_true] at ha
    rw [sound_trace (st := st) fun j hj => ha j (by simpa using hj)] at h
    cases h

theorem trace_in {l : List Run} {k : Nat} (h : traceB l = true) (hk : k < l.length) : inTime l k = true := by
  unfold traceB at h
  rw [List.all_eq_true] at h
  exact h k (by simpa using hk)

/-- A call hands back these runs, and this error. -/
def Gives (rs : List Run) (err : Int) (w : World) (e : Ending) (w' : World) : Prop :=
  ∃ A N c, e = .returned (.tuple #[.slice A N c, .int .i64 err]) ∧ Rd three 3 w' A N rs ∧ Below w.heap.size w w'
def runsOf (st : List Int) (l : List Run) : List Run := if errR st l = 0 then runsTo st l l.length else []
end Go.Proofs.Ytceohmbjajhlcaa
