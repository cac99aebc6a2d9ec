/-
  The rings up to number k, laid in one row: each cell of the square is in them once (told by the kernel, for k below 12). No program in sight.
-/
import Derived.Test.YtgaonfeljijebaaGeoA
namespace Go.Proofs.Ytgaonfeljijebaa
open Go.RowKit
set_option linter.unusedVariables false

def amt (x : Int) : Int := if x < 0 then -x else x
/-- How far a cell is off the middle. -/
def farC (c : Int × Int) : Int := if amt c.2 < amt c.1 then amt c.1 else amt c.2
/-- A cell's place in the row of all cells up to ring k. -/
def place (k : Nat) (c : Int × Int) : Nat := ((c.1 + k) * (2 * k + 1) + c.2 + k).toNat
/-- The places of the rings ahead of ring i. -/
def before (k : Nat) : Nat → List Nat
  | 0 => []
  | i + 1 => before k i ++ (ringL i).map (place k)
/-- Places are marked in a number's bits, none twice. -/
def marks : List Nat → Nat → Option Nat
  | [], m => some m
  | p :: l, m => if m.testBit p then none else marks l (m ||| 1 <<< p)
theorem marks_some : ∀ (l : List Nat) (m m' : Nat), marks l m = some m' → l.Nodup ∧ (∀ p ∈ l, m.testBit p = false) ∧ ∀ p, m'.testBit p = true → m.testBit p = true ∨ p ∈ l
  | [], m, m', h => by
    obtain rfl : m = m' := by simpa [marks] using h
    exact ⟨List.nodup_nil, by simp, fun p hp => .inl hp⟩
  | q :: l, m, m', h => by
    rw [marks] at h
    split at h
    · cases h
    · rename_i hq
      obtain ⟨h1, h2, h3⟩ := marks_some l _ m' h
      have hb : ∀ p, (m ||| 1 <<< q).testBit p = (m.testBit p || decide (q = p)) := fun p => by
        rw [Nat.testBit_or, Nat.one_shiftLeft, Nat.testBit_two_pow]
      refine ⟨List.nodup_cons.2 ⟨fun hm => ?_, h1⟩, fun p hp => ?_, fun p hp => ?_⟩
      · have := h2 q hm
        rw [hb] at this
        simp at this
      · rcases List.mem_cons.1 hp with rfl | hp
        · simpa using hq
        · have := h2 p hp
          rw [hb, Bool.or_eq_false_iff] at this
          exact this.1
      · rcases h3 p hp with h | h
        · rw [hb, Bool.or_eq_true, decide_eq_true_iff] at h
          rcases h with h | rfl
          · exact .inl h
          · exact .inr (List.mem_cons_self ..)
        · exact .inr (List.mem_cons_of_mem _ h)
theorem fars : (List.range 12).all (fun i => (ringL i).all (fun c => farC c == (i : Int))) = true := by decide +kernel
theorem all_marks : (List.range 12).all (fun k => marks (before k (k + 1)) 0 == some (2 ^ ((2 * k + 1) * (2 * k + 1)) - 1)) = true := by decide +kernel
end Go.Proofs.Ytgaonfeljijebaa
