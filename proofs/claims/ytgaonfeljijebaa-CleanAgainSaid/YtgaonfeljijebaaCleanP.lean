/-
  Filters in plain words: which may be (fltB), from which sample one can come to which (canB), which samples are kept and which dropped (kd). No program in sight.
-/
import Derived.Test.YtgaonfeljijebaaSamp
import Derived.Test.YtgaonfeljijebaaGeoS
namespace Go.Proofs.Ytgaonfeljijebaa
open Go.RowKit
set_option linter.unusedVariables false

def fltB (s g : Int) : Bool := decide (1 ≤ s ∧ s ≤ 1024 ∧ 0 ≤ g ∧ g ≤ 1099511627776)
theorem fltB_iff {s g : Int} : fltB s g = true ↔ 1 ≤ s ∧ s ≤ 1024 ∧ 0 ≤ g ∧ g ≤ 1099511627776 := by simp [fltB]
/-- The square of two samples' distance. -/
def dist (a b : Run) : Int := (a.2.1 - b.2.1) * (a.2.1 - b.2.1) + (a.2.2 - b.2.2) * (a.2.2 - b.2.2)
def way (s : Int) (a b : Run) : Int := s * (b.1 - a.1)
def may3 (a : Run) : Bool := mayB a.1 a.2.1 a.2.2
def canB (s g : Int) (a b : Run) : Bool := fltB s g && may3 a && may3 b && decide (a.1 ≤ b.1) && decide (dist a b ≤ way s a b * way s a b)
theorem dist_bd {a b : Run} (ha : may3 a = true) (hb : may3 b = true) : 0 ≤ dist a b ∧ dist a b ≤ 9007199254740992 := by
  obtain ⟨_, _, a0, a1, a2, a3⟩ := mayB_iff.1 ha
  obtain ⟨_, _, b0, b1, b2, b3⟩ := mayB_iff.1 hb
  obtain ⟨_, p1⟩ := prod_bd (x := a.2.1 - b.2.1) (y := a.2.1 - b.2.1) (B := 67108864) (by omega) (by omega) (by omega) (by omega) (by omega)
  obtain ⟨_, q1⟩ := prod_bd (x := a.2.2 - b.2.2) (y := a.2.2 - b.2.2) (B := 67108864) (by omega) (by omega) (by omega) (by omega) (by omega)
  have h0 : ∀ x : Int, 0 ≤ x * x := fun x => by
    rcases Int.le_total 0 x with h | h
    · exact Int.mul_nonneg h h
    · have := Int.mul_nonneg (show 0 ≤ -x by omega) (show 0 ≤ -x by omega)
      rwa [Int.neg_mul_neg] at this
  have h1 := h0 (a.2.1 - b.2.1)
  have h2 := h0 (a.2.2 - b.2.2)
  unfold dist
  omega
theorem way_bd {s g : Int} {a b : Run} (hf : fltB s g = true) (ha : may3 a = true) (hb : may3 b = true) (ht : a.1 ≤ b.1) : 0 ≤ way s a b ∧ way s a b ≤ 1125899906842624 := by
  obtain ⟨s0, s1, _, _⟩ := fltB_iff.1 hf
  obtain ⟨t0, t1, _⟩ := mayB_iff.1 ha
  obtain ⟨u0, u1, _⟩ := mayB_iff.1 hb
  unfold way
  refine ⟨Int.mul_nonneg (by omega) (by omega), ?_⟩
  have h1 : s * (b.1 - a.1) ≤ 1024 * (b.1 - a.1) := Int.mul_le_mul_of_nonneg_right s1 (by omega)
  omega
/-- A way of more than 2^27 is always far enough. -/
theorem far_way {a b : Run} {x : Int} (ha : may3 a = true) (hb : may3 b = true) (hx : 134217728 ≤ x) : dist a b ≤ x * x := by
  have := sq_le (a := 134217728) (b := x) (by omega) hx
  have := (dist_bd ha hb).2
  omega

/-- May sample k be kept behind those that are? -/
def okK (s g : Int) (l : List Run) (K : List Nat) (k : Nat) : Bool := match K.getLast? with
  | none => true
  | some j => decide (g ≤ (l.getD k (0, 0, 0)).1 - (l.getD j (0, 0, 0)).1) && canB s g (l.getD j (0, 0, 0)) (l.getD k (0, 0, 0))
/-- Of the first k samples: which are kept, and which are dropped. -/
def kd (s g : Int) (l : List Run) : Nat → List Nat × List Nat
  | 0 => ([], [])
  | k + 1 => if okK s g l (kd s g l k).1 k = true then ((kd s g l k).1 ++ [k], (kd s g l k).2) else ((kd s g l k).1, (kd s g l k).2 ++ [k])
theorem kd_yes {s g : Int} {l : List Run} {k : Nat} (h : okK s g l (kd s g l k).1 k = true) : kd s g l (k + 1) = ((kd s g l k).1 ++ [k], (kd s g l k).2) := by rw [kd, if_pos h]
theorem kd_no {s g : Int} {l : List Run} {k : Nat} (h : okK s g l (kd s g l k).1 k = false) : kd s g l (k + 1) = ((kd s g l k).1, (kd s g l k).2 ++ [k]) := by rw [kd, if_neg (by rw [h]; simp)]
theorem kd_lt (s g : Int) (l : List Run) : ∀ k, (∀ j ∈ (kd s g l k).1, j < k) ∧ (∀ j ∈ (kd s g l k).2, j < k) ∧ (kd s g l k).1.length + (kd s g l k).2.length = k
  | 0 => by simp [kd]
  | k + 1 => by
    obtain ⟨h1, h2, h3⟩ := kd_lt s g l k
    rcases h : okK s g l (kd s g l k).1 k with _ | _
    · rw [kd_no h]
      refine ⟨fun j hj => by have := h1 j hj; omega, fun j hj => ?_, by simp; omega⟩
      rw [List.mem_append, List.mem_singleton] at hj
      rcases hj with hj | rfl
      · have := h2 j hj; omega
      · omega
    · rw [kd_yes h]
      refine ⟨fun j hj => ?_, fun j hj => by have := h2 j hj; omega, by simp; omega⟩
      rw [List.mem_append, List.mem_singleton] at hj
      rcases hj with hj | rfl
      · have := h1 j hj; omega
      · omega
/-- The error of a filter and a trace. -/
def errK (s g : Int) (l : List Run) : Int := if fltB s g = false then 2 else if 2048 < l.length then 3 else if traceB l = true then 0 else 2
def keptI (s g : Int) (l : List Run) : List Int := if errK s g l = 0 then (kd s g l l.length).1.map (fun (j : Nat) => (j : Int)) else []
def dropI (s g : Int) (l : List Run) : List Int := if errK s g l = 0 then (kd s g l l.length).2.map (fun (j : Nat) => (j : Int)) else []
def keptL (s g : Int) (l : List Run) : List Run := if errK s g l = 0 then (kd s g l l.length).1.map (fun j => l.getD j (0, 0, 0)) else []
end Go.Proofs.Ytgaonfeljijebaa
