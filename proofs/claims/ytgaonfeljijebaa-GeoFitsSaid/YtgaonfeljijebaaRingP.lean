/-
  A ring's cells in plain words, side by side (ringL), and how a side grows. No program in sight.
-/
import Derived.Test.YtgaonfeljijebaaOwn
namespace Go.Proofs.Ytgaonfeljijebaa
open Go.RowKit
set_option linter.unusedVariables false

/-- The corner where side s begins, and the way along it. -/
def cornX (r : Int) : Nat → Int | 0 => r | 1 => r | 2 => -r | 3 => -r | _ => r
def cornY (r : Int) : Nat → Int | 0 => -r | 1 => r | 2 => r | 3 => -r | _ => -r
def dirX : Nat → Int | 0 => 0 | 1 => -1 | 2 => 0 | 3 => 1 | _ => 0
def dirY : Nat → Int | 0 => 1 | 1 => 0 | 2 => -1 | 3 => 0 | _ => 1
/-- The place k steps behind the corner of side s. -/
def ptX (r : Int) (s k : Nat) : Int := cornX r s + k * dirX s
def ptY (r : Int) (s k : Nat) : Int := cornY r s + k * dirY s
/-- The first k cells of side s. -/
def side (r : Int) (s k : Nat) : List (Int × Int) := (List.range k).map fun j => (ptX r s (j + 1), ptY r s (j + 1))
theorem side_succ (r : Int) (s k : Nat) : side r s (k + 1) = side r s k ++ [(ptX r s (k + 1), ptY r s (k + 1))] := by
  rw [side, List.range_succ, List.map_append]; rfl
theorem side_len (r : Int) (s k : Nat) : (side r s k).length = k := by simp [side]
/-- All cells of the first s sides, of 2 r cells each. -/
def sides (r : Nat) : Nat → List (Int × Int)
  | 0 => []
  | s + 1 => sides r s ++ side r s (2 * r)
theorem sides_len (r : Nat) : ∀ s, (sides r s).length = s * (2 * r)
  | 0 => by simp [sides]
  | s + 1 => by rw [sides, List.length_append, sides_len r s, side_len, ← Nat.succ_mul]
def ringL (r : Nat) : List (Int × Int) := if r = 0 then [(0, 0)] else sides r 4
theorem pt_end (r : Nat) : ∀ s, s < 4 → ptX r s (2 * r) = cornX r (s + 1) ∧ ptY r s (2 * r) = cornY r (s + 1)
  | 0, _ => by simp [ptX, ptY, cornX, cornY, dirX, dirY]; omega
  | 1, _ => by simp [ptX, ptY, cornX, cornY, dirX, dirY]; omega
  | 2, _ => by simp [ptX, ptY, cornX, cornY, dirX, dirY]; omega
  | 3, _ => by simp [ptX, ptY, cornX, cornY, dirX, dirY]; omega
theorem pt_bd (r s k : Nat) (hs : s < 4) (hk : k ≤ 2 * r) : -(r : Int) ≤ ptX r s k ∧ ptX r s k ≤ r ∧ -(r : Int) ≤ ptY r s k ∧ ptY r s k ≤ r := by
  match s, hs with
  | 0, _ => simp [ptX, ptY, cornX, cornY, dirX, dirY]; omega
  | 1, _ => simp [ptX, ptY, cornX, cornY, dirX, dirY]; omega
  | 2, _ => simp [ptX, ptY, cornX, cornY, dirX, dirY]; omega
  | 3, _ => simp [ptX, ptY, cornX, cornY, dirX, dirY]; omega
theorem pt_step (r : Int) (s k : Nat) : ptX r s (k + 1) = ptX r s k + dirX s ∧ ptY r s (k + 1) = ptY r s k + dirY s := by
  have h : ∀ d : Int, ((k + 1 : Nat) : Int) * d = (k : Int) * d + d := fun d => by rw [Int.natCast_add, Int.add_mul]; omega
  unfold ptX ptY
  rw [h, h]; omega
def cellsC (L : List (Int × Int)) : List Value := (L.flatMap two).map (Value.int .i64)
theorem cellsC_snoc (L : List (Int × Int)) (x y : Int) : cellsC (L ++ [(x, y)]) = cellsC L ++ [.int .i64 x, .int .i64 y] := by simp [cellsC, two]
/-- A call hands back these cells. -/
def GivesC (rs : List (Int × Int)) (w : World) (e : Ending) (w' : World) : Prop :=
  ∃ A N c, e = .returned (.slice A N c) ∧ Rd two 2 w' A N rs ∧ Below w.heap.size w w'
theorem rdOwn2 {w : World} {base n : Nat} {t : TypeId} {v : Value} {L : List (Int × Int)} (h : w.ownsRow base t 2 v n (cellsC L)) : ∃ A c, v = .slice A n c ∧ Rd two 2 w A n L := by
  rcases h.2 with ⟨rfl, rfl⟩ | ⟨g, cap, cur, rfl, _⟩
  · have hz : L = [] := by
      have := h.1
      rw [cellsC, List.length_map, flat_len (enc := two) (F := 2) L (fun _ _ => rfl)] at this
      exact List.eq_nil_of_length_eq_zero (by omega)
    subst hz
    exact ⟨none, 0, rfl, Rd.nil _ _ _ _⟩
  · exact ⟨_, _, rfl, Rd.own (enc := two) (F := 2) h (fun _ _ => rfl) (by omega)⟩
/-- A row that holds the first cells of a side holds one more. -/
theorem own_more {w : World} {base n : Nat} {t : TypeId} {v : Value} {r : Int} {s k : Nat} {B : List (Int × Int)} {x y : Int} (h : w.ownsRow base t 2 v n (cellsC (B ++ side r s k) ++ [.int .i64 x, .int .i64 y])) (hx : x = ptX r s (k + 1)) (hy : y = ptY r s (k + 1)) : w.ownsRow base t 2 v n (cellsC (B ++ side r s (k + 1))) := by
  rw [side_succ, ← List.append_assoc, cellsC_snoc, ← hx, ← hy]; exact h
theorem own_next {w : World} {base n : Nat} {t : TypeId} {v : Value} {r : Nat} {s : Nat} (h : w.ownsRow base t 2 v n (cellsC (sides r s ++ side r s (2 * r)))) : w.ownsRow base t 2 v n (cellsC (sides r (s + 1) ++ side r (s + 1) 0)) := by
  have : sides r (s + 1) ++ side r (s + 1) 0 = sides r s ++ side r s (2 * r) := by simp [sides, side]
  rw [this]; exact h
end Go.Proofs.Ytgaonfeljijebaa
