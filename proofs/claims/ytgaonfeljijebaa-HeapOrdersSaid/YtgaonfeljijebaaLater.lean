/-
  A region that draws its order, whose operations only read, but for calls that may lay new blocks and leave what there is: whatever the order, it ends in a later world. Said of no program. No conditions.
-/
import Derived.Test.YtgaonfeljijebaaOwn
namespace Go.Proofs.Ytgaonfeljijebaa
open Go.ChangeShapes Go.WideShapes Go.ChangeAt Go.RowKit
set_option linter.unusedVariables false

/-- A world in which all that was in W is as it was. -/
def Later (W : World) : Type := { w : World // Below W.heap.size W w }
def Later.w {W : World} (s : Later W) : World := s.1
theorem Later.below {W : World} (s : Later W) : Below W.heap.size W s.w := s.2
def Later.now (W : World) : Later W := ⟨W.drewN 1, below_dN (Below.refl _ _) 1⟩
instance later_is (W : World) : Nonempty (Later W) := ⟨Later.now W⟩
theorem Later.cell {W : World} {p : Addr} {v : Value} (h : W.cell? p = some v) (s : Later W) : s.w.cell? p = some v := (s.below.cell (lt_of_cell h)).trans h
theorem wp_region_later {P : Program} {id : Nat} {Q : Exit → Act → World → Prop} {a : Act} {w : World} {l : List Oper} (hm : P.follows .mixedOrders = true) (hB : Region.lexB .any l.toArray = true)
    (h : wpQuiet P l.toArray (fun w' => ∃ s : Later w, w' = s.w) (fun a' => ∀ w', (∃ s : Later w, w' = s.w) → Q .normal a' w') l a) : (Code.region id l.toArray true).wp P Q a w :=
  wp_region_quiet (C := fun w' => ∃ s : Later w, w' = s.w) hm hB ⟨Later.now w, rfl⟩ (by simpa using h)
theorem calls_later {P : Program} {f : FuncId} {args : Array Value} {W : World} {s : Later W} {v : Value}
    (h : Calls P f args s.w fun e w' => e = .returned v ∧ Below s.w.heap.size s.w w') : Calls P f args s.w fun e w' => e = .returned v ∧ ∃ s' : Later W, w' = s'.w :=
  h.mono fun _ w' ⟨he, hw⟩ => ⟨he, ⟨w', s.below.trans (hw.mono s.below.size)⟩, rfl⟩
theorem calls_still {P : Program} {f : FuncId} {args : Array Value} {W : World} {s : Later W} {v : Value}
    (h : Calls P f args s.w fun e w' => e = .returned v ∧ s.w = w') : Calls P f args s.w fun e w' => e = .returned v ∧ ∃ s' : Later W, w' = s'.w :=
  h.mono fun _ w' ⟨he, hw⟩ => ⟨he, s, hw.symm⟩
end Go.Proofs.Ytgaonfeljijebaa
