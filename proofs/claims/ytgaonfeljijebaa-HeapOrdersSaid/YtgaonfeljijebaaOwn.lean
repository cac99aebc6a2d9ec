/-
  Small facts on slices that a call has made itself, said of no program: what an owned row of ints reads as, a block behind a block, and a row that is written over. No conditions.
-/
import Derived.Test.YtgaonfeljijebaaBase
import Derived.Deep.AppendLies
import Derived.Maps.AppendAt
import Derived.Laws.IdiomCopy
namespace Go.Proofs.Ytgaonfeljijebaa
open Go.ChangeShapes Go.WideShapes Go.ChangeAt Go.RowKit
set_option linter.unusedVariables false

theorem flat_one (l : List Int) : l.flatMap one = l := by
  induction l with
  | nil => rfl
  | cons a l ih => rw [List.flatMap_cons, ih]; rfl
/-- A call hands back these ints, in memory of its own or none. -/
def GivesI (rs : List Int) (w : World) (e : Ending) (w' : World) : Prop :=
  ∃ A N c, e = .returned (.slice A N c) ∧ Rd one 1 w' A N rs ∧ Below w.heap.size w w'
theorem rdOwn1 {w : World} {base n : Nat} {t : TypeId} {v : Value} {zs : List Int} (h : w.ownsRow base t 1 v n (zs.map (Value.int .i64))) : ∃ A c, v = .slice A n c ∧ Rd one 1 w A n zs := by
  rcases h.2 with ⟨rfl, rfl⟩ | ⟨g, cap, cur, rfl, _⟩
  · have hz : zs = [] := List.eq_nil_of_length_eq_zero (by simpa using h.1)
    subst hz
    exact ⟨none, 0, rfl, Rd.nil _ _ _ _⟩
  · exact ⟨_, _, rfl, Rd.own (enc := one) (F := 1) (by rw [flat_one]; exact h) (fun _ _ => rfl) (by omega)⟩
theorem alloc_new2 (w : World) (o o' : Obj) : ((w.alloc o).alloc o').heap[w.heap.size + 1]? = some o' := by
  have := heap_alloc_new (w.alloc o) o'
  rwa [World.size_alloc] at this
theorem below_cells {B b : Nat} {a : World} (hb : B ≤ b) : ∀ (vs : List Value) (o : Nat) (w : World), Below B a w → Below B a (w.setCells b o vs)
  | [], _, _, h => h
  | v :: vs, o, w, h => below_cells hb vs (o + 1) _ (h.setCell (p := ⟨b, o, none⟩) hb v)
theorem own_cap {w : World} {base n g c : Nat} {t : TypeId} {size : Nat} {xs : List Value} (h : w.ownsRow base t size (.slice (some ⟨g, 0, none⟩) n c) n xs) : n ≤ c ∧ c ≤ maxLen ∧ base ≤ g ∧ g < w.heap.size := by
  rcases h.2 with ⟨h', _⟩ | ⟨g', cap', cur, h', hb, hg, hnc, hcm, _⟩
  · simp at h'
  · simp only [Value.slice.injEq, Option.some.injEq, Addr.mk.injEq, and_true, true_and] at h'
    obtain ⟨rfl, rfl⟩ := h'
    exact ⟨hnc, hcm, hb, (Array.getElem?_eq_some_iff.1 hg).1⟩
theorem own_form {w : World} {base n : Nat} {t : TypeId} {size : Nat} {v : Value} {xs : List Value} (h : w.ownsRow base t size v n xs) (hn : 0 < n) : ∃ g c, v = .slice (some ⟨g, 0, none⟩) n c := by
  rcases h.2 with ⟨_, h0⟩ | ⟨g, cap, _, rfl, _⟩
  · omega
  · exact ⟨g, cap, rfl⟩
theorem own_any {w : World} {base n : Nat} {t : TypeId} {size : Nat} {v : Value} {xs : List Value} (h : w.ownsRow base t size v n xs) : ∃ A c, v = .slice A n c := by
  rcases h.2 with ⟨rfl, rfl⟩ | ⟨g, cap, _, rfl, _⟩
  · exact ⟨none, 0, rfl⟩
  · exact ⟨_, cap, rfl⟩
theorem own_at {w : World} {base n g c k : Nat} {t : TypeId} {zs : List Int} {x : Int} (h : w.ownsRow base t 1 (.slice (some ⟨g, 0, none⟩) n c) n (zs.map (Value.int .i64))) (hk : zs[k]? = some x) : w.cell? ⟨g, k, none⟩ = some (.int .i64 x) := by
  have hl : zs.length = n := by have := h.1; simpa using this
  have hlt := (List.getElem?_eq_some_iff.1 hk).1
  rw [h.cellAt k (by omega), List.getElem?_map, hk]; rfl
end Go.Proofs.Ytgaonfeljijebaa
