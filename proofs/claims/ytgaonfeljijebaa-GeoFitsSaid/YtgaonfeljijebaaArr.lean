/-
  An array of structs of ints that came in by value. Said of no program. No conditions.
-/
import Derived.Test.YtgaonfeljijebaaBase
namespace Go.Proofs.Ytgaonfeljijebaa
open Go.ChangeShapes Go.WideShapes Go.ChangeAt Go.RowKit Go.Deep
set_option linter.unusedVariables false

theorem chunks {F : Nat} : ∀ (m : Nat) (cs : List Value), cs.length = m * F → (∀ j, j < m → ∃ xs : List Int, (cs.drop (j * F)).take F = xs.map (Value.int .i64) ∧ ∀ x ∈ xs, Fits x) → ∃ xs : List Int, xs.length = m * F ∧ cs = xs.map (Value.int .i64) ∧ ∀ x ∈ xs, Fits x
  | 0, cs, hl, _ => ⟨[], by simp, by simpa using hl, by simp⟩
  | m + 1, cs, hl, h => by
    obtain ⟨x0, h0, f0⟩ := h 0 (by omega)
    rw [Nat.zero_mul, List.drop_zero] at h0
    rw [Nat.succ_mul] at hl
    obtain ⟨x1, l1, h1, f1⟩ := chunks (F := F) m (cs.drop F) (by rw [List.length_drop]; omega) (fun j hj => by
      obtain ⟨xs, hx, fx⟩ := h (j + 1) (by omega)
      exact ⟨xs, by rw [List.drop_drop, show F + j * F = (j + 1) * F by rw [Nat.succ_mul]; omega]; exact hx, fx⟩)
    have hcs : cs = (x0 ++ x1).map (Value.int .i64) := by rw [List.map_append, ← h0, ← h1, List.take_append_drop]
    refine ⟨x0 ++ x1, ?_, hcs, fun x hx => ?_⟩
    · rw [hcs, List.length_map] at hl
      rw [hl, Nat.succ_mul]
    · rcases List.mem_append.1 hx with hx | hx
      · exact f0 x hx
      · exact f1 x hx
variable {H : Type} {enc : TypeId × Value → H} {P : Program} {w : World} {base : Nat} {spare : Nat → Bool} {held : Bool}
/-- An array of structs of ints that came in by value. -/
theorem agg_array_structs {r : Reach} {b0 : Nat} {t e : TypeId} {m : Nat} {fs : Array Field} {v : Value} {d : DataW H} {p : List MemPlace} (ht : P.underlying t = some (.array m e)) (he : P.underlying e = some (.struct fs)) (hone : oneCellFields P fs = true)
    (hC : P.cellsOf t = m * fs.size) (hE : P.cellsOf e = fs.size) (hI : ∀ f ∈ fs.toList, P.underlying f.type = some (.int .i64)) (hv : Value.okWide P w r b0 t v) (h : DataW.Trod enc P w base spare held t v d p) :
    ∃ xs : List Int, xs.length = m * fs.size ∧ v = .agg (xs.map (Value.int .i64)).toArray ∧ ∀ x ∈ xs, Fits x := by
  simp only [Value.okWide, ht] at hv
  obtain ⟨cs, rfl, hsz, _⟩ := hv
  obtain ⟨fuel, hf⟩ := h
  obtain ⟨ys, q, _, _, _, hyl, hat⟩ := DataW.trod_array ht hf
  have hlen : cs.toList.length = m * fs.size := by simpa using hsz.trans hC
  simp only [Value.cells, hE] at hat
  obtain ⟨xs, hxl, hcs, hw⟩ := chunks m cs.toList hlen (fun j hj => by
    have hjl : j * fs.size + fs.size ≤ cs.toList.length := by
      rw [hlen, ← Nat.succ_mul]
      exact Nat.mul_le_mul_right _ hj
    obtain ⟨xs, _, hx, hw⟩ := cells_ints he hone (fun j f hj => hI f (by simpa using Array.mem_of_getElem? hj)) (cs := (cs.toList.drop (j * fs.size)).take fs.size) (by rw [List.length_take, List.length_drop]; omega) ((hat j hj).trans (List.getElem?_eq_getElem (by omega)))
    exact ⟨xs, hx, hw⟩)
  exact ⟨xs, hxl, by rw [← hcs], hw⟩
end Go.Proofs.Ytgaonfeljijebaa
