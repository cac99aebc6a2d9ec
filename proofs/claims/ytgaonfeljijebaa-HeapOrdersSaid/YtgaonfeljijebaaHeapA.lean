/-
  A heap in memory: its struct, and the row that it owns; how it is carried over a change of the world. Said of no program. No conditions.
-/
import Derived.Test.YtgaonfeljijebaaOwn
import Derived.Test.YtgaonfeljijebaaRange
import Derived.Test.YtgaonfeljijebaaHeapP
namespace Go.Proofs.Ytgaonfeljijebaa
open Go.ChangeShapes Go.WideShapes Go.ChangeAt Go.RowKit
set_option linter.unusedVariables false

section
variable {α : Type} {enc : α → List Int} {F : Nat} {e th : TypeId} {fv v v' : Value} {w w' : World} {hb : Nat} {l : List α}
def cellsH (enc : α → List Int) (l : List α) : List Value := (l.flatMap enc).map (Value.int .i64)
/-- The struct at block hb holds the order and the slice v, and v is a row of the heap's own that reads as l. -/
structure HeapAt (enc : α → List Int) (F : Nat) (e th : TypeId) (fv : Value) (w : World) (hb : Nat) (v : Value) (l : List α) : Prop where
  blk : Bk w hb th #[fv, v]
  row : w.ownsRow (hb + 1) e F v l.length (cellsH enc l)
/-- What a heap may turn: its struct, and its row. -/
def InH (hb : Nat) (v : Value) (k : Nat) : Prop := k = hb ∨ v.ownBlock = some k
/-- The row is as it was, or a new one. -/
def Grew (w : World) (v v' : Value) : Prop := v'.ownBlock = v.ownBlock ∨ ∃ g, w.heap.size ≤ g ∧ v'.ownBlock = some g
theorem Rd.step {O : Nat → Prop} {A : Option Addr} {n : Nat} (h : Rd enc F w A n l) (hs : Step O w w') (ho : ∀ b off, A = some ⟨b, off, none⟩ → ¬ O b) : Rd enc F w' A n l :=
  ⟨h.1, fun i r hr => by
    obtain ⟨b, off, hA, hlt, hc⟩ := h.2 i r hr
    exact ⟨b, off, hA, Nat.lt_of_lt_of_le hlt hs.size, fun j x hx => (World.cell?_of_block (a := ⟨b, _, none⟩) (hs.block b hlt (ho b off hA))).trans (hc j x hx)⟩⟩
theorem Bk.step {O : Nat → Prop} {g : Nat} {t : TypeId} {cs : Array Value} (h : Bk w g t cs) (hs : Step O w w') (hg : ¬ O g) : Bk w' g t cs := (hs.block g h.lt hg).trans h
theorem own_step {O : Nat → Prop} {base n : Nat} {t : TypeId} {size : Nat} {xs : List Value} (h : w.ownsRow base t size v n xs) (hs : Step O w w') (ho : ∀ g, v.ownBlock = some g → ¬ O g) : w'.ownsRow base t size v n xs := by
  refine ⟨h.1, ?_⟩
  rcases h.2 with h' | ⟨g, cap, cur, hv, hg, hc, rest⟩
  · exact .inl h'
  · exact .inr ⟨g, cap, cur, hv, hg, (hs.block g (Array.getElem?_eq_some_iff.1 hc).1 (ho g (by rw [hv]; rfl))).trans hc, rest⟩
/-- A heap lies as it lay where others turn what is theirs. -/
theorem HeapAt.step {O : Nat → Prop} (h : HeapAt enc F e th fv w hb v l) (hs : Step O w w') (ho : ∀ k, O k → ¬ InH hb v k) : HeapAt enc F e th fv w' hb v l :=
  ⟨h.blk.step hs (fun h1 => ho _ h1 (.inl rfl)), own_step h.row hs (fun g hg h1 => ho _ h1 (.inr hg))⟩
theorem HeapAt.lt (h : HeapAt enc F e th fv w hb v l) {k : Nat} (hk : InH hb v k) : k < w.heap.size ∧ hb ≤ k := by
  rcases hk with rfl | hk
  · exact ⟨h.blk.lt, Nat.le_refl _⟩
  · have := h.row.lt k hk; omega
theorem Step.of (h : Below w.heap.size w w') (O : Nat → Prop) : Step O w w' := ⟨h.os, h.tape, h.output, h.size, fun k hk _ => h.block k hk⟩
theorem Step.drewN {O : Nat → Prop} {a : World} (h : Step O a w) (m : Nat) : Step O a (w.drewN m) := ⟨h.os, h.tape, h.output, h.size, h.block⟩
theorem Step.grown {O : Nat → Prop} {a : World} {row : Option Nat} (h : Step O a w) (hg : w.grownBy w' row) (hr : ∀ r, row = some r → O r ∨ a.heap.size ≤ r) : Step O a w' :=
  ⟨hg.os.trans h.os, hg.tape.trans h.tape, hg.output.trans h.output, Nat.le_trans h.size hg.size, fun k hk hn => (hg.block k (Nat.lt_of_lt_of_le hk h.size) (fun e => by
    rcases hr k e.symm with h1 | h1
    · exact hn h1
    · omega)).trans (h.block k hk hn)⟩
theorem Grew.refl (w : World) (v : Value) : Grew w v v := .inl rfl
theorem Grew.trans {v'' : Value} (h : Grew w v v') (h' : Grew w' v' v'') (hs : w.heap.size ≤ w'.heap.size) : Grew w v v'' := by
  rcases h' with h' | ⟨g, hg, h'⟩
  · rcases h with h | ⟨g, hg, h⟩
    · exact .inl (h'.trans h)
    · exact .inr ⟨g, hg, h'.trans h⟩
  · exact .inr ⟨g, Nat.le_trans hs hg, h'⟩
/-- What others had stays apart from a heap that grew. -/
theorem InH.old (h : Grew w v v') {k : Nat} (hk : InH hb v' k) (hlt : k < w.heap.size) : InH hb v k := by
  rcases hk with hk | hk
  · exact .inl hk
  · rcases h with h | ⟨g, hg, h⟩
    · exact .inr (h ▸ hk)
    · rw [h] at hk
      injection hk with hk
      omega
theorem cellsH_len (hF : ∀ r : α, (enc r).length = F) (l : List α) : (cellsH enc l).length = l.length * F := by rw [cellsH, List.length_map, flat_len l (fun r _ => hF r)]
/-- A shorter row. -/
theorem own_less {base n m c : Nat} {A : Option Addr} {xs : List Value} (h : w.ownsRow base e F (.slice A n c) n xs) (hm : m ≤ n) (hn : 0 < n) : w.ownsRow base e F (.slice A m c) m (xs.take (m * F)) := by
  rcases h.2 with ⟨h1, h2⟩ | ⟨g, cap, cur, hv, hg, hc, hnc, hcm, hcs, ht⟩
  · omega
  · simp only [Value.slice.injEq] at hv
    obtain ⟨rfl, _, rfl⟩ := hv
    have hl := h.1
    refine ⟨by rw [List.length_take, hl]; exact Nat.min_eq_left (Nat.mul_le_mul_right _ hm), .inr ⟨g, c, cur, rfl, hg, hc, by omega, hcm, hcs, ?_⟩⟩
    rw [← ht, List.take_take, Nat.min_eq_left (Nat.mul_le_mul_right _ hm)]
theorem cellsH_take (hF : ∀ r : α, (enc r).length = F) (l : List α) (m : Nat) (hm : m ≤ l.length) : (cellsH enc l).take (m * F) = cellsH enc (l.take m) := by
  have h1 : cellsH enc l = cellsH enc (l.take m) ++ cellsH enc (l.drop m) := by
    unfold cellsH
    rw [← List.map_append, ← List.flatMap_append, List.take_append_drop]
  have h2 : (cellsH enc (l.take m)).length = m * F := by rw [cellsH_len hF, List.length_take, Nat.min_eq_left hm]
  rw [h1, List.take_append_of_le_length (by omega), List.take_of_length_le (by omega)]
end
theorem cellsH_one (l : List Int) : cellsH one l = l.map (Value.int .i64) := by rw [cellsH, flat_one]
theorem cellsH_one_set (l : List Int) (i : Nat) (x : Int) : (cellsH one l).set i (.int .i64 x) = cellsH one (l.set i x) := by rw [cellsH_one, cellsH_one, List.map_set]
theorem cellsH_one_snoc (l : List Int) (x : Int) : cellsH one l ++ [.int .i64 x] = cellsH one (l ++ [x]) := by rw [cellsH_one, cellsH_one, List.map_append]; rfl
end Go.Proofs.Ytgaonfeljijebaa
