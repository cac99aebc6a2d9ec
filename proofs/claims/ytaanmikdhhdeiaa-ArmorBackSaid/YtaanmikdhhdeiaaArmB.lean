/-
  A slice of numbers of one kind that reads as a list, and an owned row of such. Said of no program. No conditions.
-/
import Derived.Test.YtaanmikdhhdeiaaOwn
import Derived.Test.YtaanmikdhhdeiaaArmQ
import Derived.IntWalk
namespace Go.Proofs.Ytaanmikdhhdeiaa
open Go.ChangeShapes Go.WideShapes Go.ChangeAt Go.RowKit Go.Deep
set_option linter.unusedVariables false

/-- Numbers as values of a kind. -/
def ints (k : IntKind) (l : List Nat) : List Value := l.map fun (x : Nat) => .int k (x : Int)
theorem ints_len (k : IntKind) (l : List Nat) : (ints k l).length = l.length := List.length_map ..
theorem ints_app (k : IntKind) (a b : List Nat) : ints k (a ++ b) = ints k a ++ ints k b := List.map_append ..
/-- The slice at 'A', of 'n' elements of kind k, reads as the list 'l'. -/
def RdK (k : IntKind) (w : World) (A : Option Addr) (n : Nat) (l : List Nat) : Prop :=
  n = l.length ∧ ∀ (i x : Nat), l[i]? = some x → ∃ b off, A = some ⟨b, off, none⟩ ∧ b < w.heap.size ∧ w.cell? ⟨b, off + i, none⟩ = some (.int k (x : Int))
section
variable {k : IntKind} {w w' : World} {A : Option Addr} {n : Nat} {l : List Nat}
theorem RdK.nil (k : IntKind) (w : World) (A : Option Addr) : RdK k w A 0 [] := ⟨rfl, fun i x h => by simp at h⟩
theorem RdK.below {B : Nat} (h : RdK k w A n l) (hb : Below B w w') (hB : w.heap.size ≤ B) : RdK k w' A n l :=
  ⟨h.1, fun i x hx => by
    obtain ⟨b, off, hA, hlt, hc⟩ := h.2 i x hx
    exact ⟨b, off, hA, Nat.lt_of_lt_of_le hlt hb.size, (hb.cell (p := ⟨b, _, none⟩) (Nat.lt_of_lt_of_le hlt hB)).trans hc⟩⟩
theorem RdK.alloc (h : RdK k w A n l) (o : Obj) : RdK k (w.alloc o) A n l := h.below ((Below.refl w.heap.size w).alloc (Nat.le_refl _) o) (Nat.le_refl _)
theorem RdK.drewN (h : RdK k w A n l) (m : Nat) : RdK k (w.drewN m) A n l := h
theorem RdK.at (h : RdK k w A n l) {i : Nat} (hi : i < n) : ∃ x b off, A = some ⟨b, off, none⟩ ∧ Hid (l[i]? = some x) ∧ w.cell? ⟨b, off + i, none⟩ = some (.int k (x : Int)) := by
  obtain ⟨hn, h⟩ := h
  have e : l[i]? = some (l[i]'(by omega)) := List.getElem?_eq_getElem (by omega)
  obtain ⟨b, off, hA, _, hc⟩ := h i _ e
  exact ⟨_, b, off, hA, e, hc⟩
/-- The first m of it. -/
theorem RdK.take (h : RdK k w A n l) {m : Nat} (hm : m ≤ n) : RdK k w A m (l.take m) :=
  ⟨by rw [List.length_take, ← h.1]; omega, fun i x hx => h.2 i x (by rw [List.getElem?_take] at hx; split at hx <;> simp_all)⟩
/-- What lies behind the first m of it. -/
theorem RdK.drop {b off : Nat} (h : RdK k w (some ⟨b, off, none⟩) n l) {m : Nat} (hm : m ≤ n) : RdK k w (some ⟨b, off + m, none⟩) (n - m) (l.drop m) :=
  ⟨by rw [List.length_drop, ← h.1], fun i x hx => by
    rw [List.getElem?_drop] at hx
    obtain ⟨b', off', hA, hlt, hc⟩ := h.2 _ x hx
    cases hA
    exact ⟨b, off + m, rfl, hlt, by rw [Nat.add_assoc]; exact hc⟩⟩
/-- A row that a call owns. -/
theorem RdK.own {base : Nat} {e : TypeId} {v : Value} (h : w.ownsRow base e 1 v n (ints k l)) : ∃ A c, v = .slice A n c ∧ RdK k w A n l ∧ n ≤ c ∧ c ≤ maxLen := by
  have hl : l.length = n := by have := h.1; rw [ints_len] at this; omega
  rcases h.2 with ⟨rfl, h0⟩ | ⟨g, cap, cur, rfl, _, hg, hnc, hcm, _⟩
  · have hz : l = [] := by
      exact List.eq_nil_of_length_eq_zero (by omega)
    subst hz
    obtain rfl : n = 0 := hl.symm
    exact ⟨none, 0, rfl, RdK.nil _ _ _, Nat.le_refl _, Nat.zero_le _⟩
  · refine ⟨_, cap, rfl, ⟨hl.symm, fun i x hx => ⟨g, 0, rfl, (Array.getElem?_eq_some_iff.1 hg).1, ?_⟩⟩, hnc, hcm⟩
    have hlt := (List.getElem?_eq_some_iff.1 hx).1
    rw [Nat.zero_add, h.cellAt i (by omega)]
    unfold ints
    rw [List.getElem?_map, hx]
    rfl
end
/-- A call hands back these numbers, in a row of its own. -/
def GivesK (k : IntKind) (e : TypeId) (l : List Nat) (w : World) (en : Ending) (w' : World) : Prop :=
  ∃ v, en = .returned v ∧ w'.ownsRow w.heap.size e 1 v l.length (ints k l) ∧ Below w.heap.size w w'
end Go.Proofs.Ytaanmikdhhdeiaa
