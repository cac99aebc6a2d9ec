/-
  Which cells have been met: a row of bools that the call has made. No conditions but those said.
-/
import Derived.Test.YtgaonfeljijebaaGeoF
namespace Go.Proofs.Ytgaonfeljijebaa
open Go.ChangeShapes Go.WideShapes Go.ChangeAt Go.RowKit
set_option linter.unusedVariables false

theorem ring_far {i : Nat} {c : Int × Int} (hi : i < 12) (hc : c ∈ ringL i) : farC c = i := by
  have := fars
  rw [List.all_eq_true] at this
  have := this i (by simpa using hi)
  rw [List.all_eq_true] at this
  simpa using this c hc
theorem far_bd {c : Int × Int} {i : Int} (h : farC c = i) : -i ≤ c.1 ∧ c.1 ≤ i ∧ -i ≤ c.2 ∧ c.2 ≤ i := by
  unfold farC amt at h
  split at h <;> split at h <;> (try split at h) <;> (try split at h) <;> omega
/-- So many cells there are. -/
abbrev cellsN (k : Nat) : Nat := (2 * k + 1) * (2 * k + 1)
theorem place_int {k : Nat} {c : Int × Int} (h0 : -(k : Int) ≤ c.1) (h1 : c.1 ≤ k) (h2 : -(k : Int) ≤ c.2) (h3 : c.2 ≤ k) :
    0 ≤ (c.1 + k) * (2 * k + 1) ∧ (c.1 + k) * (2 * k + 1) ≤ 2 * k * (2 * k + 1) ∧ (place k c : Int) = (c.1 + k) * (2 * k + 1) + c.2 + k ∧ place k c < cellsN k := by
  have a0 : 0 ≤ (c.1 + k) * (2 * (k : Int) + 1) := Int.mul_nonneg (by omega) (by omega)
  have a1 : (c.1 + k) * (2 * (k : Int) + 1) ≤ 2 * k * (2 * k + 1) := Int.mul_le_mul_of_nonneg_right (by omega) (by omega)
  have hS : ((cellsN k : Nat) : Int) = 2 * k * (2 * k + 1) + (2 * k + 1) := by
    have : cellsN k = 2 * k * (2 * k + 1) + (2 * k + 1) := Nat.succ_mul _ _
    rw [this]; push_cast; rfl
  unfold place
  refine ⟨a0, a1, ?_, ?_⟩
  · omega
  · omega
theorem marks_at {k : Nat} (hk : k < 12) : marks (before k (k + 1)) 0 = some (2 ^ cellsN k - 1) := by
  have := all_marks
  rw [List.all_eq_true] at this
  simpa using this k (by simpa using hk)
theorem before_nodup {k : Nat} (hk : k < 12) : (before k (k + 1)).Nodup := (marks_some _ _ _ (marks_at hk)).1
theorem before_all {k p : Nat} (hk : k < 12) (hp : p < cellsN k) : p ∈ before k (k + 1) := by
  rcases (marks_some _ _ _ (marks_at hk)).2.2 p (by rw [Nat.testBit_two_pow_sub_one]; simpa using hp) with h | h
  · simp at h
  · exact h
theorem before_more (k i : Nat) : ∀ d, ∃ R, before k (i + d) = before k i ++ R
  | 0 => ⟨[], by simp⟩
  | d + 1 => by
    obtain ⟨R, h⟩ := before_more k i d
    exact ⟨R ++ (ringL (i + d)).map (place k), by rw [← Nat.add_assoc, before, h, List.append_assoc]⟩
theorem place_new {k i j : Nat} {c : Int × Int} (hk : k < 12) (hi : i ≤ k) (hc : (ringL i)[j]? = some c) : place k c ∉ before k i ++ ((ringL i).take j).map (place k) := by
  have hn := before_nodup hk
  obtain ⟨R, hR⟩ := before_more k (i + 1) (k - i)
  rw [show i + 1 + (k - i) = k + 1 by omega] at hR
  rw [hR] at hn
  have hn := (List.nodup_append.1 hn).1
  have hj := (List.getElem?_eq_some_iff.1 hc).1
  have hs : ringL i = (ringL i).take j ++ (c :: (ringL i).drop (j + 1)) := by
    conv => lhs; rw [← List.take_append_drop j (ringL i)]
    rw [List.drop_eq_getElem_cons hj]
    have : (ringL i)[j] = c := (List.getElem?_eq_some_iff.1 hc).2
    rw [this]
  rw [before, hs, List.map_append, ← List.append_assoc] at hn
  rw [hs]
  intro hm
  have hj' : ((ringL i).take j ++ c :: (ringL i).drop (j + 1)).take j = (ringL i).take j := by
    rw [List.take_append_of_le_length (by rw [List.length_take]; omega), List.take_take, Nat.min_self]
  rw [hj'] at hm
  exact (List.nodup_append.1 hn).2.2 _ hm _ (by simp) rfl
/-- Block g tells of each place whether it is in L. -/
def Met (k g : Nat) (L : List Nat) (w : World) : Prop := ∃ cs : Array Value, Bk w g 4 cs ∧ cs.size = cellsN k ∧ ∀ p, p < cellsN k → cs[p]? = some (.bool (decide (p ∈ L)))
section
variable {k g p : Nat} {L : List Nat} {w w' : World}
theorem Met.below (h : Met k g L w) (hb : Below w.heap.size w w') : Met k g L w' := by
  obtain ⟨cs, h1, h2, h3⟩ := h
  exact ⟨cs, h1.below hb h1.lt, h2, h3⟩
theorem Met.alloc (h : Met k g L w) (o : Obj) : Met k g L (w.alloc o) := h.below ((Below.refl _ _).alloc (Nat.le_refl _) o)
theorem Met.cell (h : Met k g L w) (hp : p < cellsN k) : w.cell? ⟨g, p, none⟩ = some (.bool (decide (p ∈ L))) := by
  obtain ⟨cs, h1, h2, h3⟩ := h
  rw [h1.cell p, h3 p hp]
theorem Met.free (h : Met k g L w) (p : Nat) : w.frozen? ⟨g, p, none⟩ = false := by
  obtain ⟨cs, h1, _, _⟩ := h
  exact h1.free p
theorem Met.put (h : Met k g L w) (hp : p < cellsN k) : Met k g (L ++ [p]) (w.setCell ⟨g, p, none⟩ (.bool true)) := by
  obtain ⟨cs, h1, h2, h3⟩ := h
  refine ⟨_, h1.put p _, by simpa using h2, fun q hq => ?_⟩
  rw [Array.getElem?_setIfInBounds]
  by_cases e : p = q
  · subst e
    rw [if_pos rfl, if_pos (by omega)]; simp
  · rw [if_neg e, h3 q hq]
    have : (q ∈ L ++ [p]) ↔ q ∈ L := by rw [List.mem_append, List.mem_singleton]; exact ⟨fun h => h.resolve_right (fun h => e h.symm), .inl⟩
    rw [decide_eq_decide.2 this]
end
theorem met_made {k : Nat} {w : World} {base g : Nat} (h : w.ownsRow base 4 1 (.slice (some ⟨g, 0, none⟩) (cellsN k) (cellsN k)) (cellsN k) (List.replicate (cellsN k) (.bool false))) : Met k g [] w := by
  rcases h.2 with ⟨h', _⟩ | ⟨g', cap, cur, hv, _, hg, hn, hc, hs, ht⟩
  · cases h'
  · injection hv with hv _ hcap
    injection hv with hv
    injection hv with hv
    subst hv hcap
    rw [Nat.mul_one] at hs ht
    have : cur.toList = List.replicate (cellsN k) (.bool false) := by rw [← ht, List.take_of_length_le (by simpa using Nat.le_of_eq hs)]
    refine ⟨cur, hg, hs, fun p hp => ?_⟩
    rw [← Array.getElem?_toList, this, List.getElem?_replicate, if_pos hp]; simp
end Go.Proofs.Ytgaonfeljijebaa
