/-
  The check, the signs, and what a text is read as, in plain words; what is told is read, and one sign turned is told. No program in sight.
-/
import Derived.Test.YtaanmikdhhdeiaaArmP
namespace Go.Proofs.Ytaanmikdhhdeiaa
set_option linter.unusedVariables false

/-- The check of the first k fives. -/
def chkTo (f : List Nat) : Nat → Nat
  | 0 => 0
  | k + 1 => (chkTo f k + (k % 31 + 1) * f.getD k 0) % 31
/-- The check of fives. -/
def chk (f : List Nat) : Nat := chkTo f f.length
theorem chkTo_lt (f : List Nat) : ∀ k, chkTo f k < 31
  | 0 => by simp [chkTo]
  | k + 1 => Nat.mod_lt _ (by omega)
theorem chk_lt (f : List Nat) : chk f < 31 := chkTo_lt f _
theorem chk_ref (f : List Nat) (k x : Nat) (h : f[k]? = some x) : (chkTo f k + (k + 1) % 31 * x) % 31 = chkTo f (k + 1) := by
  rw [chkTo, List.getD_eq_getElem?_getD, h, Option.getD_some]
  rcases Nat.lt_or_ge (k % 31) 30 with h1 | h1
  · rw [show (k + 1) % 31 = k % 31 + 1 by omega]
  · rw [show (k + 1) % 31 = 0 by omega, show k % 31 + 1 = 31 by omega, Nat.zero_mul, Nat.add_zero, Nat.add_mul_mod_self_left]
theorem chk_go (f : List Nat) (k x : Nat) (h : f[k]? = some x) : (chkTo f k + (k % 31 + 1) * x) % 31 = chkTo f (k + 1) := by
  rw [chkTo, List.getD_eq_getElem?_getD, h, Option.getD_some]
theorem chkTo_same {f g : List Nat} : ∀ k, (∀ j, j < k → f.getD j 0 = g.getD j 0) → chkTo f k = chkTo g k
  | 0, _ => rfl
  | k + 1, h => by rw [chkTo, chkTo, chkTo_same k (fun j hj => h j (by omega)), h k (by omega)]
def weighB (a x y : Nat) : Bool := !(decide (0 < a) && a * x % 31 == a * y % 31) || x == y || (x == 0 && y == 31) || (x == 31 && y == 0)
theorem weighAll : ((List.range 31).all fun a => (List.range 32).all fun x => (List.range 32).all fun y => weighB a x y) = true := by decide +kernel
theorem weights {a x y : Nat} (ha : a < 31) (h0 : 0 < a) (hx : x < 32) (hy : y < 32) (h : a * x % 31 = a * y % 31) : x = y ∨ (x = 0 ∧ y = 31) ∨ (x = 31 ∧ y = 0) := by
  have h1 := List.all_eq_true.1 (List.all_eq_true.1 (List.all_eq_true.1 weighAll a (List.mem_range.2 ha)) x (List.mem_range.2 hx)) y (List.mem_range.2 hy)
  unfold weighB at h1
  simp [h0, h] at h1
  rcases h1 with (h1 | h1) | h1
  · exact .inl h1
  · exact .inr (.inl h1)
  · exact .inr (.inr h1)
/-- Two lists of fives that part at one place with a weight are told by their checks, but for 0 and 31. -/
theorem chk_tells {f : List Nat} {i x y : Nat} (hi : i < 30) (hx : f[i]? = some x) (hx32 : x < 32) (hy : y < 32) (hne : x ≠ y) (h1 : ¬(x = 0 ∧ y = 31)) (h2 : ¬(x = 31 ∧ y = 0)) : chk (f.set i y) ≠ chk f := by
  have hlt := (List.getElem?_eq_some_iff.1 hx).1
  have key : ∀ k, i < k → (chkTo (f.set i y) k + (i % 31 + 1) * x) % 31 = (chkTo f k + (i % 31 + 1) * y) % 31 := by
    intro k
    induction k with
    | zero => intro h; omega
    | succ k ih =>
      intro h
      by_cases e : i = k
      · subst e
        have e1 : chkTo (f.set i y) i = chkTo f i := chkTo_same i (fun j hj => by rw [List.getD_eq_getElem?_getD, List.getElem?_set_ne (by omega), ← List.getD_eq_getElem?_getD])
        rw [chkTo, chkTo, e1, List.getD_eq_getElem?_getD, List.getElem?_set_self hlt, List.getD_eq_getElem?_getD, hx, Option.getD_some, Option.getD_some]
        omega
      · have hk := ih (by omega)
        rw [chkTo, chkTo, List.getD_eq_getElem?_getD, List.getElem?_set_ne (by omega), ← List.getD_eq_getElem?_getD]
        omega
  have hk := key f.length hlt
  intro hc
  unfold chk at hc
  rw [List.length_set] at hc
  rw [hc] at hk
  have ha : (i % 31 + 1) * x % 31 = (i % 31 + 1) * y % 31 := by omega
  rcases weights (a := i % 31 + 1) (by omega) (by omega) hx32 hy ha with h | h | h
  · exact hne h
  · exact h1 h
  · exact h2 h

/-- The signs, as ASCII bytes. -/
def signs : List Nat := [48, 49, 50, 51, 52, 53, 54, 55, 56, 57, 65, 66, 67, 68, 69, 70, 71, 72, 74, 75, 77, 78, 80, 81, 82, 83, 84, 86, 87, 88, 89, 90]
/-- A small letter's great one. -/
def up (c : Nat) : Nat := if 97 ≤ c ∧ c ≤ 122 then c - 32 else c
/-- What is read for another sign. -/
def alike (c : Nat) : Nat := if c = 79 then 48 else if c = 73 ∨ c = 76 then 49 else c
/-- What a sign is read as; 32 or more: none. -/
def five (c : Nat) : Nat := signs.findIdx (· == alike (up c))
theorem five_of : ∀ x, x < 32 → five (signs.getD x 0) = x := by decide
theorem signs_lt : ∀ x, x < 32 → 48 ≤ signs.getD x 0 ∧ signs.getD x 0 ≤ 90 := by decide
/-- A great letter's small one. -/
def low (c : Nat) : Nat := if 65 ≤ c ∧ c ≤ 90 then c + 32 else c
theorem five_low : ∀ x, x < 32 → five (low (signs.getD x 0)) = x := by decide
theorem low_lt : ∀ x, x < 32 → 48 ≤ low (signs.getD x 0) ∧ low (signs.getD x 0) ≤ 122 := by decide
/-- The text of the first k fives. -/
def textTo (f : List Nat) : Nat → List Nat
  | 0 => []
  | k + 1 => textTo f k ++ (if 0 < k ∧ k % 4 = 0 then [45] else []) ++ [signs.getD (f.getD k 0) 0]
/-- The text of bytes. -/
def textOf (b : List Nat) : List Nat := let f := fivesOf b ++ [chk (fivesOf b)]; textTo f f.length
/-- The fives that are read in signs. -/
def readOf (s : List Nat) : List Nat := (s.filter (· != 45)).map five
theorem readOf_app (a b : List Nat) : readOf (a ++ b) = readOf a ++ readOf b := by simp [readOf]
theorem readOf_text {f : List Nat} (h : ∀ x ∈ f, x < 32) : ∀ k, k ≤ f.length → readOf (textTo f k) = f.take k
  | 0, _ => rfl
  | k + 1, hk => by
    have e : f[k]? = some (f[k]'(by omega)) := List.getElem?_eq_getElem (by omega)
    have hx : f[k]'(by omega) < 32 := h _ (List.getElem_mem _)
    have eg : f.getD k 0 = f[k]'(by omega) := by rw [List.getD_eq_getElem?_getD, e, Option.getD_some]
    have h1 := five_of _ hx
    have h2 := (signs_lt _ hx).1
    rw [textTo, readOf_app, readOf_app, readOf_text h k (by omega), eg, List.take_add_one, e, Option.toList_some]
    have e1 : readOf (if 0 < k ∧ k % 4 = 0 then [45] else []) = [] := by split <;> rfl
    rw [e1, List.append_nil]
    congr 1
    unfold readOf
    rw [List.filter_cons, if_pos (bne_iff_ne.2 (by omega)), List.filter_nil, List.map_singleton, h1]
/-- What a text is read as: the bytes, the place, the error. -/
def bytesOf (s : List Nat) : List Nat × Nat × Nat :=
  match s.findIdx? (fun c => c != 45 && decide (32 ≤ five c)) with
  | some i => ([], i + 1, 11)
  | none =>
    let f := readOf s
    if f = [] then ([], 0, 10)
    else
      let n := f.length - 1
      if chk (f.take n) ≠ f.getD n 0 then ([], 0, 12)
      else
        let l := bitsL 5 (f.take n)
        if val (restOf 8 l) ≠ 0 ∨ 5 ≤ (restOf 8 l).length then ([], 0, 13) else (numsOf 8 l, 0, 0)
/-- A text of good signs is read so. -/
theorem bytes_good {s : List Nat} {f : List Nat} (hg : ∀ c ∈ s, c = 45 ∨ five c < 32) (hr : readOf s = f ++ [chk f]) :
    bytesOf s = if val (restOf 8 (bitsL 5 f)) ≠ 0 ∨ 5 ≤ (restOf 8 (bitsL 5 f)).length then ([], 0, 13) else (numsOf 8 (bitsL 5 f), 0, 0) := by
  have hn : s.findIdx? (fun c => c != 45 && decide (32 ≤ five c)) = none := by
    rw [List.findIdx?_eq_none_iff]
    intro c hc
    rcases hg c hc with rfl | h
    · rfl
    · simp; omega
  unfold bytesOf
  rw [hn]
  simp only [hr]
  rw [if_neg (by simp)]
  have e1 : (f ++ [chk f]).length - 1 = f.length := by simp
  rw [e1, List.take_append_of_le_length (Nat.le_refl _), List.take_length]
  have e2 : (f ++ [chk f]).getD f.length 0 = chk f := by simp [List.getD_eq_getElem?_getD]
  rw [e2, if_neg (by simp)]
/-- A text whose last five is not the check is not read. -/
theorem bytes_sum {s : List Nat} {f : List Nat} {c : Nat} (hg : ∀ c ∈ s, c = 45 ∨ five c < 32) (hr : readOf s = f ++ [c]) (hc : chk f ≠ c) : bytesOf s = ([], 0, 12) := by
  have hn : s.findIdx? (fun c => c != 45 && decide (32 ≤ five c)) = none := by
    rw [List.findIdx?_eq_none_iff]
    intro c hc
    rcases hg c hc with rfl | h
    · rfl
    · simp; omega
  unfold bytesOf
  rw [hn]
  simp only [hr]
  rw [if_neg (by simp)]
  have e1 : (f ++ [c]).length - 1 = f.length := by simp
  rw [e1, List.take_append_of_le_length (Nat.le_refl _), List.take_length]
  have e2 : (f ++ [c]).getD f.length 0 = c := by simp [List.getD_eq_getElem?_getD]
  rw [e2, if_pos hc]
theorem text_good {f : List Nat} (h : ∀ x ∈ f, x < 32) : ∀ k, k ≤ f.length → ∀ c ∈ textTo f k, c = 45 ∨ (48 ≤ c ∧ c ≤ 90 ∧ five c < 32)
  | 0, _, c, hc => by simp [textTo] at hc
  | k + 1, hk, c, hc => by
    have e : f[k]? = some (f[k]'(by omega)) := List.getElem?_eq_getElem (by omega)
    have hx : f[k]'(by omega) < 32 := h _ (List.getElem_mem _)
    have eg : f.getD k 0 = f[k]'(by omega) := by rw [List.getD_eq_getElem?_getD, e, Option.getD_some]
    have h1 := five_of _ hx
    have h2 := signs_lt _ hx
    rw [textTo, eg] at hc
    rcases List.mem_append.1 hc with hc | hc
    · rcases List.mem_append.1 hc with hc | hc
      · exact text_good h k (by omega) c hc
      · split at hc
        · exact .inl (List.mem_singleton.1 hc)
        · simp at hc
    · rw [List.mem_singleton.1 hc]
      exact .inr ⟨h2.1, h2.2, by rw [h1]; exact hx⟩
/-- A text in small letters, without the strokes. -/
def smallOf (s : List Nat) : List Nat := (s.filter (· != 45)).map low
theorem smallOf_app (a b : List Nat) : smallOf (a ++ b) = smallOf a ++ smallOf b := by simp [smallOf]
theorem small_text {f : List Nat} (h : ∀ x ∈ f, x < 32) : ∀ k, k ≤ f.length → smallOf (textTo f k) = (f.take k).map (fun x => low (signs.getD x 0))
  | 0, _ => rfl
  | k + 1, hk => by
    have e : f[k]? = some (f[k]'(by omega)) := List.getElem?_eq_getElem (by omega)
    have hx : f[k]'(by omega) < 32 := h _ (List.getElem_mem _)
    have eg : f.getD k 0 = f[k]'(by omega) := by rw [List.getD_eq_getElem?_getD, e, Option.getD_some]
    have h2 := (signs_lt _ hx).1
    rw [textTo, smallOf_app, smallOf_app, small_text h k (by omega), eg, List.take_add_one, e, Option.toList_some, List.map_append]
    have e1 : smallOf (if 0 < k ∧ k % 4 = 0 then [45] else []) = [] := by split <;> rfl
    rw [e1, List.append_nil]
    congr 1
    unfold smallOf
    rw [List.filter_cons, if_pos (bne_iff_ne.2 (by omega)), List.filter_nil, List.map_singleton, List.map_singleton]
theorem read_small {f : List Nat} (h : ∀ x ∈ f, x < 32) : readOf (f.map (fun x => low (signs.getD x 0))) = f := by
  induction f with
  | nil => rfl
  | cons a f ih =>
    have ha := h a (by simp)
    have h1 := five_low a ha
    have h2 := (low_lt a ha).1
    rw [show List.map (fun x => low (signs.getD x 0)) (a :: f) = [low (signs.getD a 0)] ++ f.map (fun x => low (signs.getD x 0)) from rfl, readOf_app, ih (fun x hx => h x (by simp [hx]))]
    unfold readOf
    rw [List.filter_cons, if_pos (bne_iff_ne.2 (by omega)), List.filter_nil, List.map_singleton, h1]
    rfl
theorem small_good {f : List Nat} (h : ∀ x ∈ f, x < 32) : ∀ c ∈ f.map (fun x => low (signs.getD x 0)), c = 45 ∨ five c < 32 := fun c hc => by
  obtain ⟨x, hx, rfl⟩ := List.mem_map.1 hc
  have hx' := h x hx
  exact .inr (by rw [five_low x hx']; exact hx')
/-- Bytes, told and read. -/
theorem all_lt (b : List Nat) : ∀ x ∈ fivesOf b ++ [chk (fivesOf b)], x < 32 := fun x hx => by
  rcases List.mem_append.1 hx with hx | hx
  · exact fivesOf_lt b x hx
  · rw [List.mem_singleton.1 hx]; have := chk_lt (fivesOf b); omega
theorem bytes_fives {b : List Nat} (h : ∀ x ∈ b, x < 256) {s : List Nat} (hg : ∀ c ∈ s, c = 45 ∨ five c < 32) (hr : readOf s = fivesOf b ++ [chk (fivesOf b)]) : bytesOf s = (b, 0, 0) := by
  obtain ⟨h1, h2⟩ := fives_back h
  rw [bytes_good hg hr, h1, h2, val_zeros, List.length_replicate, if_neg]
  have h4 : (5 - 8 * b.length % 5) % 5 < 5 := Nat.mod_lt _ (by omega)
  omega
theorem bytes_text {b : List Nat} (h : ∀ x ∈ b, x < 256) : bytesOf (textOf b) = (b, 0, 0) := by
  refine bytes_fives h (fun c hc => ?_) ?_
  · rcases text_good (all_lt b) _ (Nat.le_refl _) c hc with h | h
    · exact .inl h
    · exact .inr h.2.2
  · exact (readOf_text (all_lt b) _ (Nat.le_refl _)).trans (List.take_length)
/-- The small text of bytes. -/
def smallB (b : List Nat) : List Nat := (fivesOf b ++ [chk (fivesOf b)]).map (fun x => low (signs.getD x 0))
theorem small_is (b : List Nat) : smallOf (textOf b) = smallB b := (small_text (all_lt b) _ (Nat.le_refl _)).trans (by rw [List.take_length]; rfl)
theorem smallB_len (b : List Nat) : (smallB b).length = (8 * b.length + 4) / 5 + 1 := by
  unfold smallB
  rw [List.length_map, List.length_append, fivesOf_len]
  rfl
theorem bytes_small {b : List Nat} (h : ∀ x ∈ b, x < 256) : bytesOf (smallB b) = (b, 0, 0) := bytes_fives h (small_good (all_lt b)) (read_small (all_lt b))
/-- One sign turned: it is told. -/
theorem bytes_turned {b : List Nat} {i x y : Nat} (hl : (smallB b).length ≤ 30) (hi : (fivesOf b ++ [chk (fivesOf b)])[i]? = some x) (hy : y < 32) (hne : x ≠ y) (h1 : ¬(x = 0 ∧ y = 31)) (h2 : ¬(x = 31 ∧ y = 0)) :
    bytesOf ((smallB b).set i (low (signs.getD y 0))) = ([], 0, 12) := by
  have hlt := (List.getElem?_eq_some_iff.1 hi).1
  have hx32 : x < 32 := all_lt b x (List.mem_of_getElem? hi)
  have e : (smallB b).set i (low (signs.getD y 0)) = ((fivesOf b ++ [chk (fivesOf b)]).set i y).map (fun x => low (signs.getD x 0)) := by unfold smallB; rw [List.map_set]
  have hall : ∀ z ∈ (fivesOf b ++ [chk (fivesOf b)]).set i y, z < 32 := fun z hz => by
    rcases List.mem_or_eq_of_mem_set hz with hz | rfl
    · exact all_lt b z hz
    · exact hy
  have hlen : (fivesOf b).length + 1 ≤ 30 := by
    unfold smallB at hl
    simpa using hl
  rw [List.length_append, List.length_singleton] at hlt
  rw [e]
  by_cases hc : i < (fivesOf b).length
  · have e2 : (fivesOf b ++ [chk (fivesOf b)]).set i y = (fivesOf b).set i y ++ [chk (fivesOf b)] := List.set_append_left _ _ hc
    rw [e2] at hall ⊢
    refine bytes_sum (small_good hall) (read_small hall) ?_
    rw [List.getElem?_append_left hc] at hi
    exact chk_tells (by omega) hi hx32 hy hne h1 h2
  · have ei : i = (fivesOf b).length := by omega
    subst ei
    have e2 : (fivesOf b ++ [chk (fivesOf b)]).set (fivesOf b).length y = fivesOf b ++ [y] := by
      rw [List.set_append_right _ _ (Nat.le_refl _), Nat.sub_self]; rfl
    rw [e2] at hall ⊢
    refine bytes_sum (small_good hall) (read_small hall) ?_
    rw [List.getElem?_append_right (Nat.le_refl _), Nat.sub_self] at hi
    simp at hi
    rw [hi]; exact hne
end Go.Proofs.Ytaanmikdhhdeiaa
