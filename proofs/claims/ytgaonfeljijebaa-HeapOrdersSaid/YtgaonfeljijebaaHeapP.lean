/-
  Heaps, in plain words: sifting up and down, what comes first, rising numbers, and elements that are marked. No program in sight.
-/
namespace Go.Proofs.Ytgaonfeljijebaa
set_option linter.unusedVariables false

section
variable {α : Type} {key : α → Int} {l : List α}

/-- Element i's key. -/
def kAt (key : α → Int) (l : List α) (i : Nat) : Option Int := l[i]?.map key
/-- Element i comes no later than element j, as far as both are there. -/
def Le (key : α → Int) (l : List α) (i j : Nat) : Prop := ∀ x y, l[i]? = some x → l[j]? = some y → key x ≤ key y
/-- Each element comes no earlier than the one above it. -/
def IsHeap (key : α → Int) (l : List α) : Prop := ∀ j, 0 < j → Le key l ((j - 1) / 2) j
theorem heap_nil (key : α → Int) : IsHeap key [] := fun j _ x y h _ => by simp at h
/-- The first one comes no later than any other. -/
theorem heap_first (h : IsHeap key l) : ∀ j, Le key l 0 j := by
  intro j
  induction j using Nat.strongRecOn with
  | ind j ih =>
    intro x y hx hy
    rcases Nat.eq_zero_or_pos j with rfl | hj
    · rw [hx] at hy; cases hy; omega
    · have hlt := (List.getElem?_eq_some_iff.1 hy).1
      have hp : l[(j - 1) / 2]? = some (l[(j - 1) / 2]'(by omega)) := List.getElem?_eq_getElem (by omega)
      have h1 := ih ((j - 1) / 2) (by omega) x _ hx hp
      have h2 := h j hj _ y hp hy
      omega
/-- Two elements, exchanged. -/
def swap (l : List α) (i j : Nat) : List α :=
  match l[i]?, l[j]? with
  | some x, some y => (l.set i y).set j x
  | _, _ => l
theorem swap_is {i j : Nat} {x y : α} (hx : l[i]? = some x) (hy : l[j]? = some y) : swap l i j = (l.set i y).set j x := by unfold swap; rw [hx, hy]
theorem swap_len (l : List α) (i j : Nat) : (swap l i j).length = l.length := by
  unfold swap; split <;> simp
theorem swap_at {i j : Nat} {x y : α} (hx : l[i]? = some x) (hy : l[j]? = some y) (k : Nat) : (swap l i j)[k]? = if k = j then some x else if k = i then some y else l[k]? := by
  have hi := (List.getElem?_eq_some_iff.1 hx).1
  have hj := (List.getElem?_eq_some_iff.1 hy).1
  rw [swap_is hx hy]
  by_cases h1 : k = j
  · subst h1; rw [if_pos rfl, List.getElem?_set_self (by rw [List.length_set]; exact hj)]
  · rw [if_neg h1, List.getElem?_set_ne (fun e => h1 e.symm)]
    by_cases h2 : k = i
    · subst h2; rw [if_pos rfl, List.getElem?_set_self hi]
    · rw [if_neg h2, List.getElem?_set_ne (fun e => h2 e.symm)]
theorem perm_swap [DecidableEq α] {i j : Nat} {x y : α} (hx : l[i]? = some x) (hy : l[j]? = some y) : (swap l i j).Perm l := by
  rw [swap_is hx hy, List.perm_iff_count]
  intro a
  have hi := (List.getElem?_eq_some_iff.1 hx).1
  have hj := (List.getElem?_eq_some_iff.1 hy).1
  by_cases hij : i = j
  · subst hij
    rw [hx] at hy
    cases hy
    have e : (l.set i x).set i x = l := by
      have e2 : l[i]'hi = x := (List.getElem?_eq_some_iff.1 hx).2
      subst e2
      rw [List.set_set, List.set_getElem_self]
    rw [e]
  · rw [List.count_set (by rw [List.length_set]; exact hj), List.count_set hi, List.getElem_set_ne hij, (List.getElem?_eq_some_iff.1 hx).2, (List.getElem?_eq_some_iff.1 hy).2]
    have c1 : x = a → 0 < l.count a := fun e => List.count_pos_iff.2 (e ▸ List.mem_of_getElem? hx)
    by_cases e1 : x = a <;> by_cases e2 : y = a <;> simp [e1, e2]
    · have := c1 e1; omega
    · have := c1 e1; omega
/-- A heap, but for element i, which may come earlier than the one above it. -/
def UpAt (key : α → Int) (l : List α) (i : Nat) : Prop :=
  (∀ j, 0 < j → j ≠ i → Le key l ((j - 1) / 2) j) ∧ (0 < i → ∀ c, 0 < c → (c - 1) / 2 = i → Le key l ((i - 1) / 2) c)
theorem up_start (h : IsHeap key l) (x : α) : UpAt key (l ++ [x]) l.length := by
  refine ⟨fun j hj hne u v hu hv => ?_, fun _ c hc hcl u v hu hv => ?_⟩
  · have hlt := (List.getElem?_eq_some_iff.1 hv).1
    rw [List.length_append, List.length_singleton] at hlt
    have hj' : j < l.length := by omega
    rw [List.getElem?_append_left (by omega)] at hu
    rw [List.getElem?_append_left hj'] at hv
    exact h j hj u v hu hv
  · have hlt := (List.getElem?_eq_some_iff.1 hv).1
    rw [List.length_append, List.length_singleton] at hlt
    omega
theorem up_end {i : Nat} (h : UpAt key l i) (hi : i = 0 ∨ Le key l ((i - 1) / 2) i) : IsHeap key l := fun j hj => by
  by_cases e : j = i
  · subst e
    rcases hi with hi | hi
    · omega
    · exact hi
  · exact h.1 j hj e
theorem up_step {i : Nat} (h : UpAt key l i) (hi : 0 < i) {x y : α} (hx : l[i]? = some x) (hy : l[(i - 1) / 2]? = some y) (hlt : key x < key y) : UpAt key (swap l i ((i - 1) / 2)) ((i - 1) / 2) := by
  have hp : (i - 1) / 2 < i := by omega
  refine ⟨fun j hj hne u v hu hv => ?_, fun h0 c hc hcl u v hu hv => ?_⟩
  · rw [swap_at hx hy] at hu hv
    rw [if_neg hne] at hv
    by_cases e1 : j = i
    · subst e1
      rw [if_pos rfl] at hu hv
      cases hu; cases hv
      omega
    · rw [if_neg e1] at hv
      by_cases e2 : (j - 1) / 2 = (i - 1) / 2
      · rw [if_pos e2] at hu
        cases hu
        have := h.1 j hj e1 y v (by rw [e2]; exact hy) hv
        omega
      · rw [if_neg e2] at hu
        by_cases e3 : (j - 1) / 2 = i
        · rw [if_pos e3] at hu
          cases hu
          have := h.2 hi j hj e3 y v hy hv
          omega
        · rw [if_neg e3] at hu
          exact h.1 j hj e1 u v hu hv
  · rw [swap_at hx hy] at hu hv
    have n1 : ((i - 1) / 2 - 1) / 2 ≠ (i - 1) / 2 := by omega
    have n2 : ((i - 1) / 2 - 1) / 2 ≠ i := by omega
    rw [if_neg n1, if_neg n2] at hu
    have n3 : c ≠ (i - 1) / 2 := by omega
    rw [if_neg n3] at hv
    have h1 := h.1 ((i - 1) / 2) h0 (by omega) u y hu hy
    by_cases e1 : c = i
    · rw [if_pos e1] at hv
      cases hv
      exact h1
    · rw [if_neg e1] at hv
      have h2 := h.1 c hc e1 y v (by rw [hcl]; exact hy) hv
      omega
/-- A heap, but for element i, which may come later than those below it. -/
def DownAt (key : α → Int) (l : List α) (i : Nat) : Prop :=
  (∀ j, 0 < j → (j - 1) / 2 ≠ i → Le key l ((j - 1) / 2) j) ∧ (0 < i → ∀ c, 0 < c → (c - 1) / 2 = i → Le key l ((i - 1) / 2) c)
theorem down_start (h : IsHeap key l) (x : α) : DownAt key (l.set 0 x) 0 := by
  refine ⟨fun j hj hne u v hu hv => ?_, fun h0 => by omega⟩
  rw [List.getElem?_set_ne (by omega)] at hu hv
  exact h j hj u v hu hv
theorem down_end {i : Nat} (h : DownAt key l i) (h1 : Le key l i (2 * i + 1)) (h2 : Le key l i (2 * i + 2)) : IsHeap key l := fun j hj => by
  by_cases e : (j - 1) / 2 = i
  · rcases (show j = 2 * i + 1 ∨ j = 2 * i + 2 by omega) with rfl | rfl
    · rw [e]; exact h1
    · rw [e]; exact h2
  · exact h.1 j hj e
theorem down_step {i k : Nat} (h : DownAt key l i) (hk : k = 2 * i + 1 ∨ k = 2 * i + 2) {x y : α} (hx : l[i]? = some x) (hy : l[k]? = some y) (hlt : key y < key x) (ho : ∀ z c, (c = 2 * i + 1 ∨ c = 2 * i + 2) → l[c]? = some z → key y ≤ key z) : DownAt key (swap l i k) k := by
  refine ⟨fun j hj hne u v hu hv => ?_, fun h0 c hc hcl u v hu hv => ?_⟩
  · rw [swap_at hx hy] at hu hv
    rw [if_neg hne] at hu
    by_cases e1 : (j - 1) / 2 = i
    · rw [if_pos e1] at hu
      cases hu
      by_cases e2 : j = k
      · rw [if_pos e2] at hv
        cases hv
        omega
      · rw [if_neg e2, if_neg (by omega)] at hv
        exact ho v j (by omega) hv
    · rw [if_neg e1] at hu
      by_cases e2 : j = k
      · omega
      · rw [if_neg e2] at hv
        by_cases e3 : j = i
        · rw [if_pos e3] at hv
          cases hv
          exact h.2 (by omega) k (by omega) (by omega) u y (by rw [← e3]; exact hu) hy
        · rw [if_neg e3] at hv
          exact h.1 j hj e1 u v hu hv
  · rw [swap_at hx hy] at hu hv
    have n1 : (k - 1) / 2 = i := by omega
    rw [if_neg (by omega), if_pos n1] at hu
    cases hu
    rw [if_neg (by omega), if_neg (by omega)] at hv
    exact h.1 c hc (by omega) y v (by rw [hcl]; exact hy) hv
end

/-- Numbers that rise. -/
def Rises (l : List Int) : Prop := l.Pairwise (· ≤ ·)
/-- A number, put among rising ones. -/
def put (n : Int) : List Int → List Int
  | [] => [n]
  | a :: l => if n < a then n :: a :: l else a :: put n l
theorem put_perm (n : Int) : ∀ l, (put n l).Perm (n :: l)
  | [] => List.Perm.refl _
  | a :: l => by
    unfold put
    split
    · exact List.Perm.refl _
    · exact ((put_perm n l).cons a).trans (List.Perm.swap n a l)
theorem put_rises (n : Int) : ∀ l, Rises l → Rises (put n l)
  | [], _ => by simp [put, Rises]
  | a :: l, h => by
    have h' := List.pairwise_cons.1 h
    unfold put
    split
    · rename_i hlt
      refine List.pairwise_cons.2 ⟨fun x hx => ?_, h⟩
      rcases List.mem_cons.1 hx with rfl | hx
      · omega
      · have := h'.1 x hx; omega
    · refine List.pairwise_cons.2 ⟨fun x hx => ?_, put_rises n l h'.2⟩
      rcases List.mem_cons.1 ((put_perm n l).mem_iff.1 hx) with rfl | hx
      · omega
      · exact h'.1 x hx
/-- Rising numbers are told by how often each is there. -/
theorem rises_one : ∀ {a b : List Int}, Rises a → Rises b → a.Perm b → a = b
  | [], b, _, _, h => h.symm.eq_nil.symm ▸ rfl
  | x :: a, b, ha, hb, h => by
    match b, hb, h with
    | [], _, h => exact absurd h.length_eq (by simp)
    | y :: b, hb, h =>
      have ha' := List.pairwise_cons.1 ha
      have hb' := List.pairwise_cons.1 hb
      have hxy : x = y := by
        have h1 : x ∈ y :: b := h.mem_iff.1 (by simp)
        have h2 : y ∈ x :: a := h.mem_iff.2 (by simp)
        rcases List.mem_cons.1 h1 with h1 | h1
        · exact h1
        · rcases List.mem_cons.1 h2 with h2 | h2
          · exact h2.symm
          · have e1 := ha'.1 y h2
            have e2 := hb'.1 x h1
            omega
      subst hxy
      rw [rises_one ha'.2 hb'.2 h.cons_inv]
def sorted (l : List Int) : List Int := l.foldl (fun s n => put n s) []
theorem sorted_snoc (l : List Int) (n : Int) : sorted (l ++ [n]) = put n (sorted l) := by simp [sorted, List.foldl_append]
theorem sorted_rises (l : List Int) : Rises (sorted l) := by
  have : ∀ (l s : List Int), Rises s → Rises (l.foldl (fun s n => put n s) s) := by
    intro l
    induction l with
    | nil => intro s h; exact h
    | cons a l ih => intro s h; exact ih _ (put_rises a s h)
  exact this l [] List.Pairwise.nil
theorem sorted_perm (l : List Int) : (sorted l).Perm l := by
  have : ∀ (l s : List Int), (l.foldl (fun s n => put n s) s).Perm (s ++ l) := by
    intro l
    induction l with
    | nil => intro s; simp
    | cons a l ih =>
      intro s
      refine (ih _).trans ?_
      refine ((put_perm a s).append_right l).trans ?_
      exact List.perm_middle.symm
  have h := this l []
  rw [List.nil_append] at h
  exact h

/-- The elements of l that have no mark. -/
def unm {α : Type} : List α → List Bool → List α
  | x :: l, true :: m => unm l m
  | x :: l, false :: m => x :: unm l m
  | _, _ => []
section
variable {α : Type}
theorem unm_none : ∀ (l : List α), unm l (List.replicate l.length false) = l
  | [] => rfl
  | x :: l => by rw [List.length_cons, List.replicate_succ, unm, unm_none l]
theorem unm_mark : ∀ (l : List α) (m : List Bool) (k : Nat) (x : α), l[k]? = some x → m[k]? = some false → (unm l m).Perm (x :: unm l (m.set k true))
  | [], _, k, x, h, _ => by simp at h
  | _ :: _, [], k, x, _, h => by simp at h
  | y :: l, b :: m, 0, x, h, h' => by
    simp only [List.getElem?_cons_zero, Option.some.injEq] at h h'
    subst h h'
    exact List.Perm.refl _
  | y :: l, b :: m, k + 1, x, h, h' => by
    rw [List.getElem?_cons_succ] at h h'
    have ih := unm_mark l m k x h h'
    rw [List.set_cons_succ]
    cases b with
    | true => exact ih
    | false => exact (ih.cons y).trans (List.Perm.swap x y _)
theorem unm_mem : ∀ (l : List α) (m : List Bool) (x : α), x ∈ unm l m → ∃ k : Nat, l[k]? = some x ∧ m[k]? = some false
  | [], m, x, h => by cases m <;> simp [unm] at h
  | y :: l, [], x, h => by simp [unm] at h
  | y :: l, true :: m, x, h => by
    obtain ⟨k, h1, h2⟩ := unm_mem l m x h
    exact ⟨k + 1, by simpa using h1, by simpa using h2⟩
  | y :: l, false :: m, x, h => by
    rcases List.mem_cons.1 h with rfl | h
    · exact ⟨0, rfl, rfl⟩
    · obtain ⟨k, h1, h2⟩ := unm_mem l m x h
      exact ⟨k + 1, by simpa using h1, by simpa using h2⟩
end
/-- The first one that rises is the least of all. -/
theorem rises_head {a : Int} {l : List Int} (h : Rises (a :: l)) : ∀ x ∈ a :: l, a ≤ x := fun x hx => by
  rcases List.mem_cons.1 hx with rfl | hx
  · exact Int.le_refl _
  · exact (List.pairwise_cons.1 h).1 x hx
/-- What comes first of a heap is what comes first of the same numbers, rising. -/
theorem heap_head {l w : List Int} {x : Int} (hh : IsHeap id l) (hw : Rises w) (hp : l.Perm w) (hx : l[0]? = some x) : ∃ w', w = x :: w' := by
  match w, hw, hp with
  | [], _, hp => rw [hp.eq_nil] at hx; simp at hx
  | a :: w', hw, hp =>
    have h1 := rises_head hw x (hp.mem_iff.1 (List.mem_of_getElem? hx))
    have h2 : a ∈ l := hp.mem_iff.2 (by simp)
    obtain ⟨j, hj⟩ := List.mem_iff_getElem?.1 h2
    have h3 := heap_first hh j x a hx hj
    simp only [id] at h3
    exact ⟨w', by rw [show x = a by omega]⟩
theorem heap_least {α : Type} {key : α → Int} {l : List α} {x : α} (hh : IsHeap key l) (hx : l[0]? = some x) : ∀ y ∈ l, key x ≤ key y := fun y hy => by
  obtain ⟨j, hj⟩ := List.mem_iff_getElem?.1 hy
  exact heap_first hh j x y hx hj
theorem rises_snoc {l : List Int} {x : Int} (h : Rises l) (hx : ∀ y ∈ l, y ≤ x) : Rises (l ++ [x]) := by
  unfold Rises
  rw [List.pairwise_append]
  exact ⟨h, List.pairwise_singleton _ _, fun a ha b hb => by rw [List.mem_singleton.1 hb]; exact hx a ha⟩
theorem at_take {α : Type} {l : List α} {n i : Nat} {x : α} (h : (l.take n)[i]? = some x) : l[i]? = some x := by
  rw [List.getElem?_take] at h
  split at h
  · exact h
  · cases h
theorem down_take {α : Type} {key : α → Int} {l : List α} {i : Nat} (h : DownAt key l i) (n : Nat) : DownAt key (l.take n) i :=
  ⟨fun j hj hne x y hx hy => h.1 j hj hne x y (at_take hx) (at_take hy), fun h0 c hc hcl x y hx hy => h.2 h0 c hc hcl x y (at_take hx) (at_take hy)⟩
/-- The first one is taken out, the last one put in its place. -/
theorem pop_start {α : Type} {key : α → Int} {l : List α} {n : Nat} {x y : α} (h : IsHeap key l) (hx : l[0]? = some x) (hy : l[n]? = some y) (hn : l.length = n + 1) :
    DownAt key ((l.set 0 y).take n) 0 ∧ l.Perm (x :: (l.set 0 y).take n) := by
  refine ⟨down_take (down_start h y) n, ?_⟩
  match l, hx, hy, hn with
  | a :: t, hx, hy, hn =>
    simp only [List.getElem?_cons_zero, Option.some.injEq] at hx
    subst hx
    rw [List.set_cons_zero]
    rcases t.eq_nil_or_concat with rfl | ⟨t', z, rfl⟩
    · obtain rfl : n = 0 := by simpa using hn.symm
      exact List.Perm.refl _
    · rw [List.concat_eq_append] at hy hn ⊢
      have hn' : n = t'.length + 1 := by simp at hn; omega
      subst hn'
      rw [List.getElem?_cons_succ, List.getElem?_append_right (Nat.le_refl _), Nat.sub_self] at hy
      simp only [List.getElem?_cons_zero, Option.some.injEq] at hy
      subst hy
      rw [List.take_succ_cons, List.take_append_of_le_length (Nat.le_refl _), List.take_length]
      refine List.Perm.cons _ ?_
      have := List.perm_append_comm (l₁ := t') (l₂ := [z])
      exact this
end Go.Proofs.Ytgaonfeljijebaa
