/-
  Bands in plain words: which are right (bandB), what a way costs (bPrice), the steps (bSteps). No program in sight.
-/
import Derived.Test.YtceohmbjajhlcaaBase
import Derived.Lib.SlicesCompact
namespace Go.Proofs.Ytceohmbjajhlcaa
set_option linter.unusedVariables false

/-- The band ahead of band k. -/
def bAhead (l : List (Int × Int)) : Nat → Int × Int
  | 0 => (-1, 0)
  | j + 1 => l.getD j (0, 0)
def bOk (l : List (Int × Int)) (k : Nat) : Bool :=
  decide ((bAhead l k).1 < (l.getD k (0, 0)).1 ∧ (l.getD k (0, 0)).1 ≤ 4294967296 ∧ (bAhead l k).2 ≤ (l.getD k (0, 0)).2 ∧ (l.getD k (0, 0)).2 ≤ 16777216)
def bandB (l : List (Int × Int)) (over : Int) : Bool := decide (l.length ≤ 64) && (List.range l.length).all (bOk l) && decide ((bAhead l l.length).2 ≤ over ∧ over ≤ 16777216)

theorem bGetD_of {α : Type} {l : List α} {k : Nat} {x d : α} (h : l[k]? = some x) : l.getD k d = x := by rw [List.getD_eq_getElem?_getD, h]; rfl
theorem bOk_iff {l : List (Int × Int)} {k : Nat} {x y f s : Int} (h : l[k]? = some (x, y)) (ha : bAhead l k = (f, s)) : bOk l k = decide (f < x ∧ x ≤ 4294967296 ∧ s ≤ y ∧ y ≤ 16777216) := by
  simp [bOk, ha, h]
theorem bandB_bad {l : List (Int × Int)} {over : Int} {k : Nat} (hk : k < l.length) (h : bOk l k = false) : bandB l over = false := by
  have : (List.range l.length).all (bOk l) = false := by
    rw [List.all_eq_false]
    exact ⟨k, by simpa using hk, by simp [h]⟩
  simp [bandB, this]
/-- The first k bands are right. -/
def BUp (l : List (Int × Int)) (k : Nat) : Prop := ∀ j, j < k → bOk l j = true
theorem bUp_succ {l : List (Int × Int)} {k : Nat} (h : BUp l k) (h' : bOk l k = true) : BUp l (k + 1) := fun j hj => by
  rcases Nat.lt_or_ge j k with h1 | h1
  · exact h j h1
  · obtain rfl : j = k := by omega
    exact h'
theorem bandB_end {l : List (Int × Int)} {over : Int} (h : BUp l l.length) : bandB l over = (decide (l.length ≤ 64) && decide ((bAhead l l.length).2 ≤ over ∧ over ≤ 16777216)) := by
  have : (List.range l.length).all (bOk l) = true := by
    rw [List.all_eq_true]
    exact fun j hj => h j (by simpa using hj)
  simp [bandB, this]
theorem bandB_up {l : List (Int × Int)} {over : Int} (h : bandB l over = true) : BUp l l.length ∧ l.length ≤ 64 ∧ (bAhead l l.length).2 ≤ over ∧ over ≤ 16777216 := by
  simp only [bandB, Bool.and_eq_true, decide_eq_true_eq, List.all_eq_true] at h
  exact ⟨fun j hj => h.1.2 j (by simpa using hj), h.1.1, h.2.1, h.2.2⟩
theorem bAhead_succ {l : List (Int × Int)} {k : Nat} {r : Int × Int} (h : l[k]? = some r) : bAhead l (k + 1) = r := bGetD_of h
theorem bUp_bd {l : List (Int × Int)} : ∀ {k : Nat} {x y : Int}, BUp l (k + 1) → l[k]? = some (x, y) → 0 ≤ x ∧ x ≤ 4294967296 ∧ 0 ≤ y ∧ y ≤ 16777216
  | 0, x, y, h, hx => by
    have := h 0 (by omega)
    rw [bOk_iff hx rfl] at this
    simp at this; omega
  | k + 1, x, y, h, hx => by
    have hk : k < l.length := by have := (List.getElem?_eq_some_iff.1 hx).1; omega
    have h' := bUp_bd (k := k) (x := (l[k]).1) (y := (l[k]).2) (fun j hj => h j (by omega)) (List.getElem?_eq_getElem hk)
    have := h (k + 1) (by omega)
    rw [bOk_iff (f := (l[k]).1) (s := (l[k]).2) hx (bAhead_succ (List.getElem?_eq_getElem hk))] at this
    simp at this; omega
theorem bAhead_bd {l : List (Int × Int)} {k : Nat} {f s : Int} (h : BUp l k) (hk : k ≤ l.length) (ha : bAhead l k = (f, s)) : -1 ≤ f ∧ f ≤ 4294967296 ∧ 0 ≤ s ∧ s ≤ 16777216 := by
  cases k with
  | zero => simp [bAhead] at ha; omega
  | succ j =>
    have hj : l[j]? = some (l[j]'(by omega)) := List.getElem?_eq_getElem (by omega)
    rw [bAhead_succ hj] at ha
    rw [ha] at hj
    have := bUp_bd h hj
    omega
theorem bUp_rise {l : List (Int × Int)} (h : BUp l l.length) : ∀ (d i : Nat) {x y x' y' : Int}, l[i]? = some (x, y) → l[i + d]? = some (x', y') → x + d ≤ x' ∧ y ≤ y'
  | 0, i, x, y, x', y', h1, h2 => by rw [Nat.add_zero, h1] at h2; simp at h2; omega
  | d + 1, i, x, y, x', y', h1, h2 => by
    have hl := (List.getElem?_eq_some_iff.1 h2).1
    have hm : l[i + d]? = some ((l[i + d]'(by omega)).1, (l[i + d]'(by omega)).2) := List.getElem?_eq_getElem (by omega)
    have h3 := bUp_rise h d i h1 hm
    have h4 := h (i + (d + 1)) hl
    rw [bOk_iff h2 (bAhead_succ (k := i + d) hm)] at h4
    simp at h4; omega

/-- What a way costs: the first band that is far enough, or over. -/
def bPrice (l : List (Int × Int)) (over far : Int) : Int := match l.find? (fun r => decide (far ≤ r.1)) with
  | some r => r.2
  | none => over
/-- No band ahead of i is far enough. -/
def Short (l : List (Int × Int)) (far : Int) (i : Nat) : Prop := ∀ (j : Nat) (r : Int × Int), j < i → l[j]? = some r → r.1 < far
theorem short_zero (l : List (Int × Int)) (far : Int) : Short l far 0 := fun j r h => absurd h (by omega)
theorem short_succ {l : List (Int × Int)} {far : Int} {i : Nat} {r : Int × Int} (h : Short l far i) (hr : l[i]? = some r) (hf : r.1 < far) : Short l far (i + 1) := fun j s hj hs => by
  rcases Nat.lt_or_ge j i with h1 | h1
  · exact h j s h1 hs
  · obtain rfl : j = i := by omega
    rw [hr] at hs; injection hs with hs; subst hs; exact hf
theorem bPrice_at {l : List (Int × Int)} {over far : Int} {i : Nat} {r : Int × Int} (h : Short l far i) (hr : l[i]? = some r) (hf : far ≤ r.1) : bPrice l over far = r.2 := by
  have : l.find? (fun r => decide (far ≤ r.1)) = some r := by
    rw [List.find?_eq_some_iff_getElem]
    obtain ⟨hi, e⟩ := List.getElem?_eq_some_iff.1 hr
    refine ⟨by simpa using hf, i, hi, e, fun j hj => ?_⟩
    have := h j _ hj (List.getElem?_eq_getElem (by omega))
    simp; omega
  rw [bPrice, this]
theorem bPrice_end {l : List (Int × Int)} {over far : Int} (h : Short l far l.length) : bPrice l over far = over := by
  have : l.find? (fun r => decide (far ≤ r.1)) = none := by
    rw [List.find?_eq_none]
    intro r hr
    obtain ⟨i, hi⟩ := List.mem_iff_getElem?.1 hr
    have := h i r (List.getElem?_eq_some_iff.1 hi).1 hi
    simp; omega
  rw [bPrice, this]
/-- Where the search by halves ends. -/
def IsFirst (l : List (Int × Int)) (far : Int) (i : Nat) : Prop := i ≤ l.length ∧ Short l far i ∧ ∀ r, l[i]? = some r → far ≤ r.1
theorem short_half {l : List (Int × Int)} {far : Int} {m : Nat} {x y : Int} (h : BUp l l.length) (hm : l[m]? = some (x, y)) (hf : x < far) : Short l far (m + 1) := fun j r hj hr => by
  obtain ⟨d, rfl⟩ : ∃ d, m = j + d := ⟨m - j, by omega⟩
  have := bUp_rise h d j (x := r.1) (y := r.2) hr hm
  omega
/-- There is always one. -/
theorem first_ex (l : List (Int × Int)) (far : Int) : ∀ k i, i + k = l.length → Short l far i → ∃ j, IsFirst l far j
  | 0, i, e, h => ⟨i, by omega, h, fun r hr => by have := (List.getElem?_eq_some_iff.1 hr).1; omega⟩
  | k + 1, i, e, h => by
    have hr : l[i]? = some (l[i]'(by omega)) := List.getElem?_eq_getElem (by omega)
    by_cases hf : far ≤ (l[i]'(by omega)).1
    · exact ⟨i, by omega, h, fun r hr' => by rw [hr] at hr'; injection hr' with hr'; rw [← hr']; exact hf⟩
    · exact first_ex l far k (i + 1) (by omega) (short_succ h hr (by omega))

/-- All prices, in a row. -/
def bAll (l : List (Int × Int)) (over : Int) : List Int := l.map (·.2) ++ if l.length = 0 ∨ (bAhead l l.length).1 < 4294967296 then [over] else []
def bSteps (l : List (Int × Int)) (over : Int) : List Int := Lib.compact (bAll l over)

theorem keeps_congr {d d' : Array Int} {j : Nat} (h : ∀ i, i ≤ j → d[i]! = d'[i]!) : Lib.keeps d j = Lib.keeps d' j := by
  unfold Lib.keeps
  rw [h j (Nat.le_refl _), h (j - 1) (by omega)]
theorem upTo_congr {d d' : Array Int} : ∀ m, (∀ i, i < m → d[i]! = d'[i]!) → Lib.compactUpTo d m = Lib.compactUpTo d' m
  | 0, _ => rfl
  | m + 1, h => by
    rw [Lib.compactUpTo_succ, Lib.compactUpTo_succ, upTo_congr m (fun i hi => h i (by omega)), keeps_congr (d' := d') (fun i hi => h i (by omega)), h m (by omega)]
theorem arr_at (zs : List Int) (i : Nat) : zs.toArray[i]! = zs.getD i 0 := by
  rw [List.getD_eq_getElem?_getD]
  rcases Nat.lt_or_ge i zs.length with h | h
  · rw [getElem!_pos _ _ (by simpa using h), List.getElem?_eq_getElem h]; simp
  · rw [getElem!_neg _ _ (by simp; omega), List.getElem?_eq_none h]; rfl
theorem compact_snoc (zs : List Int) (x : Int) : Lib.compact (zs ++ [x]) = Lib.compact zs ++ if zs.getLast? = some x then [] else [x] := by
  unfold Lib.compact
  rw [List.length_append, List.length_singleton, Lib.compactUpTo_succ, upTo_congr (d' := zs.toArray) zs.length (fun i hi => by
    rw [arr_at, arr_at, List.getD_eq_getElem?_getD, List.getD_eq_getElem?_getD, List.getElem?_append_left hi])]
  congr 1
  have e1 : (zs ++ [x]).toArray[zs.length]! = x := by rw [arr_at, List.getD_eq_getElem?_getD]; simp
  rw [e1, Lib.keeps, e1, arr_at]
  rcases Nat.eq_zero_or_pos zs.length with h0 | h0
  · obtain rfl : zs = [] := List.eq_nil_of_length_eq_zero h0
    simp
  · have e2 : (zs ++ [x]).getD (zs.length - 1) 0 = zs[zs.length - 1]'(by omega) := by
      rw [List.getD_eq_getElem?_getD, List.getElem?_append_left (by omega), List.getElem?_eq_getElem (by omega)]; rfl
    have e3 : zs.getLast? = some (zs[zs.length - 1]'(by omega)) := by rw [List.getLast?_eq_getElem?, List.getElem?_eq_getElem]
    rw [e2, e3]
    by_cases e : zs[zs.length - 1]'(by omega) = x
    · have hd : decide (zs.length = 0 ∨ x ≠ zs[zs.length - 1]'(by omega)) = false := by
        rw [decide_eq_false_iff_not]
        exact fun h => h.elim (by omega) (fun h => h e.symm)
      rw [hd, e]; simp
    · have hd : decide (zs.length = 0 ∨ x ≠ zs[zs.length - 1]'(by omega)) = true := by
        rw [decide_eq_true_iff]
        exact .inr fun h => e h.symm
      rw [hd]; simp [e]
theorem compact_nil : Lib.compact ([] : List Int) = [] := rfl
theorem compact_rises : ∀ (n : Nat) (zs : List Int), zs.length = n → zs.Pairwise (· ≤ ·) → (Lib.compact zs).Pairwise (· < ·) ∧ (∀ x, x ∈ Lib.compact zs ↔ x ∈ zs) ∧ (Lib.compact zs).getLast? = zs.getLast?
  | 0, zs, hn, _ => by
    obtain rfl : zs = [] := List.eq_nil_of_length_eq_zero hn
    rw [compact_nil]
    exact ⟨List.Pairwise.nil, fun _ => Iff.rfl, rfl⟩
  | n + 1, zs, hn, hs => by
    rcases List.eq_nil_or_concat zs with rfl | ⟨ys, x, rfl⟩
    · simp at hn
    · rw [List.concat_eq_append] at hn hs ⊢
      rw [List.length_append] at hn
      rw [List.pairwise_append] at hs
      obtain ⟨h1, h2, h3⟩ := compact_rises n ys (by simpa using hn) hs.1
      rw [compact_snoc]
      by_cases e : ys.getLast? = some x
      · rw [if_pos e, List.append_nil]
        refine ⟨h1, fun z => ?_, by rw [h3, e]; simp⟩
        rw [h2, List.mem_append, List.mem_singleton]
        refine ⟨.inl, fun h => h.elim id (fun h => ?_)⟩
        subst h
        exact List.mem_of_getLast? e
      · rw [if_neg e]
        refine ⟨?_, fun z => by rw [List.mem_append, h2, List.mem_append], by simp⟩
        rw [List.pairwise_append]
        refine ⟨h1, by simp, fun a ha b hb => ?_⟩
        simp at hb; subst hb
        have ha' := (h2 a).1 ha
        have hle := hs.2.2 a ha' b (by simp)
        rcases Int.lt_or_le a b with hlt | hge
        · exact hlt
        · obtain rfl : a = b := by omega
          exfalso
          -- the last of ys lies between a and b
          have hne : ys ≠ [] := by rintro rfl; simp at ha'
          have hl := List.getLast?_eq_some_getLast hne
          have h5 : a ≤ ys.getLast hne := by
            obtain ⟨i, hi, rfl⟩ := List.getElem_of_mem ha'
            rw [List.getLast_eq_getElem]
            rcases Nat.lt_or_ge i (ys.length - 1) with h6 | h6
            · exact List.pairwise_iff_getElem.1 hs.1 i (ys.length - 1) hi (by omega) h6
            · have : i = ys.length - 1 := by omega
              subst this; exact Int.le_refl _
          have h6 := hs.2.2 _ (List.getLast_mem hne) a (by simp)
          exact e (by rw [hl, show ys.getLast hne = a by omega])
end Go.Proofs.Ytceohmbjajhlcaa
