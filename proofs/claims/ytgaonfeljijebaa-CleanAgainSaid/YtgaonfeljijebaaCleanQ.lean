/-
  Plain laws on what a filter keeps: what is kept is kept again, each can be reached from the one ahead, and the kept samples are met in their order. No program in sight.
-/
import Derived.Test.YtgaonfeljijebaaCleanA
namespace Go.Proofs.Ytgaonfeljijebaa
open Go.RowKit
set_option linter.unusedVariables false

theorem kd_ext (s g : Int) (l : List Run) (k : Nat) : ∀ d, ∃ R, (kd s g l (k + d)).1 = (kd s g l k).1 ++ R ∧ ∀ j ∈ R, k ≤ j ∧ j < k + d
  | 0 => ⟨[], by simp, by simp⟩
  | d + 1 => by
    obtain ⟨R, h1, h2⟩ := kd_ext s g l k d
    rcases h : okK s g l (kd s g l (k + d)).1 (k + d) with _ | _
    · exact ⟨R, by rw [← Nat.add_assoc, kd_no h]; exact h1, fun j hj => by have := h2 j hj; omega⟩
    · refine ⟨R ++ [k + d], by rw [← Nat.add_assoc, kd_yes h, h1, List.append_assoc], fun j hj => ?_⟩
      rw [List.mem_append, List.mem_singleton] at hj
      rcases hj with hj | rfl
      · have := h2 j hj; omega
      · omega
/-- From one place one can come to a later one. -/
def Link (s g : Int) (l : List Run) (a b : Nat) : Prop := a < b ∧ g ≤ (l.getD b (0, 0, 0)).1 - (l.getD a (0, 0, 0)).1 ∧ canB s g (l.getD a (0, 0, 0)) (l.getD b (0, 0, 0)) = true
theorem link_of {s g : Int} {l : List Run} {K : List Nat} {a k : Nat} (h : okK s g l K k = true) (hl : K.getLast? = some a) (hak : a < k) : Link s g l a k := by
  rw [okK, hl] at h
  have h : (decide (g ≤ (l.getD k (0, 0, 0)).1 - (l.getD a (0, 0, 0)).1) && canB s g (l.getD a (0, 0, 0)) (l.getD k (0, 0, 0))) = true := h
  rw [Bool.and_eq_true, decide_eq_true_iff] at h
  exact ⟨hak, h.1, h.2⟩
theorem kd_link (s g : Int) (l : List Run) : ∀ k i a b, (kd s g l k).1[i]? = some a → (kd s g l k).1[i + 1]? = some b → Link s g l a b
  | 0, i, a, b, h, _ => by simp [kd] at h
  | k + 1, i, a, b, ha, hb => by
    rcases h : okK s g l (kd s g l k).1 k with _ | _
    · rw [kd_no h] at ha hb
      exact kd_link s g l k i a b ha hb
    · rw [kd_yes h] at ha hb
      replace ha : ((kd s g l k).1 ++ [k])[i]? = some a := ha
      replace hb : ((kd s g l k).1 ++ [k])[i + 1]? = some b := hb
      rcases Nat.lt_or_ge (i + 1) (kd s g l k).1.length with h1 | h1
      · rw [List.getElem?_append_left h1] at hb
        rw [List.getElem?_append_left (by omega)] at ha
        exact kd_link s g l k i a b ha hb
      · have h2 : i + 1 < ((kd s g l k).1 ++ [k]).length := (List.getElem?_eq_some_iff.1 hb).1
        rw [List.length_append, List.length_singleton] at h2
        have h3 : i + 1 = (kd s g l k).1.length := by omega
        rw [List.getElem?_append_right h1, h3, Nat.sub_self] at hb
        obtain rfl : k = b := by simpa using hb
        rw [List.getElem?_append_left (by omega)] at ha
        refine link_of h ?_ ((kd_lt s g l k).1 a (mem_of_at ha))
        rw [List.getLast?_eq_getElem?, ← h3]
        exact ha
theorem pick_at {l : List Run} {K : List Nat} {i : Nat} {r : Run} (h : (pick l K)[i]? = some r) : ∃ a, K[i]? = some a ∧ l.getD a (0, 0, 0) = r := by
  rw [pick, List.getElem?_map] at h
  rcases hK : K[i]? with _ | a
  · rw [hK] at h; simp at h
  · rw [hK] at h
    exact ⟨a, rfl, by simpa using h⟩
theorem at_pick {l : List Run} {K : List Nat} {i a : Nat} (h : K[i]? = some a) : (pick l K)[i]? = some (l.getD a (0, 0, 0)) := by rw [pick, List.getElem?_map, h]; rfl
theorem good_inc {l : List Run} (h : Good l l.length) : ∀ d i, i + d + 1 < l.length → (l.getD i (0, 0, 0)).1 < (l.getD (i + d + 1) (0, 0, 0)).1
  | 0, i, hl => by
    obtain ⟨⟨t, x, y⟩, ha⟩ : ∃ a, l[i]? = some a := ⟨_, List.getElem?_eq_getElem (by omega)⟩
    obtain ⟨⟨t', x', y'⟩, hb⟩ : ∃ a, l[i + 1]? = some a := ⟨_, List.getElem?_eq_getElem (by omega)⟩
    have := h (i + 1) (by omega)
    rw [inTime_succ hb ha, Bool.and_eq_true, decide_eq_true_iff] at this
    rw [getD_is ha, Nat.add_zero, getD_is hb]
    exact this.2
  | d + 1, i, hl => by
    have h1 := good_inc h d i (by omega)
    have h2 := good_inc h 0 (i + d + 1) (by omega)
    exact Int.lt_trans h1 h2
theorem good_lt {l : List Run} (h : Good l l.length) {i j : Nat} (hij : i < j) (hj : j < l.length) : (l.getD i (0, 0, 0)).1 < (l.getD j (0, 0, 0)).1 := by
  have := good_inc h (j - i - 1) i (by omega)
  rwa [show i + (j - i - 1) + 1 = j by omega] at this
theorem errK_parts {s g : Int} {l : List Run} (h : errK s g l = 0) : fltB s g = true ∧ l.length ≤ 2048 ∧ Good l l.length := by
  have h1 := errK_len0 h
  rcases hf : fltB s g with _ | _
  · rw [errK_flt hf] at h; simp at h
  · refine ⟨rfl, h1, good_of ?_⟩
    rcases ht : traceB l with _ | _
    · rw [errK_bad hf (by omega) ht] at h; simp at h
    · rfl
theorem kept_pick {s g : Int} {l : List Run} (h : errK s g l = 0) : keptL s g l = pick l (kd s g l l.length).1 := by rw [keptL, if_pos h]; rfl
theorem kept_link {s g : Int} {l : List Run} (h : errK s g l = 0) {i : Nat} {a b : Run} (ha : (keptL s g l)[i]? = some a) (hb : (keptL s g l)[i + 1]? = some b) : canB s g a b = true ∧ g ≤ b.1 - a.1 ∧ a.1 < b.1 := by
  rw [kept_pick h] at ha hb
  obtain ⟨p, hp, rfl⟩ := pick_at ha
  obtain ⟨q, hq, rfl⟩ := pick_at hb
  obtain ⟨h1, h2, h3⟩ := kd_link s g l _ _ _ _ hp hq
  exact ⟨h3, h2, good_lt (errK_parts h).2.2 h1 ((kd_lt s g l _).1 q (mem_of_at hq))⟩
theorem kept_may {s g : Int} {l : List Run} (h : errK s g l = 0) {i : Nat} {x y z : Int} (ha : (keptL s g l)[i]? = some (x, y, z)) : mayB x y z = true := by
  rw [kept_pick h] at ha
  obtain ⟨p, hp, hr⟩ := pick_at ha
  have hlt := (kd_lt s g l _).1 p (mem_of_at hp)
  obtain ⟨r, hr'⟩ : ∃ r, l[p]? = some r := ⟨_, List.getElem?_eq_getElem hlt⟩
  rw [getD_is hr'] at hr
  subst hr
  exact may_of ((errK_parts h).2.2 p hlt) hr'
theorem kept_good {s g : Int} {l : List Run} (h : errK s g l = 0) : Good (keptL s g l) (keptL s g l).length := fun j hj => by
  obtain ⟨⟨x, y, z⟩, ha⟩ : ∃ a, (keptL s g l)[j]? = some a := ⟨_, List.getElem?_eq_getElem hj⟩
  have hm := kept_may h ha
  cases j with
  | zero => rw [inTime_zero ha, hm]
  | succ i =>
    obtain ⟨⟨x', y', z'⟩, hb⟩ : ∃ a, (keptL s g l)[i]? = some a := ⟨_, List.getElem?_eq_getElem (by omega)⟩
    rw [inTime_succ ha hb, hm]
    have := (kept_link h hb ha).2.2
    simpa using this
theorem again_err {s g : Int} {l : List Run} (h : errK s g l = 0) : errK s g (keptL s g l) = 0 :=
  errK_ok (errK_parts h).1 (by have := keptL_len s g l; omega) (traceB_good (kept_good h))
theorem again_kd {s g : Int} {l : List Run} (h : errK s g l = 0) : ∀ m, m ≤ (keptL s g l).length → kd s g (keptL s g l) m = (List.range m, [])
  | 0, _ => rfl
  | m + 1, hm => by
    have ih := again_kd h m (by omega)
    have ho : okK s g (keptL s g l) (kd s g (keptL s g l) m).1 m = true := by
      rw [ih]
      show okK s g (keptL s g l) (List.range m) m = true
      cases m with
      | zero => rfl
      | succ j =>
        obtain ⟨a, ha⟩ : ∃ a, (keptL s g l)[j]? = some a := ⟨_, List.getElem?_eq_getElem (by omega)⟩
        obtain ⟨b, hb⟩ : ∃ a, (keptL s g l)[j + 1]? = some a := ⟨_, List.getElem?_eq_getElem (by omega)⟩
        obtain ⟨h1, h2, _⟩ := kept_link h ha hb
        rw [ok_can (a := a) (b := b) (by rw [List.getLast?_range]; simp) ha hb (by omega)]
        exact h1
    rw [kd_yes ho, ih, List.range_succ]
theorem range_getD (l : List Run) : (List.range l.length).map (fun j => l.getD j (0, 0, 0)) = l := by
  refine List.ext_getElem? fun i => ?_
  rw [List.getElem?_map]
  rcases Nat.lt_or_ge i l.length with h | h
  · rw [List.getElem?_range h, List.getElem?_eq_getElem h]
    simp [List.getD_eq_getElem?_getD, h]
  · rw [List.getElem?_eq_none (by simpa using h), List.getElem?_eq_none h]; rfl
theorem again_kept {s g : Int} {l : List Run} (h : errK s g l = 0) : keptL s g (keptL s g l) = keptL s g l := by
  rw [kept_pick (again_err h), again_kd h _ (Nat.le_refl _)]
  exact range_getD _
theorem again_drop {s g : Int} {l : List Run} (h : errK s g l = 0) : dropI s g (keptL s g l) = [] := by
  rw [dropI, if_pos (again_err h), again_kd h _ (Nat.le_refl _)]; rfl
theorem kept_sum {s g : Int} {l : List Run} (h : errK s g l = 0) : (keptL s g l).length + (dropI s g l).length = l.length := by
  rw [kept_pick h, dropI, if_pos h, pick, List.length_map, List.length_map]
  exact (kd_lt s g l l.length).2.2
theorem kept_head {s g : Int} {l : List Run} {a : Run} (h : errK s g l = 0) (ha : l[0]? = some a) : (keptL s g l)[0]? = some a := by
  have hl := (List.getElem?_eq_some_iff.1 ha).1
  obtain ⟨R, hR, _⟩ := kd_ext s g l 1 (l.length - 1)
  rw [show 1 + (l.length - 1) = l.length by omega, kd_yes (by rfl : okK s g l (kd s g l 0).1 0 = true)] at hR
  rw [kept_pick h, at_pick (a := 0) (by rw [hR]; rfl), getD_is ha]
/-- How many of the kept samples stand ahead of place i. -/
def ahead (s g : Int) (l : List Run) (i : Nat) : Nat := (kd s g l i).1.length
theorem ahead_yes {s g : Int} {l : List Run} {i : Nat} {a : Run} (h : errK s g l = 0) (ha : l[i]? = some a) (ho : okK s g l (kd s g l i).1 i = true) : (keptL s g l)[ahead s g l i]? = some a ∧ ahead s g l (i + 1) = ahead s g l i + 1 := by
  have hl := (List.getElem?_eq_some_iff.1 ha).1
  obtain ⟨R, hR, _⟩ := kd_ext s g l (i + 1) (l.length - (i + 1))
  rw [show i + 1 + (l.length - (i + 1)) = l.length by omega, kd_yes ho] at hR
  refine ⟨?_, by unfold ahead; rw [kd_yes ho]; simp⟩
  rw [kept_pick h, at_pick (a := i) (by rw [hR]; unfold ahead; simp), getD_is ha]
theorem ahead_no {s g : Int} {l : List Run} {i : Nat} {a b : Run} (h : errK s g l = 0) (ha : l[i]? = some a) (ho : okK s g l (kd s g l i).1 i = false) (hb : (keptL s g l)[ahead s g l i]? = some b) : a.1 < b.1 := by
  have hl := (List.getElem?_eq_some_iff.1 ha).1
  obtain ⟨R, hR, hR2⟩ := kd_ext s g l (i + 1) (l.length - (i + 1))
  rw [show i + 1 + (l.length - (i + 1)) = l.length by omega, kd_no ho] at hR
  rw [kept_pick h] at hb
  obtain ⟨p, hp, rfl⟩ := pick_at hb
  rw [hR] at hp
  replace hp : ((kd s g l i).1 ++ R)[ahead s g l i]? = some p := hp
  unfold ahead at hp
  rw [List.getElem?_append_right (Nat.le_refl _), Nat.sub_self] at hp
  have := hR2 p (mem_of_at hp)
  rw [← getD_is ha]
  exact good_lt (errK_parts h).2.2 (by omega) (by omega)
theorem ahead_same {s g : Int} {l : List Run} {i : Nat} (ho : okK s g l (kd s g l i).1 i = false) : ahead s g l (i + 1) = ahead s g l i := by unfold ahead; rw [kd_no ho]
theorem ahead_end {s g : Int} {l : List Run} (h : errK s g l = 0) : ahead s g l l.length = (keptL s g l).length := by rw [kept_pick h, pick, List.length_map]; rfl
theorem kept_none {s g : Int} {l : List Run} (h : errK s g l ≠ 0) : keptL s g l = [] ∧ dropI s g l = [] := ⟨keptL_no h, drop_no h⟩
end Go.Proofs.Ytgaonfeljijebaa
