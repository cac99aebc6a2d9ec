/-
  What DwellFits leans on, in plain words: the runs of right samples are right; each sample lies in one of them, and in which; the checkout of a longer time lies no earlier. No program in sight.
-/
import Derived.Test.YtceohmbjajhlcaaDwellT
namespace Go.Proofs.Ytceohmbjajhlcaa
set_option linter.unusedVariables false

def Tm (l : List Run) (i : Nat) : Int := (l.getD i (0, 0, 0)).1
def St (st : List Int) (i : Nat) : Int := st.getD i 0
/-- How many runs are over behind sample i. -/
def kx (st : List Int) (l : List Run) (i : Nat) : Nat := (prs st l i).1.length
theorem prs_same {st : List Int} {l : List Run} {k : Nat} (h : St st (k + 1) = St st k) : prs st l (k + 1) = ((prs st l k).1, ((prs st l k).2.1, (prs st l k).2.2.1, Tm l (k + 1))) := by
  rw [prs]; exact if_pos h
theorem prs_next {st : List Int} {l : List Run} {k : Nat} (h : St st (k + 1) ≠ St st k) : prs st l (k + 1) = ((prs st l k).1 ++ [(prs st l k).2], (St st (k + 1), Tm l (k + 1), Tm l (k + 1))) := by
  rw [prs]; exact if_neg h
theorem prs_at (st : List Int) (l : List Run) (k : Nat) : (prs st l k).2.1 = St st k := prs_stop st l k
theorem prs_to (st : List Int) (l : List Run) : ∀ k, (prs st l k).2.2.2 = Tm l k
  | 0 => rfl
  | k + 1 => by
    by_cases h : St st (k + 1) = St st k
    · rw [prs_same h]
    · rw [prs_next h]
theorem kx_same {st : List Int} {l : List Run} {k : Nat} (h : St st (k + 1) = St st k) : kx st l (k + 1) = kx st l k := by rw [kx, prs_same h]; rfl
theorem kx_next {st : List Int} {l : List Run} {k : Nat} (h : St st (k + 1) ≠ St st k) : kx st l (k + 1) = kx st l k + 1 := by rw [kx, prs_next h, List.length_append]; rfl
theorem kx_le (st : List Int) (l : List Run) (i : Nat) : ∀ d, kx st l i ≤ kx st l (i + d)
  | 0 => Nat.le_refl _
  | d + 1 => by
    have := kx_le st l i d
    by_cases h : St st (i + d + 1) = St st (i + d)
    · rw [← Nat.add_assoc, kx_same h]; exact this
    · rw [← Nat.add_assoc, kx_next h]; omega
theorem runsTo_prs (st : List Int) (l : List Run) (k : Nat) : runsTo st l (k + 1) = (prs st l k).1 ++ [(prs st l k).2] := rfl
theorem runs_len (st : List Int) (l : List Run) (k : Nat) : (runsTo st l (k + 1)).length = kx st l k + 1 := by rw [runsTo_prs, List.length_append]; rfl

/-- Times that may be, and rise. -/
def Rise (l : List Run) (n : Nat) : Prop := (∀ i, i < n → 0 ≤ Tm l i ∧ Tm l i ≤ 1099511627776) ∧ ∀ i, i + 1 < n → Tm l i < Tm l (i + 1)
theorem rise_of {st : List Int} {l : List Run} (h : Sound st l l.length) : Rise l l.length := by
  have hi : ∀ i, i < l.length → inTime l i = true := fun i hi => by
    have := h i hi
    simp only [okS, Bool.and_eq_true] at this
    exact this.1
  refine ⟨fun i hl => ?_, fun i hl => ?_⟩
  · have h1 := hi i hl
    have e : l[i]? = some (l[i]) := List.getElem?_eq_getElem hl
    rcases hm : mayB (l[i]).1 (l[i]).2.1 (l[i]).2.2 with _ | _
    · rw [inTime_may (t := (l[i]).1) (x := (l[i]).2.1) (y := (l[i]).2.2) e hm] at h1; cases h1
    · have := mayB_iff.1 hm
      rw [Tm, getD_of e]; omega
  · have h1 := hi (i + 1) hl
    have e : l[i + 1]? = some (l[i + 1]) := List.getElem?_eq_getElem hl
    have e' : l[i]? = some (l[i]) := List.getElem?_eq_getElem (by omega)
    rw [inTime_succ (t := (l[i + 1]).1) (x := (l[i + 1]).2.1) (y := (l[i + 1]).2.2) (t' := (l[i]).1) (x' := (l[i]).2.1) (y' := (l[i]).2.2) e e'] at h1
    simp only [Bool.and_eq_true, decide_eq_true_eq] at h1
    rw [Tm, Tm, getD_of e, getD_of e']; exact h1.2
theorem rise_le {l : List Run} {n : Nat} (h : Rise l n) (i : Nat) : ∀ d, i + d < n → Tm l i ≤ Tm l (i + d)
  | 0, _ => Int.le_refl _
  | d + 1, hd => by
    have h1 := rise_le h i d (by omega)
    have h2 := h.2 (i + d) (by omega)
    rw [Nat.add_assoc] at h2
    omega

/-- Sample i lies in run r; and where the next sample stops. -/
def InIt (st : List Int) (l : List Run) (i j : Nat) (r : Run) : Prop :=
  r.1 = St st i ∧ r.2.1 ≤ Tm l i ∧ Tm l i ≤ r.2.2 ∧ (i < j → St st (i + 1) ≠ St st i → r.2.2 = Tm l i) ∧ (i < j → St st (i + 1) = St st i → Tm l (i + 1) ≤ r.2.2)
theorem lies {st : List Int} {l : List Run} {n : Nat} (h : Rise l n) : ∀ j, j < n → ∀ i, i ≤ j → ∃ r, (runsTo st l (j + 1))[kx st l i]? = some r ∧ InIt st l i j r
  | 0, hj, i, hi => by
    obtain rfl : i = 0 := by omega
    exact ⟨_, rfl, rfl, Int.le_refl _, Int.le_refl _, fun h => absurd h (by omega), fun h => absurd h (by omega)⟩
  | j + 1, hj, i, hi => by
    have hlast : (runsTo st l (j + 1))[kx st l j]? = some (prs st l j).2 := by
      rw [runsTo_prs, kx, List.getElem?_append_right (Nat.le_refl _), Nat.sub_self]; rfl
    obtain ⟨rj, hrj, h1, h2, h3, _, _⟩ := lies (st := st) h j (by omega) j (Nat.le_refl _)
    obtain rfl : (prs st l j).2 = rj := by rw [hlast] at hrj; injection hrj
    have hT := h.2 j hj
    rcases Nat.lt_or_ge j i with hij | hij
    · obtain rfl : i = j + 1 := by omega
      by_cases e : St st (j + 1) = St st j
      · refine ⟨_, by rw [runsTo_prs, kx, List.getElem?_append_right (Nat.le_refl _), Nat.sub_self]; rfl, ?_⟩
        rw [prs_same e]
        exact ⟨by show _ = _; rw [e]; exact h1, by show _ ≤ _; dsimp only; omega, Int.le_refl _, fun h => absurd h (by omega), fun h => absurd h (by omega)⟩
      · refine ⟨_, by rw [runsTo_prs, kx, List.getElem?_append_right (Nat.le_refl _), Nat.sub_self]; rfl, ?_⟩
        rw [prs_next e]
        exact ⟨rfl, Int.le_refl _, Int.le_refl _, fun h => absurd h (by omega), fun h => absurd h (by omega)⟩
    · obtain ⟨r, hr, g1, g2, g3, g4, g5⟩ := lies (st := st) h j (by omega) i hij
      obtain ⟨d, rfl⟩ : ∃ d, j = i + d := ⟨j - i, by omega⟩
      have hk := kx_le st l i d
      by_cases e : St st (i + d + 1) = St st (i + d)
      · rw [runsTo_prs, prs_same e]
        rcases Nat.lt_or_ge (kx st l i) (kx st l (i + d)) with hlt | hge
        · refine ⟨r, ?_, g1, g2, g3, fun _ => ?_, fun _ => ?_⟩
          · rw [List.getElem?_append_left hlt]
            rw [runsTo_prs, List.getElem?_append_left hlt] at hr
            exact hr
          · rcases Nat.eq_zero_or_pos d with rfl | hd
            · exact absurd hlt (Nat.lt_irrefl _)
            · exact g4 (by omega)
          · rcases Nat.eq_zero_or_pos d with rfl | hd
            · exact absurd hlt (Nat.lt_irrefl _)
            · exact g5 (by omega)
        · have heq : kx st l i = kx st l (i + d) := by omega
          obtain rfl : (prs st l (i + d)).2 = r := by rw [heq, hlast] at hr; injection hr
          have hmono := rise_le h i d (by omega)
          refine ⟨((prs st l (i + d)).2.1, (prs st l (i + d)).2.2.1, Tm l (i + d + 1)), by rw [heq, kx, List.getElem?_append_right (Nat.le_refl _), Nat.sub_self]; rfl, g1, g2, by show _ ≤ _; dsimp only; omega, fun _ hne => ?_, fun _ _ => ?_⟩
          · exfalso
            rcases Nat.eq_zero_or_pos d with rfl | hd
            · exact hne e
            · have h5 := kx_next (l := l) hne
              have h6 := kx_le st l (i + 1) (d - 1)
              rw [show i + 1 + (d - 1) = i + d by omega] at h6
              omega
          · have := rise_le h (i + 1) d (by omega)
            rw [show i + 1 + d = i + d + 1 by omega] at this
            exact this
      · rw [runsTo_prs, prs_next e]
        have hlt : kx st l i < ((prs st l (i + d)).1 ++ [(prs st l (i + d)).2]).length := by rw [List.length_append]; exact Nat.lt_succ_of_le hk
        refine ⟨r, ?_, g1, g2, g3, fun _ hne => ?_, fun _ he => ?_⟩
        · rw [List.getElem?_append_left hlt]; exact hr
        · rcases Nat.eq_zero_or_pos d with rfl | hd
          · have : r = (prs st l i).2 := by
              have h9 := hlast
              simp only [Nat.add_zero] at h9 hr
              rw [h9] at hr; injection hr with hr; exact hr.symm
            rw [this]; exact prs_to st l i
          · exact g4 (by omega) hne
        · rcases Nat.eq_zero_or_pos d with rfl | hd
          · exact absurd he e
          · exact g5 (by omega) he

/-- Runs that are right, said of neighbours. -/
def Adj (L : List Run) : Prop := ∀ (i : Nat) (q r : Run), L[i]? = some q → L[i + 1]? = some r → q.2.2 < r.2.1 ∧ r.1 ≠ q.1
theorem adj_snoc {o : List Run} {c : Run} (h : Adj o) (h' : ∀ q, o.getLast? = some q → q.2.2 < c.2.1 ∧ c.1 ≠ q.1) : Adj (o ++ [c]) := fun i q r hq hr => by
  rcases Nat.lt_or_ge (i + 1) o.length with h1 | h1
  · rw [List.getElem?_append_left (by omega)] at hq
    rw [List.getElem?_append_left h1] at hr
    exact h i q r hq hr
  · have h2 := (List.getElem?_eq_some_iff.1 hr).1
    rw [List.length_append, List.length_singleton] at h2
    have h3 : i + 1 = o.length := by omega
    rw [h3, List.getElem?_append_right (Nat.le_refl _), Nat.sub_self] at hr
    simp at hr; subst hr
    rw [List.getElem?_append_left (by omega)] at hq
    exact h' q (by rw [List.getLast?_eq_getElem?, ← h3]; exact hq)
theorem adj_init {o : List Run} {c : Run} (h : Adj (o ++ [c])) : Adj o ∧ ∀ q, o.getLast? = some q → q.2.2 < c.2.1 ∧ c.1 ≠ q.1 := by
  refine ⟨fun i q r hq hr => ?_, fun q hq => ?_⟩
  · have h1 := (List.getElem?_eq_some_iff.1 hr).1
    exact h i q r (by rw [List.getElem?_append_left (by omega)]; exact hq) (by rw [List.getElem?_append_left h1]; exact hr)
  · rw [List.getLast?_eq_getElem?] at hq
    have h1 := (List.getElem?_eq_some_iff.1 hq).1
    refine h (o.length - 1) q c (by rw [List.getElem?_append_left h1]; exact hq) ?_
    rw [show o.length - 1 + 1 = o.length by omega, List.getElem?_append_right (Nat.le_refl _), Nat.sub_self]; rfl
def Timely (L : List Run) : Prop := ∀ r ∈ L, 0 ≤ r.2.1 ∧ r.2.1 ≤ r.2.2 ∧ r.2.2 ≤ 1099511627776
theorem runs_right {st : List Int} {l : List Run} {n : Nat} (h : Rise l n) : ∀ j, j < n → Timely (runsTo st l (j + 1)) ∧ Adj (runsTo st l (j + 1))
  | 0, hj => by
    have := h.1 0 hj
    refine ⟨fun r hr => ?_, fun i q r hq hr => ?_⟩
    · simp only [runsTo_prs, prs, List.nil_append, List.mem_singleton] at hr
      subst hr
      exact ⟨this.1, Int.le_refl _, this.2⟩
    · simp [runsTo_prs, prs] at hr
  | j + 1, hj => by
    obtain ⟨ht, ha⟩ := runs_right (st := st) h j (by omega)
    have hT := h.2 j hj
    have hb := h.1 (j + 1) hj
    rw [runsTo_prs] at ht ha
    obtain ⟨ha1, ha2⟩ := adj_init ha
    have hc := ht (prs st l j).2 (by simp)
    rw [prs_to] at hc
    by_cases e : St st (j + 1) = St st j
    · rw [runsTo_prs, prs_same e]
      refine ⟨fun r hr => ?_, adj_snoc ha1 ha2⟩
      rw [List.mem_append, List.mem_singleton] at hr
      rcases hr with hr | rfl
      · exact ht r (List.mem_append_left _ hr)
      · exact ⟨hc.1, by show _ ≤ _; dsimp only; omega, hb.2⟩
    · rw [runsTo_prs, prs_next e]
      refine ⟨fun r hr => ?_, adj_snoc ha fun q hq => ?_⟩
      · rw [List.mem_append, List.mem_singleton] at hr
        rcases hr with hr | rfl
        · exact ht r hr
        · exact ⟨hb.1, Int.le_refl _, hb.2⟩
      · simp at hq; subst hq
        rw [prs_to, prs_at]
        exact ⟨hT, e⟩
theorem rightR_adj {L : List Run} (ht : Timely L) (ha : Adj L) : rightR L = true := rightR_good fun k hk => by
  have e : L[k]? = some (L[k]) := List.getElem?_eq_getElem hk
  have h1 := ht _ (mem_of_at e)
  cases k with
  | zero => rw [okR_zero (x := (L[0]).1) (y := (L[0]).2.1) (z := (L[0]).2.2) e]; simpa using h1
  | succ j =>
    have e' : L[j]? = some (L[j]) := List.getElem?_eq_getElem (by omega)
    have h2 := ha j _ _ e' e
    rw [okR_succ (x := (L[j + 1]).1) (y := (L[j + 1]).2.1) (z := (L[j + 1]).2.2) (x' := (L[j]).1) (y' := (L[j]).2.1) (z' := (L[j]).2.2) e e']
    simp only [Bool.and_eq_true, decide_eq_true_eq]
    exact ⟨h1, h2⟩
theorem runs_rightR {st : List Int} {l : List Run} (h : Rise l l.length) : rightR (runsTo st l l.length) = true := by
  rcases hl : l.length with _ | j
  · rfl
  · obtain ⟨h1, h2⟩ := runs_right (st := st) (n := j + 1) (by rw [← hl]; exact h) j (by omega)
    exact rightR_adj h1 h2

theorem adj_from {L : List Run} (ht : Timely L) (ha : Adj L) (k : Nat) {r q : Run} (hr : L[k]? = some r) : ∀ d, L[k + d + 1]? = some q → r.2.2 < q.2.1
  | 0, hq => (ha k r q hr hq).1
  | d + 1, hq => by
    have hl := (List.getElem?_eq_some_iff.1 hq).1
    have hp : L[k + d + 1]? = some (L[k + d + 1]'(by omega)) := List.getElem?_eq_getElem (by omega)
    have h1 := adj_from ht ha k hr d hp
    have h2 := (ha (k + d + 1) _ q hp hq).1
    have h3 := ht _ (mem_of_at hp)
    omega
theorem at_in {L : List Run} (ht : Timely L) (ha : Adj L) {k : Nat} {r : Run} {t : Int} (hr : L[k]? = some r) (h1 : r.2.1 ≤ t) (h2 : t ≤ r.2.2) : ∀ d, k + 1 + d ≤ L.length → atTo L t (k + 1 + d) = (r.1, true)
  | 0, _ => by
    rw [Nat.add_zero, atTo, hr]; exact if_pos h1
  | d + 1, hd => by
    have hp : L[k + 1 + d]? = some (L[k + 1 + d]'(by omega)) := List.getElem?_eq_getElem (by omega)
    rw [← Nat.add_assoc, atTo, hp]
    have := adj_from ht ha k hr d (by rw [show k + d + 1 = k + 1 + d by omega]; exact hp)
    refine (if_neg (by omega)).trans ?_
    exact at_in ht ha hr h1 h2 d (by omega)

theorem chk_mono {l : List Run} {lo hi : Int} {a b : Nat} (h : lo ≤ hi) (ha : IsChk l lo a) (hb : IsChk l hi b) : a ≤ b := by
  rcases Nat.lt_or_ge b a with hlt | hge
  · exfalso
    obtain ⟨h1, _, h3⟩ := hb
    rcases h3 with h3 | ⟨h3, r, hr, hl⟩
    · have := ha.1; omega
    · exact ha.2.1 b h3 hlt ⟨r, hr, by omega⟩
  · exact hge
theorem chk_pos {l : List Run} {lo : Int} {a : Nat} (ha : IsChk l lo a) (h : 2 ≤ l.length) : 1 ≤ a := by
  obtain ⟨_, _, h3⟩ := ha
  rcases h3 with h3 | h3 <;> omega
end Go.Proofs.Ytceohmbjajhlcaa
