/-
  Which legs are right: the function of the package segment and that of its reference return rightL; all legs as one, and how long they take. Conditions: the arguments' readings.
-/
import Derived.Test.YtceohmbjajhlcaaSegC
namespace Go.Proofs.Ytceohmbjajhlcaa
open Go.ChangeShapes Go.WideShapes Go.ChangeAt Go.RowKit
set_option linter.unusedVariables false

/-- Leg k is one, and goes on where the one ahead ends. -/
def okL (l : List Leg) (k : Nat) : Bool := match l[k]? with
  | some r => decide (0 ≤ r.2.2.1 ∧ r.2.2.1 < r.2.2.2 ∧ r.2.2.2 ≤ 1099511627776 ∧ 0 ≤ r.1 ∧ r.1 ≤ 4095 ∧ 0 ≤ r.2.1 ∧ r.2.1 ≤ 4095) && match k with
    | 0 => true
    | j + 1 => match l[j]? with
      | some q => decide (r.1 = q.2.1 ∧ q.2.2.2 ≤ r.2.2.1)
      | none => true
  | none => true
def rightL (l : List Leg) : Bool := (List.range l.length).all (okL l)
theorem okL_bad {l : List Leg} {k : Nat} {f t s e : Int} (h : l[k]? = some (f, t, s, e)) (hn : ¬ (0 ≤ s ∧ s < e ∧ e ≤ 1099511627776 ∧ 0 ≤ f ∧ f ≤ 4095 ∧ 0 ≤ t ∧ t ≤ 4095)) : okL l k = false := by simp only [okL, h, decide_eq_false hn]; rfl
theorem okL_zero {l : List Leg} {f t s e : Int} (h : l[0]? = some (f, t, s, e)) : okL l 0 = decide (0 ≤ s ∧ s < e ∧ e ≤ 1099511627776 ∧ 0 ≤ f ∧ f ≤ 4095 ∧ 0 ≤ t ∧ t ≤ 4095) := by simp [okL, h]
theorem okL_succ {l : List Leg} {j : Nat} {f t s e f' t' s' e' : Int} (h : l[j + 1]? = some (f, t, s, e)) (h' : l[j]? = some (f', t', s', e')) : okL l (j + 1) = (decide (0 ≤ s ∧ s < e ∧ e ≤ 1099511627776 ∧ 0 ≤ f ∧ f ≤ 4095 ∧ 0 ≤ t ∧ t ≤ 4095) && decide (f = t' ∧ e' ≤ s)) := by simp [okL, h, h']
def GoodL (l : List Leg) (k : Nat) : Prop := ∀ j, j < k → okL l j = true
theorem goodL_succ {l : List Leg} {k : Nat} (h : GoodL l k) (h' : okL l k = true) : GoodL l (k + 1) := fun j hj => by
  rcases Nat.lt_or_ge j k with h1 | h1
  · exact h j h1
  · obtain rfl : j = k := by omega
    exact h'
theorem rightL_bad {l : List Leg} {k : Nat} (hk : k < l.length) (h : okL l k = false) : rightL l = false := by
  unfold rightL
  rw [List.all_eq_false]
  exact ⟨k, by simpa using hk, by simp [h]⟩
theorem rightL_good {l : List Leg} (h : GoodL l l.length) : rightL l = true := by
  unfold rightL
  rw [List.all_eq_true]
  exact fun j hj => h j (by simpa using hj)
theorem rightL_of {l : List Leg} (h : rightL l = true) : GoodL l l.length := fun j hj => by
  unfold rightL at h
  rw [List.all_eq_true] at h
  exact h j (by simpa using hj)
def TimedL (l : List Leg) : Prop := ∀ r ∈ l, 0 ≤ r.2.2.1 ∧ r.2.2.1 < r.2.2.2 ∧ r.2.2.2 ≤ 1099511627776
theorem right_timedL {l : List Leg} (h : rightL l = true) : TimedL l := fun r hr => by
  obtain ⟨i, hi⟩ := List.mem_iff_getElem?.1 hr
  have h1 := rightL_of h i (List.getElem?_eq_some_iff.1 hi).1
  obtain ⟨f, t, s, e⟩ := r
  by_cases hn : 0 ≤ s ∧ s < e ∧ e ≤ 1099511627776 ∧ 0 ≤ f ∧ f ≤ 4095 ∧ 0 ≤ t ∧ t ≤ 4095
  · exact ⟨hn.1, hn.2.1, hn.2.2.1⟩
  · rw [okL_bad hi hn] at h1; cases h1
theorem goStop_yes (x : Int) (h : 0 ≤ x ∧ x ≤ 4095) (w : World) : Calls Try.prog 43 #[.int .i64 x] w fun e w' => e = .returned (.bool true) ∧ w = w' := by
  obtain ⟨h1, h2⟩ := h
  go_enter Try.func43, Try.ntmps43
  go_wp2
  go_ret
  exact ⟨ret_bool (decide_eq_true (by omega)), rfl⟩
theorem goStop_no (x : Int) (h : ¬ (0 ≤ x ∧ x ≤ 4095)) (w : World) : Calls Try.prog 43 #[.int .i64 x] w fun e w' => e = .returned (.bool false) ∧ w = w' := by
  by_cases h1 : 0 ≤ x
  · have h2 : 4095 < x := by omega
    clear h
    go_enter Try.func43, Try.ntmps43
    go_wp2
    go_ret
    exact ⟨ret_bool (decide_eq_false (by omega)), rfl⟩
  · clear h
    go_enter Try.func43, Try.ntmps43
    go_wp2
    go_ret
    exact ⟨ret_bool (by simp <;> omega), rfl⟩

set_option maxHeartbeats 4000000 in
theorem goRightL (A : Option Addr) (n c : Nat) (l : List Leg) (w : World) (h : Rd four 4 w A n l) (hm : n ≤ 1000) :
    Calls Try.prog 32 #[.slice A n c] w fun e w' => e = .returned (.bool (rightL l)) ∧ Below w.heap.size w w' := by
  have HN := Lib.hid h.1
  go_enter Try.func32, Try.ntmps32
  go_wp2
  go_loopw [7] (fun i wr => ∃ k : Nat, k ≤ n ∧ i = .int .i64 k ∧ Hid (GoodL l k) ∧ Below w.heap.size w wr) (fun i _ => n - (intOf i).toNat)
  case atStart => exact ⟨0, Nat.zero_le _, rfl, fun j hj => absurd hj (by omega), Below.refl _ _⟩
  case round =>
    obtain ⟨k, hk, rfl, hg, hb⟩ := hrel
    have hsz := hb.size
    by_cases hlt : k < n
    · obtain ⟨f, t, s, e, b, off, hA, hx, hc0, hc1, hc2, hc3⟩ := (h.below hb (Nat.le_refl _)).at4 hlt
      subst hA
      have hkl : Hid (k < l.length) := by show _ < _; rw [← HN.out]; exact hlt
      have lb := lt_of_cell hc0
      have bad : ¬ (0 ≤ s ∧ s < e ∧ e ≤ 1099511627776 ∧ 0 ≤ f ∧ f ≤ 4095 ∧ 0 ≤ t ∧ t ≤ 4095) → Hid (rightL l = false) := fun hn => rightL_bad hkl.out (okL_bad hx.out hn)
      by_cases q6 : 0 ≤ s
      · skip
        by_cases q8 : s < e
        · skip
          by_cases q10 : e ≤ 1099511627776
          · skip
            by_cases qf : 0 ≤ f ∧ f ≤ 4095
            · by_cases qt : 0 ≤ t ∧ t ≤ 4095
              · clear bad
                rcases Nat.eq_zero_or_pos k with rfl | hpos
                · rw [Nat.zero_mul, Nat.add_zero] at hc0 hc1 hc2 hc3
                  have G : Hid (GoodL l (0 + 1)) := goodL_succ hg.out (by rw [okL_zero hx.out, decide_eq_true]; omega)
                  go_wp2_with fail
                  refine (goStop_yes _ ⟨by omega, by omega⟩ _).mono ?_
                  rintro e9 w9 ⟨rfl, rfl⟩
                  go_wp2_with fail
                  refine (goStop_yes _ ⟨by omega, by omega⟩ _).mono ?_
                  rintro e9 w9 ⟨rfl, rfl⟩
                  go_wp2_with fail
                  go_quiet (fail)
                  go_wp2_with fail
                  go_roundw
                  case rel => exact ⟨1, by omega, rfl, G.out, below_dN (hb.alloc hsz _) _⟩
                  case measure => simp [intOf]; omega
                obtain ⟨j, rfl⟩ : ∃ j, k = j + 1 := ⟨k - 1, by omega⟩
                obtain ⟨f', t', s', e', b', off', hA', hx', hd0, hd1, hd2, hd3⟩ := (h.below hb (Nat.le_refl _)).at4 (k := j) (by omega)
                obtain ⟨rfl, rfl⟩ : b = b' ∧ off = off' := by simpa using hA'
                clear hA' hpos hd0 hd2
                have HO := Lib.hid (okL_succ hx.out hx'.out)
                have WJ : Hid (IntKind.i64.wrap (j : Int) = (j : Int)) := IntWalk.i64_in _ (by omega)
                have wj0 : (0 : Int) ≤ j := by omega
                have wjn : (j : Int) < n := by omega
                by_cases h5 : f = t'
                · subst h5
                  by_cases h4 : e' ≤ s
                  · have G : Hid (GoodL l (j + 1 + 1)) := goodL_succ hg.out (by rw [HO.out, decide_eq_true (by omega), decide_eq_true (by omega)]; rfl)
                    go_wp2_with fail
                    refine (goStop_yes _ ⟨by omega, by omega⟩ _).mono ?_
                    rintro e9 w9 ⟨rfl, rfl⟩
                    go_wp2_with fail
                    refine (goStop_yes _ ⟨by omega, by omega⟩ _).mono ?_
                    rintro e9 w9 ⟨rfl, rfl⟩
                    go_wp2_with fail
                    have wj := WJ.out
                    go_quiet (fail)
                    clear wj
                    go_wp2_with fail
                    go_roundw
                    case rel => exact ⟨j + 1 + 1, by omega, by go_num, G.out, below_dN (hb.alloc hsz _) _⟩
                    case measure => simp [intOf]; omega
                  · have G : Hid (rightL l = false) := rightL_bad hkl.out (by rw [HO.out, decide_eq_false (show ¬ (f = f ∧ e' ≤ s) by omega), Bool.and_false])
                    go_wp2_with fail
                    refine (goStop_yes _ ⟨by omega, by omega⟩ _).mono ?_
                    rintro e9 w9 ⟨rfl, rfl⟩
                    go_wp2_with fail
                    refine (goStop_yes _ ⟨by omega, by omega⟩ _).mono ?_
                    rintro e9 w9 ⟨rfl, rfl⟩
                    go_wp2_with fail
                    have wj := WJ.out
                    go_quiet (fail)
                    clear wj
                    go_wp2_with fail
                    go_ret
                    exact ⟨ret_bool G.out.symm, below_dN (hb.alloc hsz _) _⟩
                · have b5 : (f == t') = false := by simpa using h5
                  have b6 : (f != t') = true := by simpa using h5
                  have G : Hid (rightL l = false) := rightL_bad hkl.out (by rw [HO.out, decide_eq_false (show ¬ (f = t' ∧ e' ≤ s) by omega), Bool.and_false])
                  clear h5
                  go_wp2_with fail
                  refine (goStop_yes _ ⟨by omega, by omega⟩ _).mono ?_
                  rintro e9 w9 ⟨rfl, rfl⟩
                  go_wp2_with fail
                  refine (goStop_yes _ ⟨by omega, by omega⟩ _).mono ?_
                  rintro e9 w9 ⟨rfl, rfl⟩
                  go_wp2_with fail
                  have wj := WJ.out
                  go_quiet (fail)
                  clear wj
                  go_wp2_with fail
                  go_ret
                  exact ⟨ret_bool G.out.symm, below_dN (hb.alloc hsz _) _⟩
              · have G := bad (by omega)
                clear bad
                go_wp2_with fail
                refine (goStop_yes _ ⟨by omega, by omega⟩ _).mono ?_
                rintro e9 w9 ⟨rfl, rfl⟩
                go_wp2_with fail
                refine (goStop_no _ (by omega) _).mono ?_
                rintro e9 w9 ⟨rfl, rfl⟩
                go_wp2_with fail
                go_ret
                exact ⟨ret_bool G.out.symm, hb.alloc hsz _⟩
            · have G := bad (by omega)
              clear bad
              go_wp2_with fail
              refine (goStop_no _ (by omega) _).mono ?_
              rintro e9 w9 ⟨rfl, rfl⟩
              go_wp2_with fail
              go_ret
              exact ⟨ret_bool G.out.symm, hb.alloc hsz _⟩
          · have G := bad (by omega)
            clear bad
            go_wp2_with fail
            go_ret
            exact ⟨ret_bool G.out.symm, hb.alloc hsz _⟩
        · have G := bad (by omega)
          clear bad
          go_wp2_with fail
          go_ret
          exact ⟨ret_bool G.out.symm, hb.alloc hsz _⟩
      · have G := bad (by omega)
        clear bad
        go_wp2_with fail
        go_ret
        exact ⟨ret_bool G.out.symm, hb.alloc hsz _⟩
    · obtain rfl : k = n := by omega
      have G : Hid (rightL l = true) := rightL_good (by rw [← HN.out]; exact hg.out)
      go_wp2_with fail
      go_ret
      exact ⟨ret_bool G.out.symm, hb⟩
set_option maxHeartbeats 4000000 in
theorem refRightL (A : Option Addr) (n c : Nat) (l : List Leg) (w : World) (h : Rd four 4 w A n l) (hm : n ≤ 1000) :
    Calls Try.prog 33 #[.slice A n c] w fun e w' => e = .returned (.bool (rightL l)) ∧ Below w.heap.size w w' := by
  have HN := Lib.hid h.1
  go_enter Try.func33, Try.ntmps33
  go_wp2
  go_loopw [3] (fun i wr => ∃ k : Nat, k ≤ n ∧ i = .int .i64 k ∧ Hid (GoodL l k) ∧ Below w.heap.size w wr) (fun i _ => n - (intOf i).toNat)
  case atStart => exact ⟨0, Nat.zero_le _, rfl, fun j hj => absurd hj (by omega), Below.refl _ _⟩
  case round =>
    obtain ⟨k, hk, rfl, hg, hb⟩ := hrel
    have hsz := hb.size
    by_cases hlt : k < n
    · obtain ⟨f, t, s, e, b, off, hA, hx, hc0, hc1, hc2, hc3⟩ := (h.below hb (Nat.le_refl _)).at4 hlt
      subst hA
      have hkl : Hid (k < l.length) := by show _ < _; rw [← HN.out]; exact hlt
      have lb := lt_of_cell hc0
      have bad : ¬ (0 ≤ s ∧ s < e ∧ e ≤ 1099511627776 ∧ 0 ≤ f ∧ f ≤ 4095 ∧ 0 ≤ t ∧ t ≤ 4095) → Hid (rightL l = false) := fun hn => rightL_bad hkl.out (okL_bad hx.out hn)
      by_cases q6 : 0 ≤ s
      · skip
        by_cases q8 : s < e
        · skip
          by_cases q10 : e ≤ 1099511627776
          · skip
            by_cases qf0 : 0 ≤ f
            · by_cases qf1 : f ≤ 4095
              · by_cases qt0 : 0 ≤ t
                · by_cases qt1 : t ≤ 4095
                  · clear bad
                    rcases Nat.eq_zero_or_pos k with rfl | hpos
                    · rw [Nat.zero_mul, Nat.add_zero] at hc0 hc1 hc2 hc3
                      have G : Hid (GoodL l (0 + 1)) := goodL_succ hg.out (by rw [okL_zero hx.out, decide_eq_true]; omega)
                      go_wp2_with fail
                      go_quiet (fail)
                      go_wp2_with fail
                      go_roundw
                      case rel => exact ⟨1, by omega, rfl, G.out, below_dN (hb.alloc hsz _) _⟩
                      case measure => simp [intOf]; omega
                    obtain ⟨j, rfl⟩ : ∃ j, k = j + 1 := ⟨k - 1, by omega⟩
                    obtain ⟨f', t', s', e', b', off', hA', hx', hd0, hd1, hd2, hd3⟩ := (h.below hb (Nat.le_refl _)).at4 (k := j) (by omega)
                    obtain ⟨rfl, rfl⟩ : b = b' ∧ off = off' := by simpa using hA'
                    clear hA' hpos hd0 hd2
                    have HO := Lib.hid (okL_succ hx.out hx'.out)
                    have WJ : Hid (IntKind.i64.wrap (j : Int) = (j : Int)) := IntWalk.i64_in _ (by omega)
                    have wj0 : (0 : Int) ≤ j := by omega
                    have wjn : (j : Int) < n := by omega
                    by_cases h5 : f = t'
                    · subst h5
                      by_cases h4 : e' ≤ s
                      · have G : Hid (GoodL l (j + 1 + 1)) := goodL_succ hg.out (by rw [HO.out, decide_eq_true (by omega), decide_eq_true (by omega)]; rfl)
                        go_wp2_with fail
                        have wj := WJ.out
                        go_quiet (fail)
                        clear wj
                        go_wp2_with fail
                        go_roundw
                        case rel => exact ⟨j + 1 + 1, by omega, by go_num, G.out, below_dN (hb.alloc hsz _) _⟩
                        case measure => simp [intOf]; omega
                      · have G : Hid (rightL l = false) := rightL_bad hkl.out (by rw [HO.out, decide_eq_false (show ¬ (f = f ∧ e' ≤ s) by omega), Bool.and_false])
                        go_wp2_with fail
                        have wj := WJ.out
                        go_quiet (fail)
                        clear wj
                        go_wp2_with fail
                        go_ret
                        exact ⟨ret_bool G.out.symm, below_dN (hb.alloc hsz _) _⟩
                    · have b5 : (f == t') = false := by simpa using h5
                      have b6 : (f != t') = true := by simpa using h5
                      have G : Hid (rightL l = false) := rightL_bad hkl.out (by rw [HO.out, decide_eq_false (show ¬ (f = t' ∧ e' ≤ s) by omega), Bool.and_false])
                      clear h5
                      go_wp2_with fail
                      have wj := WJ.out
                      go_quiet (fail)
                      clear wj
                      go_wp2_with fail
                      go_ret
                      exact ⟨ret_bool G.out.symm, below_dN (hb.alloc hsz _) _⟩
                  · have G := bad (by omega)
                    clear bad
                    go_wp2_with fail
                    go_ret
                    exact ⟨ret_bool G.out.symm, hb.alloc hsz _⟩
                · have G := bad (by omega)
                  clear bad
                  go_wp2_with fail
                  go_ret
                  exact ⟨ret_bool G.out.symm, hb.alloc hsz _⟩
              · have G := bad (by omega)
                clear bad
                go_wp2_with fail
                go_ret
                exact ⟨ret_bool G.out.symm, hb.alloc hsz _⟩
            · have G := bad (by omega)
              clear bad
              go_wp2_with fail
              go_ret
              exact ⟨ret_bool G.out.symm, hb.alloc hsz _⟩
          · have G := bad (by omega)
            clear bad
            go_wp2_with fail
            go_ret
            exact ⟨ret_bool G.out.symm, hb.alloc hsz _⟩
        · have G := bad (by omega)
          clear bad
          go_wp2_with fail
          go_ret
          exact ⟨ret_bool G.out.symm, hb.alloc hsz _⟩
      · have G := bad (by omega)
        clear bad
        go_wp2_with fail
        go_ret
        exact ⟨ret_bool G.out.symm, hb.alloc hsz _⟩
    · obtain rfl : k = n := by omega
      have G : Hid (rightL l = true) := rightL_good (by rw [← HN.out]; exact hg.out)
      go_wp2_with fail
      go_ret
      exact ⟨ret_bool G.out.symm, hb⟩
end Go.Proofs.Ytceohmbjajhlcaa
