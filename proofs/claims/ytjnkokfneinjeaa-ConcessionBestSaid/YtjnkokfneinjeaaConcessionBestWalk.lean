/-
  The law ConcessionBest returns true, for every list of shares, list of classes and price, and leaves what was there as it was. No conditions but the arguments' readings.
-/
import Derived.Test.YtjnkokfneinjeaaBest
namespace Go.Proofs.Ytjnkokfneinjeaa.concessionBestWalk
open Go.ChangeShapes Go.WideShapes Go.ChangeAt Go.RowKit
set_option linter.unusedVariables false

theorem short (A0 : Option Addr) (n0 c0 : Nat) (l0 : List Int) (A1 : Option Addr) (n1 c1 : Nat) (l1 : List Int) (a2 : Int) (w : World) (rd0 : Rd one 1 w A0 n0 l0) (hm0 : n0 ≤ 9223372036854775807) (rd1 : Rd one 1 w A1 n1 l1) (hm1 : n1 ≤ 9223372036854775807)
    (hs : (100 < n0 ∨ 100 < n1) ∨ rightB l0 = false ∨ Bst l0 l1 l1.length (-1)) :
    Calls Try.prog 7 #[.slice A0 n0 c0, .slice A1 n1 c1, .int .i64 a2] w fun e w' => e = .returned (.bool true) ∧ Below w.heap.size w w' := by
  by_cases h0 : 100 < n0
  · clear hs
    go_enter Try.func7, Try.ntmps7
    go_wp2_with (go_at_call 11; refine (awake28 _).mono ?_; rintro e w1 ⟨rfl, hb⟩)
    go_ret
    exact ⟨rfl, hb⟩
  by_cases h1 : 100 < n1
  · clear hs
    go_enter Try.func7, Try.ntmps7
    go_wp2_with (go_at_call 11; refine (awake28 _).mono ?_; rintro e w1 ⟨rfl, hb⟩)
    go_ret
    exact ⟨rfl, hb⟩
  rcases hr : rightB l0 with _ | _
  · clear hs
    go_enter Try.func7, Try.ntmps7
    go_wp2_with (first
      | (go_at_call 11; refine (awake28 _).mono ?_; rintro e w1 ⟨rfl, hb⟩; have rd2 := rd0.below hb (Nat.le_refl _))
      | (go_at_call 19; refine (best_no _ _ _ _ _ _ _ l1 _ rd2 hm0 hr).mono ?_; rintro e w' ⟨rfl, rfl⟩)
      | (go_at_call 20; refine (refBest_no _ _ _ _ _ _ _ l1 _ rd2 hm0 hr).mono ?_; rintro e w' ⟨rfl, rfl⟩))
    go_ret
    exact ⟨rfl, hb⟩
  · have hb0 : Bst l0 l1 l1.length (-1) := by
      rcases hs with h | h | h
      · omega
      · rw [hr] at h; cases h
      · exact h
    have HB := Lib.hid hb0
    clear hs hb0
    go_enter Try.func7, Try.ntmps7
    go_wp2_with (first
      | (go_at_call 11; refine (awake28 _).mono ?_; rintro e w1 ⟨rfl, hb⟩; have rd2 := rd0.below hb (Nat.le_refl _); have rd3 := rd1.below hb (Nat.le_refl _))
      | (go_at_call 19; refine ((best_yes _ _ _ _ _ _ _ _ _ rd2 hm0 rd3 hm1 hr).mono fun _ _ h => told_m HB.out h).mono ?_; rintro e w' ⟨rfl, m, rfl⟩; have rd4 := rd2.drewN m; have rd5 := rd3.drewN m)
      | (go_at_call 20; refine ((refBest_yes _ _ _ _ _ _ _ _ _ rd4 hm0 rd5 hm1 hr).mono fun _ _ h => told_m HB.out h).mono ?_; rintro e w' ⟨rfl, m', rfl⟩))
    go_ret
    exact ⟨rfl, below_dN hb _⟩

set_option maxHeartbeats 800000 in
theorem long (A0 : Option Addr) (n0 c0 : Nat) (l0 : List Int) (A1 : Option Addr) (n1 c1 : Nat) (l1 : List Int) (a2 : Int) (w : World) (rd0 : Rd one 1 w A0 n0 l0) (hm0 : n0 ≤ 9223372036854775807) (rd1 : Rd one 1 w A1 n1 l1) (hm1 : n1 ≤ 9223372036854775807)
    (h0 : n0 ≤ 100) (h1 : n1 ≤ 100) (hr : rightB l0 = true) (q : Nat) (hb0 : Bst l0 l1 l1.length q) (s : Int) (hs : l0[q]? = some s) :
    Calls Try.prog 7 #[.slice A0 n0 c0, .slice A1 n1 c1, .int .i64 a2] w fun e w' => e = .returned (.bool true) ∧ Below w.heap.size w w' := by
  have HB := Lib.hid hb0
  have HS : Hid (l0[(q : Int).toNat]? = some s) := by show _ = _; rw [Int.toNat_natCast]; exact hs
  have hq0 : (0 : Int) ≤ q := by omega
  have hn := Lib.hid rd0.1
  clear hb0 hs
  by_cases hp : 0 ≤ a2 ∧ a2 ≤ 281474976710656
  · obtain ⟨hp0, hp1⟩ := hp
    go_enter Try.func7, Try.ntmps7
    go_wp2_with (first
      | (go_at_call 11; refine (awake28 _).mono ?_; rintro e w1 ⟨rfl, hb⟩; have rd2 := rd0.below hb (Nat.le_refl _); have rd3 := rd1.below hb (Nat.le_refl _))
      | (go_at_call 19; refine ((best_yes _ _ _ _ _ _ _ _ _ rd2 hm0 rd3 hm1 hr).mono fun _ _ h => told_q HB.out h).mono ?_; rintro e w' ⟨rfl, m, rfl⟩; have rd4 := rd2.drewN m; have rd5 := rd3.drewN m)
      | (go_at_call 20; refine ((refBest_yes _ _ _ _ _ _ _ _ _ rd4 hm0 rd5 hm1 hr).mono fun _ _ h => told_q HB.out h).mono ?_; rintro e w' ⟨rfl, m', rfl⟩; have rd6 := rd2.drewN (m + m'); have rd7 := rd3.drewN (m + m'))
      | (go_at_call 12; refine (apply_yes _ _ _ _ _ _ _ _ rd6 hm0 hr hq0 HS.out hp0 hp1).mono ?_; rintro e w' ⟨rfl, rfl⟩))
    go_loop [60] (fun i => ∃ k : Nat, k ≤ n1 ∧ i = .int .i64 k) (fun i => n1 - (intOf i).toNat)
    case atStart => exact ⟨0, Nat.zero_le _, rfl⟩
    case round =>
      obtain ⟨k, hk, rfl⟩ := hrel
      by_cases hlt : k < n1
      · obtain ⟨x, bb, ob, hA, hx, hcx⟩ := rd7.at1 hlt
        subst hA
        by_cases hv : 0 ≤ x ∧ x < n0
        · obtain ⟨hv0, hv1⟩ := hv
          have ht : l0[x.toNat]? = some (l0[x.toNat]'(by have := hn.out; omega)) := List.getElem?_eq_getElem (by have := hn.out; omega)
          generalize l0[x.toNat]'(by have := hn.out; omega) = t at ht
          have HT := Lib.hid ht
          have hle := bst_pays HB.out (by simpa using HS.out) hx.out hv0 ht hp0
          clear ht
          go_wp2_with (go_at_call 12; refine (apply_yes _ _ _ _ _ _ _ _ rd6 hm0 hr hv0 HT.out hp0 hp1).mono ?_; rintro e w' ⟨rfl, rfl⟩)
          go_round
          case rel => exact ⟨k + 1, by omega, by go_num⟩
          case measure => simp [intOf]; omega
        · have hno : ¬ may l0 x a2 := fun h => hv ⟨h.2.1, by rw [hn.out]; exact h.2.2.1⟩
          have HN := Lib.hid hno
          clear hno hv
          go_wp2_with (go_at_call 12; refine (apply_no _ _ _ _ _ _ _ rd6 hm0 HN.out).mono ?_; rintro e w' ⟨rfl, rfl⟩)
          go_round
          case rel => exact ⟨k + 1, by omega, by go_num⟩
          case measure => simp [intOf]; omega
      · go_wp2
        go_ret
        exact ⟨rfl, below_dN hb _⟩
  · have hno : ∀ x, ¬ may l0 x a2 := fun x h => hp ⟨h.2.2.2.1, h.2.2.2.2⟩
    have HN := Lib.hid hno
    clear hno hp
    go_enter Try.func7, Try.ntmps7
    go_wp2_with (first
      | (go_at_call 11; refine (awake28 _).mono ?_; rintro e w1 ⟨rfl, hb⟩; have rd2 := rd0.below hb (Nat.le_refl _); have rd3 := rd1.below hb (Nat.le_refl _))
      | (go_at_call 19; refine ((best_yes _ _ _ _ _ _ _ _ _ rd2 hm0 rd3 hm1 hr).mono fun _ _ h => told_q HB.out h).mono ?_; rintro e w' ⟨rfl, m, rfl⟩; have rd4 := rd2.drewN m; have rd5 := rd3.drewN m)
      | (go_at_call 20; refine ((refBest_yes _ _ _ _ _ _ _ _ _ rd4 hm0 rd5 hm1 hr).mono fun _ _ h => told_q HB.out h).mono ?_; rintro e w' ⟨rfl, m', rfl⟩; have rd6 := rd2.drewN (m + m'); have rd7 := rd3.drewN (m + m'))
      | (go_at_call 12; refine (apply_no _ _ _ _ _ _ _ rd6 hm0 (HN.out _)).mono ?_; rintro e w' ⟨rfl, rfl⟩))
    go_loop [60] (fun i => ∃ k : Nat, k ≤ n1 ∧ i = .int .i64 k) (fun i => n1 - (intOf i).toNat)
    case atStart => exact ⟨0, Nat.zero_le _, rfl⟩
    case round =>
      obtain ⟨k, hk, rfl⟩ := hrel
      by_cases hlt : k < n1
      · obtain ⟨x, bb, ob, hA, hx, hcx⟩ := rd7.at1 hlt
        subst hA
        go_wp2_with (go_at_call 12; refine (apply_no _ _ _ _ _ _ _ rd6 hm0 (HN.out _)).mono ?_; rintro e w' ⟨rfl, rfl⟩)
        go_round
        case rel => exact ⟨k + 1, by omega, by go_num⟩
        case measure => simp [intOf]; omega
      · go_wp2
        go_ret
        exact ⟨rfl, below_dN hb _⟩

theorem walk (A0 : Option Addr) (n0 c0 : Nat) (l0 : List Int) (A1 : Option Addr) (n1 c1 : Nat) (l1 : List Int) (a2 : Int) (w : World) (rd0 : Rd one 1 w A0 n0 l0) (ft0 : ∀ r ∈ l0, Fits r) (ge0 : n0 ≤ c0) (mx0 : c0 ≤ maxLen) (rd1 : Rd one 1 w A1 n1 l1) (ft1 : ∀ r ∈ l1, Fits r) (ge1 : n1 ≤ c1) (mx1 : c1 ≤ maxLen) (w2 : (Lit.int .i64 a2).wf = true) :
    Calls Try.prog 7 #[.slice A0 n0 c0, .slice A1 n1 c1, .int .i64 a2] w fun e w' => e = .returned (.bool true) ∧ Below w.heap.size w w' := by
  have hm0 : n0 ≤ 9223372036854775807 := by unfold maxLen at mx0; omega
  have hm1 : n1 ≤ 9223372036854775807 := by unfold maxLen at mx1; omega
  by_cases hs : (100 < n0 ∨ 100 < n1) ∨ rightB l0 = false ∨ Bst l0 l1 l1.length (-1)
  · exact short A0 n0 c0 l0 A1 n1 c1 l1 a2 w rd0 hm0 rd1 hm1 hs
  · obtain ⟨b, hb⟩ := bst_ex l0 l1 l1.length (Nat.le_refl _)
    rcases bst_ok hb with rfl | ⟨q, s, rfl, h⟩
    · exact absurd (.inr (.inr hb)) hs
    · have hr : rightB l0 = true := by
        rcases hr : rightB l0 with _ | _
        · exact absurd (.inr (.inl hr)) hs
        · rfl
      exact long A0 n0 c0 l0 A1 n1 c1 l1 a2 w rd0 hm0 rd1 hm1 (Nat.le_of_not_lt fun h => hs (.inl (.inl h))) (Nat.le_of_not_lt fun h => hs (.inl (.inr h))) hr q hb s h
end Go.Proofs.Ytjnkokfneinjeaa.concessionBestWalk
