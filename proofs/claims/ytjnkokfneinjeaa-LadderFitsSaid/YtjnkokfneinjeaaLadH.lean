/-
  ladder.Top and At, and the reference's Pay. Conditions: the reading of the ladder's rungs; at most 100 of them.
-/
import Derived.Test.YtjnkokfneinjeaaLadG
namespace Go.Proofs.Ytjnkokfneinjeaa
open Go.ChangeShapes Go.WideShapes Go.ChangeAt Go.RowKit Go.Shelf
set_option linter.unusedVariables false

/-- Is it told what is to be paid? -/
def toldB (l : List (Int × Int)) (s : Int) : Bool := ladB l && decide (0 ≤ s ∧ s ≤ 281474976710656)
def payA (l : List (Int × Int)) (s : Int) : Int := if toldB l s = true then payOf l s else 0
def payE (l : List (Int × Int)) (s : Int) : Int := if toldB l s = true then 0 else 2
theorem goPay (A : Option Addr) (n c : Nat) (l : List (Int × Int)) (s : Int) (w : World) (h : Rd two 2 w A n l) (hm : n ≤ 100) (hs : Fits s) :
    Calls Try.prog 23 #[.slice A n c, .int .i64 s] w fun e w' => e = .returned (.tuple #[.int .i64 (payA l s), .int .i64 (payE l s)]) ∧ Below w.heap.size w w' := by
  rcases ht : toldB l s with _ | _
  · rw [payA, payE, if_neg (by rw [ht]; simp), if_neg (by rw [ht]; simp)]
    refine goPay_no A n c l s w h hm hs ?_
    unfold toldB at ht
    rcases hl : ladB l with _ | _
    · exact .inl rfl
    · rw [hl] at ht
      simp at ht
      omega
  · rw [payA, payE, if_pos ht, if_pos ht]
    unfold toldB at ht
    simp only [Bool.and_eq_true, decide_eq_true_eq] at ht
    exact goPay_yes A n c l s w h ht.1 ht.2.1 ht.2.2
theorem goTop (A : Option Addr) (n c : Nat) (l : List (Int × Int)) (w : World) (h : Rd two 2 w A n l) (hm : n ≤ 100) :
    Calls Try.prog 24 #[.slice A n c] w fun e w' => e = .returned (.tuple #[.int .i64 (payA l 281474976710656), .int .i64 (payE l 281474976710656)]) ∧ Below w.heap.size w w' := by
  have HP := Lib.hid (goPay A n c l 281474976710656 w h hm ⟨by omega, by omega⟩)
  go_enter Try.func24, Try.ntmps24
  go_wp2_with fail
  refine HP.out.mono ?_
  rintro e w1 ⟨rfl, hb⟩
  have HB := Lib.hid hb
  obtain ⟨a, ha⟩ : ∃ a, payA l 281474976710656 = a := ⟨_, rfl⟩
  obtain ⟨b, hb'⟩ : ∃ b, payE l 281474976710656 = b := ⟨_, rfl⟩
  have HA := Lib.hid ha
  have HB' := Lib.hid hb'
  rw [ha, hb']
  clear hb ha hb' HP
  go_wp2_with fail
  go_ret2
  exact ⟨by rw [HA.out, HB'.out]; rfl, HB.out⟩
/-- How many of the first k rungs lie below a sum. -/
def cntTo (l : List (Int × Int)) (s : Int) : Nat → Nat
  | 0 => 0
  | k + 1 => cntTo l s k + if (l.getD k (0, 0)).1 < s then 1 else 0
theorem cntTo_le (l : List (Int × Int)) (s : Int) : ∀ k, cntTo l s k ≤ k
  | 0 => Nat.le_refl _
  | k + 1 => by
    have := cntTo_le l s k
    rw [cntTo]
    split <;> omega
theorem goAt (A : Option Addr) (n c : Nat) (l : List (Int × Int)) (s : Int) (w : World) (h : Rd two 2 w A n l) (hm : n ≤ 100) :
    Calls Try.prog 28 #[.slice A n c, .int .i64 s] w fun e w' => e = .returned (.int .i64 (cntTo l s n : Nat)) ∧ Below w.heap.size w w' := by
  go_enter Try.func28, Try.ntmps28
  go_wp2
  go_loopw [5, 10] (fun v i wr => ∃ (k C : Nat), k ≤ n ∧ i = .int .i64 k ∧ v = .int .i64 C ∧ C ≤ k ∧ Hid (C = cntTo l s k) ∧ Hid (Below w.heap.size w wr)) (fun _ i _ => n - (intOf i).toNat)
  case atStart => exact ⟨0, 0, Nat.zero_le _, rfl, rfl, Nat.le_refl _, rfl, Below.refl _ _⟩
  case round =>
    obtain ⟨k, C, hk, rfl, rfl, hC, hc, hb⟩ := hrel
    have hsz := hb.out.size
    by_cases hlt : k < n
    · obtain ⟨x, y, b, off, hA, hx, hcx, hcy⟩ := (h.below hb.out (Nat.le_refl _)).at2 hlt
      subst hA
      have lb := lt_of_cell hcx
      by_cases h1 : x < s
      · have NX : Hid (C + 1 = cntTo l s (k + 1)) := by show _ = _; rw [cntTo, ← hc.out, getD_of hx.out, if_pos h1]
        go_wp2
        go_roundw
        case rel => exact ⟨k + 1, C + 1, by omega, by go_num, by go_num, by omega, NX.out, hb.out.alloc hsz _⟩
        case measure => simp [intOf]; omega
      · have NX : Hid (C = cntTo l s (k + 1)) := by show _ = _; rw [cntTo, ← hc.out, getD_of hx.out, if_neg h1]; rfl
        go_wp2
        go_roundw
        case rel => exact ⟨k + 1, C, by omega, by go_num, rfl, by omega, NX.out, hb.out.alloc hsz _⟩
        case measure => simp [intOf]; omega
    · obtain rfl : k = n := by omega
      go_wp2
      go_ret
      exact ⟨ret_int (by rw [hc.out]), hb.out⟩

theorem drewN_more' {w wr : World} {m : Nat} (h : wr = w.drewN m) (k : Nat) : wr.drewN k = w.drewN (m + k) := by rw [h, World.drewN_drewN]
theorem pay_small {l : List (Int × Int)} {s : Int} (hf : Fine l) (h0 : 0 ≤ s) (h1 : s ≤ 281474976710656) (hs : l = [] ∨ ∃ x y, l[0]? = some (x, y) ∧ s ≤ x) : payOf l s = s := by
  have e1 : inS l s 0 = s := by
    unfold inS upt
    have e : (frm l 0).1 = 0 := rfl
    rw [e]
    rcases hs with rfl | ⟨x, y, hx, hle⟩
    · simp; omega
    · have hl := (List.getElem?_eq_some_iff.1 hx).1
      rw [if_pos hl, getD_of hx]
      show max 0 (min s x - 0) = s
      omega
  have e2 : ofS l s 0 = s := by
    rw [ofS, e1, show (frm l 0).2 = 1000 from rfl]
    omega
  rcases hs with rfl | ⟨x, y, hx, hle⟩
  · show sumTo (ofS [] s) 1 = s
    rw [sumTo, sumTo, e2]; omega
  · have hl := (List.getElem?_eq_some_iff.1 hx).1
    rw [pay_cut (k := 1) hf (by omega) (by rw [show frm l 1 = l.getD 0 (0, 0) from rfl, getD_of hx]; exact hle), sumTo, sumTo, e2]
    omega
theorem wrap_part {X P : Int} (x0 : 0 ≤ X) (x1 : X ≤ 281474976710656) (p0 : 0 ≤ P) (p1 : P ≤ 281474976710656000) : wrap64 (X + wrap64 ((wrap64 P).tdiv 1000)) = X + P / 1000 := wrap_pay x0 x1 p0 p1
set_option maxHeartbeats 2000000 in
theorem refPay (A : Option Addr) (n c : Nat) (l : List (Int × Int)) (s : Int) (w : World) (h : Rd two 2 w A n l) (hl : ladB l = true) (h0 : 0 ≤ s) (h1 : s ≤ 281474976710656) :
    Calls Try.prog 27 #[.slice A n c, .int .i64 s] w fun e w' => e = .returned (.int .i64 (payOf l s)) ∧ ∃ m, w' = w.drewN m := by
  obtain ⟨F0, n16⟩ := fine_of hl
  have HF := Lib.hid F0
  have hn := h.1
  rw [← hn] at n16
  rcases Nat.eq_zero_or_pos n with rfl | hpos
  · have l0 : l = [] := List.eq_nil_of_length_eq_zero hn.symm
    have E := Lib.hid (pay_small HF.out h0 h1 (.inl l0))
    have HN := Lib.hid hn
    clear F0 hl l0 hn
    go_enter Try.func27, Try.ntmps27
    go_wp2
    go_ret
    exact ⟨ret_int E.out.symm, 0, rfl⟩
  have b0 : ((n : Int) == 0) = false := by simp; omega
  obtain ⟨x, y, b, off, hA, hx, hcx, hcy⟩ := h.at2 hpos
  subst hA
  rw [Nat.zero_mul, Nat.add_zero] at hcx hcy
  by_cases hsx : s ≤ x
  · have E := Lib.hid (pay_small HF.out h0 h1 (.inr ⟨x, y, hx.out, hsx⟩))
    clear F0 hl hn
    go_enter Try.func27, Try.ntmps27
    go_wp2
    go_ret
    exact ⟨ret_int E.out.symm, 0, rfl⟩
  obtain ⟨x0, x1⟩ := HF.out.top 0 (by omega)
  rw [getD_of hx.out] at x0 x1
  have E1 : Hid (x = sumTo (ofS l s) 1) := by
    show _ = _
    rw [sumTo, sumTo, ofS, inS, show (frm l 0).1 = 0 from rfl, show (frm l 0).2 = 1000 from rfl, upt, if_pos (by omega), getD_of hx.out]
    show x = 0 + max 0 (min s x - 0) * 1000 / 1000
    rw [show max 0 (min s x - 0) = x by omega]
    omega
  have HN := Lib.hid hn
  clear F0 hl hn
  go_enter Try.func27, Try.ntmps27
  go_wp2
  go_loopw [5, 6] (fun v i wr => ∃ (k m : Nat) (X : Int), k ≤ n ∧ i = .int .i64 k ∧ v = .int .i64 X ∧ Hid (X = sumTo (ofS l s) (k + 1)) ∧ Hid (wr = w.drewN m)) (fun _ i _ => n - (intOf i).toNat)
  case atStart => exact ⟨0, 0, x, Nat.zero_le _, rfl, rfl, E1.out, rfl⟩
  case round =>
    clear hcx hcy
    obtain ⟨k, m, X, hk, rfl, rfl, hX, hw⟩ := hrel
    have hR : Rd two 2 wr (some ⟨b, off, none⟩) n l := by rw [hw.out]; exact h.drewN _
    by_cases hlt : k < n
    · obtain ⟨f, sh, b', off', hA, hf, hcf, hcs⟩ := hR.at2 hlt
      simp only [Option.some.injEq, Addr.mk.injEq, and_true] at hA
      obtain ⟨rfl, rfl⟩ := hA
      have hn := HN.out
      obtain ⟨q1, q2⟩ := HF.out.top k (by omega)
      obtain ⟨q3, q4⟩ := HF.out.share k (by omega)
      rw [getD_of hf.out] at q1 q2 q3 q4
      dsimp only at q1 q2 q3 q4
      have XB := part_bd HF.out h0 h1 (k + 1) (by omega)
      have YB := part_bd HF.out h0 h1 (k + 1 + 1) (by omega)
      rw [← hX.out] at XB
      have FR : Hid (frm l (k + 1) = (f, sh)) := getD_of hf.out
      have SM : Hid (sumTo (ofS l s) (k + 1 + 1) = X + inS l s (k + 1) * sh / 1000) := by show _ = _; rw [sumTo, ← hX.out, ofS, FR.out]
      by_cases hsf : s ≤ f
      · have Z : Hid (X = sumTo (ofS l s) (k + 1 + 1)) := by
          show _ = _
          rw [SM.out, inS, FR.out]
          show X = X + max 0 (min s _ - f) * sh / 1000
          rw [show max 0 (min s (upt l (k + 1)) - f) = 0 by omega]
          simp
        have Z' := Z.out
        by_cases hk1 : k + 1 < n
        · obtain ⟨g, sg, b', off', hA, hg, hcg, hcsg⟩ := hR.at2 hk1
          simp only [Option.some.injEq, Addr.mk.injEq, and_true] at hA
          obtain ⟨rfl, rfl⟩ := hA
          have u1 := (HF.out.up (k + 1) (by omega)).2 (by omega)
          rw [FR.out, getD_of hg.out] at u1
          obtain ⟨q5, q6⟩ := HF.out.top (k + 1) (by omega)
          rw [getD_of hg.out] at q5 q6
          dsimp only at u1 q5 q6
          clear Z' YB hn
          have w1 : (k : Int) + 1 < n := by omega
          go_wp2
          go_roundw
          case rel => exact ⟨k + 1, m, X, by omega, by go_num, rfl, Z.out, hw.out⟩
          case measure => simp [intOf]; omega
        · have w1 : (n : Int) ≤ (k : Int) + 1 := by omega
          clear Z' YB hn
          go_wp2
          go_roundw
          case rel => exact ⟨k + 1, m, X, by omega, by go_num, rfl, Z.out, hw.out⟩
          case measure => simp [intOf]; omega
      · by_cases hk1 : k + 1 < n
        · obtain ⟨g, sg, b', off', hA, hg, hcg, hcsg⟩ := hR.at2 hk1
          simp only [Option.some.injEq, Addr.mk.injEq, and_true] at hA
          obtain ⟨rfl, rfl⟩ := hA
          have u1 := (HF.out.up (k + 1) (by omega)).2 (by omega)
          rw [FR.out, getD_of hg.out] at u1
          obtain ⟨q5, q6⟩ := HF.out.top (k + 1) (by omega)
          rw [getD_of hg.out] at q5 q6
          dsimp only at u1 q5 q6
          have UP : Hid (upt l (k + 1) = g) := by show _ = _; rw [upt, if_pos (by omega), getD_of hg.out]
          have w1 : (k : Int) + 1 < n := by omega
          by_cases hsg : s ≤ g
          · obtain ⟨P, hP⟩ : ∃ P, (s - f) * sh = P := ⟨_, rfl⟩
            have P0 : 0 ≤ P := by rw [← hP]; exact Int.mul_nonneg (by omega) (by omega)
            have P1 : P ≤ 281474976710656000 := by
              rw [← hP]
              exact Int.le_trans (Int.mul_le_mul (show s - f ≤ 281474976710656 by omega) (show sh ≤ 1000 by omega) (by omega) (by omega)) (by omega)
            have NX : Hid (X + P / 1000 = sumTo (ofS l s) (k + 1 + 1)) := by
              show _ = _
              rw [SM.out, inS, FR.out, UP.out]
              show _ = X + max 0 (min s g - f) * sh / 1000
              rw [show max 0 (min s g - f) = s - f by omega, hP]
            rw [← NX.out] at YB
            clear hn
            go_wp2
            go_roundw
            case rel => exact ⟨k + 1, m, X + P / 1000, by omega, by go_num, rfl, NX.out, hw.out⟩
            case measure => simp [intOf]; omega
          · obtain ⟨P, hP⟩ : ∃ P, (g - f) * sh = P := ⟨_, rfl⟩
            have P0 : 0 ≤ P := by rw [← hP]; exact Int.mul_nonneg (by omega) (by omega)
            have P1 : P ≤ 281474976710656000 := by
              rw [← hP]
              exact Int.le_trans (Int.mul_le_mul (show g - f ≤ 281474976710656 by omega) (show sh ≤ 1000 by omega) (by omega) (by omega)) (by omega)
            have NX : Hid (X + P / 1000 = sumTo (ofS l s) (k + 1 + 1)) := by
              show _ = _
              rw [SM.out, inS, FR.out, UP.out]
              show _ = X + max 0 (min s g - f) * sh / 1000
              rw [show max 0 (min s g - f) = g - f by omega, hP]
            rw [← NX.out] at YB
            clear hn
            go_wp2
            go_quiet (fail)
            go_wp2
            go_roundw
            case rel => exact ⟨k + 1, m + nq, X + P / 1000, by omega, by go_num, rfl, NX.out, drewN_more' hw.out nq⟩
            case measure => simp [intOf]; omega
        · have UP : Hid (upt l (k + 1) = 281474976710656) := by show _ = _; rw [upt, if_neg (by omega)]
          have w1 : (n : Int) ≤ (k : Int) + 1 := by omega
          obtain ⟨P, hP⟩ : ∃ P, (s - f) * sh = P := ⟨_, rfl⟩
          have P0 : 0 ≤ P := by rw [← hP]; exact Int.mul_nonneg (by omega) (by omega)
          have P1 : P ≤ 281474976710656000 := by
            rw [← hP]
            exact Int.le_trans (Int.mul_le_mul (show s - f ≤ 281474976710656 by omega) (show sh ≤ 1000 by omega) (by omega) (by omega)) (by omega)
          have NX : Hid (X + P / 1000 = sumTo (ofS l s) (k + 1 + 1)) := by
            show _ = _
            rw [SM.out, inS, FR.out, UP.out]
            show _ = X + max 0 (min s 281474976710656 - f) * sh / 1000
            rw [show max 0 (min s 281474976710656 - f) = s - f by omega, hP]
          rw [← NX.out] at YB
          clear hn
          go_wp2
          go_roundw
          case rel => exact ⟨k + 1, m, X + P / 1000, by omega, by go_num, rfl, NX.out, hw.out⟩
          case measure => simp [intOf]; omega
    · obtain rfl : k = n := by omega
      go_wp2
      go_ret
      exact ⟨ret_int (by rw [hX.out, payOf, ← HN.out]), m, hw.out⟩
theorem goTop_yes (A : Option Addr) (n c : Nat) (l : List (Int × Int)) (w : World) (h : Rd two 2 w A n l) (hl : ladB l = true) :
    Calls Try.prog 24 #[.slice A n c] w fun e w' => e = .returned (.tuple #[.int .i64 (payOf l 281474976710656), .int .i64 0]) ∧ Below w.heap.size w w' := by
  have n16 := (fine_of hl).2
  rw [← h.1] at n16
  have e : toldB l 281474976710656 = true := by unfold toldB; rw [hl]; decide
  have := goTop A n c l w h (by omega)
  rwa [payA, payE, if_pos e, if_pos e] at this
theorem goTop_no (A : Option Addr) (n c : Nat) (l : List (Int × Int)) (w : World) (h : Rd two 2 w A n l) (hm : n ≤ 100) (hl : ladB l = false) :
    Calls Try.prog 24 #[.slice A n c] w fun e w' => e = .returned (.tuple #[.int .i64 0, .int .i64 2]) ∧ Below w.heap.size w w' := by
  have e : ¬ toldB l 281474976710656 = true := by unfold toldB; rw [hl]; decide
  have := goTop A n c l w h hm
  rwa [payA, payE, if_neg e, if_neg e] at this
end Go.Proofs.Ytjnkokfneinjeaa
