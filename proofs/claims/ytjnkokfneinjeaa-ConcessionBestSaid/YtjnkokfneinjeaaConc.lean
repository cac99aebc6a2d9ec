/-
  The functions of the package concession, and of its reference, return what the plain functions below compute. No conditions but the arguments' readings.
-/
import Derived.Test.YtjnkokfneinjeaaRows
import Derived.Test.YtjnkokfneinjeaaBase
import Derived.Outline
import Derived.Deep.QuietTactic
import Derived.BigQuiet
namespace Go.Proofs.Ytjnkokfneinjeaa
open Go.ChangeShapes Go.WideShapes Go.ChangeAt Go.RowKit
set_option linter.unusedVariables false

def okShare (x : Int) : Bool := decide (0 ≤ x ∧ x ≤ 1000)
def rightB (l : List Int) : Bool := decide (1 ≤ l.length ∧ l.length ≤ 16 ∧ l[0]? = some 1000) && l.all okShare

theorem rightB_bad {l : List Int} {k : Nat} {x : Int} (h : l[k]? = some x) (hx : x < 0 ∨ 1000 < x) : rightB l = false := by
  have : l.all okShare = false := by
    rw [List.all_eq_false]
    exact ⟨x, mem_of_at h, by simp [okShare]; omega⟩
  simp [rightB, this]

theorem refRight (A : Option Addr) (n c : Nat) (l : List Int) (w : World) (h : Rd one 1 w A n l) (hm : n ≤ 9223372036854775807) :
    Calls Try.prog 14 #[.slice A n c] w fun e w' => e = .returned (.bool (rightB l)) ∧ w = w' := by
  go_enter Try.func14, Try.ntmps14
  go_wp2
  go_loop [3] (fun i => ∃ k : Nat, k ≤ n ∧ i = .int .i64 k ∧ Hid ((l.take k).all okShare = true)) (fun i => n - (intOf i).toNat)
  case atStart => exact ⟨0, Nat.zero_le _, rfl, rfl⟩
  case round =>
    obtain ⟨k, hk, rfl, hall⟩ := hrel
    by_cases hlt : k < n
    · obtain ⟨x, b, off, rfl, hx, hc⟩ := h.at1 hlt
      by_cases h1 : x < 0
      · go_wp2
        go_ret
        exact ⟨ret_bool (rightB_bad hx.out (.inl h1)).symm, rfl⟩
      · by_cases h2 : 1000 < x
        · go_wp2
          go_ret
          exact ⟨ret_bool (rightB_bad hx.out (.inr h2)).symm, rfl⟩
        · go_wp2
          go_round
          case rel => exact ⟨k + 1, by omega, by go_num, by
            show (l.take (k + 1)).all okShare = true
            rw [take_succ_of hx.out, List.all_append, hall.out]; simp [okShare]; omega⟩
          case measure => simp [intOf]; omega
    · obtain rfl : k = n := by omega
      have hn := h.1
      have hall' : l.all okShare = true := by have := hall.out; rwa [hn, List.take_length] at this
      have H : Hid (rightB l = decide (1 ≤ k ∧ k ≤ 16 ∧ l[0]? = some 1000)) := by show _ = _; rw [rightB, hall', Bool.and_true, hn]
      clear hn hall' hall
      by_cases h0 : k = 0
      · subst h0
        go_wp2
        go_ret
        exact ⟨ret_bool (by rw [H.out]; simp), rfl⟩
      · by_cases h16 : 16 < k
        · go_wp2
          go_ret
          exact ⟨ret_bool (by rw [H.out]; simp; omega), rfl⟩
        · obtain ⟨x, b, off, rfl, hx, hc⟩ := h.hd1 (by omega)
          go_wp2
          go_ret
          exact ⟨ret_bool (by rw [H.out, hx.out, Bool.eq_iff_iff]; simp; omega), rfl⟩

theorem goRight (A : Option Addr) (n c : Nat) (l : List Int) (w : World) (h : Rd one 1 w A n l) (hm : n ≤ 9223372036854775807) :
    Calls Try.prog 13 #[.slice A n c] w fun e w' => e = .returned (.bool (rightB l)) ∧ w = w' := by
  have H : Hid (rightB l = (decide (1 ≤ n ∧ n ≤ 16 ∧ l[0]? = some 1000) && l.all okShare)) := by show _ = _; rw [rightB, h.1]
  by_cases h0 : n = 0
  · subst h0
    go_enter Try.func13, Try.ntmps13
    go_wp2
    go_ret
    exact ⟨ret_bool (by rw [H.out]; simp), rfl⟩
  · by_cases h16 : 16 < n
    · go_enter Try.func13, Try.ntmps13
      go_wp2
      go_ret
      exact ⟨ret_bool (by rw [H.out]; simp; omega), rfl⟩
    · obtain ⟨x, b, off, rfl, hx, hc⟩ := h.hd1 (by omega)
      have b0 : ((n : Int) == 0) = false := by simp; omega
      have b1 : (n : Int) ≤ 16 := by omega
      by_cases h1 : x = 1000
      · subst h1
        have H' : Hid (rightB l = l.all okShare) := by
          show _ = _
          rw [H.out, hx.out]; simp; omega
        clear H
        go_enter Try.func13, Try.ntmps13
        go_wp2
        go_loop [21] (fun i => ∃ k : Nat, k ≤ n ∧ i = .int .i64 k ∧ Hid ((l.take k).all okShare = true)) (fun i => n - (intOf i).toNat)
        case atStart => exact ⟨0, Nat.zero_le _, rfl, rfl⟩
        case round =>
          obtain ⟨k, hk, rfl, hall⟩ := hrel
          by_cases hlt : k < n
          · obtain ⟨y, b', off', hA, hy, hc'⟩ := h.at1 hlt
            obtain ⟨rfl, rfl⟩ : b = b' ∧ off = off' := by simpa using hA
            clear hA
            by_cases h2 : y < 0
            · go_wp2
              go_ret
              exact ⟨ret_bool (rightB_bad hy.out (.inl h2)).symm, rfl⟩
            · by_cases h3 : 1000 < y
              · go_wp2
                go_ret
                exact ⟨ret_bool (rightB_bad hy.out (.inr h3)).symm, rfl⟩
              · go_wp2
                go_round
                case rel => exact ⟨k + 1, by omega, by go_num, by
                  show (l.take (k + 1)).all okShare = true
                  rw [take_succ_of hy.out, List.all_append, hall.out]; simp [okShare]; omega⟩
                case measure => simp [intOf]; omega
          · obtain rfl : k = n := by omega
            have hall' : l.all okShare = true := by have := hall.out; rwa [h.1, List.take_length] at this
            have H2 : Hid (rightB l = true) := by show _ = _; rw [H'.out, hall']
            clear hall' H' hall
            go_wp2
            go_ret
            exact ⟨ret_bool H2.out.symm, rfl⟩
      · have h1' : (x != 1000) = true := by simpa using h1
        go_enter Try.func13, Try.ntmps13
        go_wp2
        go_ret
        exact ⟨ret_bool (by rw [H.out, hx.out]; simp; omega), rfl⟩
/-- May there be a price of these? -/
def may (l : List Int) (cl p : Int) : Prop := rightB l = true ∧ 0 ≤ cl ∧ cl < l.length ∧ 0 ≤ p ∧ p ≤ 281474976710656

theorem share_bd {l : List Int} {k : Nat} {x : Int} (hr : rightB l = true) (h : l[k]? = some x) : 0 ≤ x ∧ x ≤ 1000 := by
  have h1 : l.all okShare = true := by simp [rightB] at hr; simpa using hr.2
  have := List.all_eq_true.1 h1 x (mem_of_at h)
  simpa [okShare] using this
theorem mul_bd {p x : Int} (h1 : 0 ≤ p) (h2 : p ≤ 281474976710656) (h3 : 0 ≤ x) (h4 : x ≤ 1000) : 0 ≤ p * x ∧ p * x ≤ 281474976710656000 :=
  ⟨Int.mul_nonneg h1 h3, by have := Int.mul_le_mul h2 h4 h3 (by omega); omega⟩

theorem apply_no (A : Option Addr) (n c : Nat) (l : List Int) (cl p : Int) (w : World) (h : Rd one 1 w A n l) (hm : n ≤ 9223372036854775807) (hno : ¬ may l cl p) :
    Calls Try.prog 12 #[.slice A n c, .int .i64 cl, .int .i64 p] w fun e w' => e = .returned (.tuple #[.int .i64 0, .int .i64 2]) ∧ w = w' := by
  have hno' : rightB l = false ∨ cl < 0 ∨ (n : Int) ≤ cl ∨ p < 0 ∨ 281474976710656 < p := by
    rw [h.1]
    by_cases hr : rightB l = true
    · have : ¬ (0 ≤ cl ∧ cl < l.length ∧ 0 ≤ p ∧ p ≤ 281474976710656) := fun x => hno ⟨hr, x⟩
      omega
    · exact .inl (by simpa using hr)
  clear hno
  rcases hr : rightB l with _ | _
  · clear hno'
    go_enter Try.func12, Try.ntmps12
    go_wp2_with (first | (go_at_call 13; refine (goRight _ _ _ _ _ h hm).mono ?_; rintro e w' ⟨rfl, rfl⟩) | go_in)
    go_ret2
    exact ⟨rfl, rfl⟩
  · rw [hr] at hno'
    have hno : cl < 0 ∨ (n : Int) ≤ cl ∨ p < 0 ∨ 281474976710656 < p := by simpa using hno'
    clear hno'
    by_cases h1 : cl < 0
    · clear hno
      go_enter Try.func12, Try.ntmps12
      go_wp2_with (first | (go_at_call 13; refine (goRight _ _ _ _ _ h hm).mono ?_; rintro e w' ⟨rfl, rfl⟩) | go_in)
      go_ret2
      exact ⟨rfl, rfl⟩
    · by_cases h2 : (n : Int) ≤ cl
      · clear hno
        go_enter Try.func12, Try.ntmps12
        go_wp2_with (first | (go_at_call 13; refine (goRight _ _ _ _ _ h hm).mono ?_; rintro e w' ⟨rfl, rfl⟩) | go_in)
        go_ret2
        exact ⟨rfl, rfl⟩
      · by_cases h3 : p < 0
        · clear hno
          go_enter Try.func12, Try.ntmps12
          go_wp2_with (first | (go_at_call 13; refine (goRight _ _ _ _ _ h hm).mono ?_; rintro e w' ⟨rfl, rfl⟩) | go_in)
          go_ret2
          exact ⟨rfl, rfl⟩
        · have h4 : 281474976710656 < p := by omega
          clear hno
          go_enter Try.func12, Try.ntmps12
          go_wp2_with (first | (go_at_call 13; refine (goRight _ _ _ _ _ h hm).mono ?_; rintro e w' ⟨rfl, rfl⟩) | go_in)
          go_ret2
          exact ⟨rfl, rfl⟩

theorem apply_yes (A : Option Addr) (n c : Nat) (l : List Int) (cl x p : Int) (w : World) (h : Rd one 1 w A n l) (hm : n ≤ 9223372036854775807) (hr : rightB l = true) (hcl : 0 ≤ cl) (hx : l[cl.toNat]? = some x) (hp : 0 ≤ p) (hp' : p ≤ 281474976710656) :
    Calls Try.prog 12 #[.slice A n c, .int .i64 cl, .int .i64 p] w fun e w' => e = .returned (.tuple #[.int .i64 (p * x / 1000), .int .i64 0]) ∧ w = w' := by
  obtain ⟨k, rfl⟩ := Int.eq_ofNat_of_zero_le hcl
  rw [Int.toNat_natCast] at hx
  have hk : k < n := by rw [h.1]; exact (List.getElem?_eq_some_iff.1 hx).1
  obtain ⟨x', b, off, rfl, hx', hc⟩ := h.at1 hk
  obtain rfl : x = x' := by have := hx'.out; rw [hx] at this; simpa using this
  obtain ⟨hx0, hx1⟩ := share_bd hr hx
  obtain ⟨hb0, hb1⟩ := mul_bd hp hp' hx0 hx1
  clear hx
  go_enter Try.func12, Try.ntmps12
  go_wp2_with (first | (go_at_call 13; refine (goRight _ _ _ _ _ h hm).mono ?_; rintro e w' ⟨rfl, rfl⟩) | go_in)
  go_ret2
  exact ⟨rfl, rfl⟩

theorem refApply_any (A : Option Addr) (n c : Nat) (l : List Int) (cl x p : Int) (w : World) (h : Rd one 1 w A n l) (hm : n ≤ 9223372036854775807) (hr : rightB l = true) (hcl : 0 ≤ cl) (hx : l[cl.toNat]? = some x) (hp : 0 ≤ p) (hp' : p ≤ 281474976710656) :
    Calls Try.prog 15 #[.slice A n c, .int .i64 cl, .int .i64 p] w fun e w' => e = .returned (.int .i64 (p * x / 1000)) ∧ ∃ m, w' = w.drewN m := by
  obtain ⟨k, rfl⟩ := Int.eq_ofNat_of_zero_le hcl
  rw [Int.toNat_natCast] at hx
  have hk : k < n := by rw [h.1]; exact (List.getElem?_eq_some_iff.1 hx).1
  obtain ⟨x', b, off, rfl, hx', hc⟩ := h.at1 hk
  obtain rfl : x = x' := by have := hx'.out; rw [hx] at this; simpa using this
  obtain ⟨hx0, hx1⟩ := share_bd hr hx
  have q0 : 0 ≤ p / 1000 := by omega
  have q1 : p / 1000 ≤ 281474976710656 := by omega
  have m0 : 0 ≤ p % 1000 := by omega
  have m1 : p % 1000 ≤ 281474976710656 := by omega
  obtain ⟨qb0, qb1⟩ := mul_bd q0 q1 hx0 hx1
  obtain ⟨mb0, mb1⟩ := mul_bd m0 m1 hx0 hx1
  have H : Hid (p / 1000 * x + p % 1000 * x / 1000 = p * x / 1000) := by
    show _ = _
    have e : p * x = p % 1000 * x + p / 1000 * x * 1000 := by
      have : p = p % 1000 + p / 1000 * 1000 := by omega
      calc p * x = (p % 1000 + p / 1000 * 1000) * x := by rw [← this]
        _ = _ := by rw [Int.add_mul, Int.mul_right_comm]
    rw [e, Int.add_mul_ediv_right _ _ (by omega)]; omega
  clear hx
  go_enter Try.func15, Try.ntmps15
  go_wp2
  go_quiet (fail)
  go_wp2
  go_ret
  exact ⟨ret_int H.out, nq, rfl⟩

theorem right_ex : rightB [1000, 750] = true := by decide
theorem awake28 (w : World) : Calls Try.prog 11 #[] w fun e w' => e = .returned (.bool true) ∧ Below w.heap.size w w' := by
  go_enter Try.func11, Try.ntmps11
  go_wp2_with fail
  refine (apply_yes _ 2 2 [1000, 750] 1 750 101 _ (Rd.made one 1 w 3 [1000, 750] #[.int .i64 1000, .int .i64 750] (by simp [one]) rfl) (by omega) right_ex (by omega) rfl (by omega) (by omega)).mono ?_
  rintro e w' ⟨rfl, rfl⟩
  go_wp2
  go_ret
  exact ⟨rfl, (Below.refl _ _).alloc (Nat.le_refl _) _⟩
end Go.Proofs.Ytjnkokfneinjeaa
