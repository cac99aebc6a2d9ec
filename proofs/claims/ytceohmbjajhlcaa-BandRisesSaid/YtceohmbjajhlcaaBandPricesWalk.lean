/-
  The law BandPrices returns true, for every list of bands, every price over them and every distance, and leaves what was there as it was. No conditions but the arguments' readings.
-/
import Derived.Test.YtceohmbjajhlcaaBandI
namespace Go.Proofs.Ytceohmbjajhlcaa
open Go.ChangeShapes Go.WideShapes Go.ChangeAt Go.RowKit
set_option linter.unusedVariables false
theorem steps_small {w : World} {A : Option Addr} {N n : Nat} {l : List (Int × Int)} {over : Int} (h : Rd one 1 w A N (bSteps l over)) (hl : n = l.length) (hn : n ≤ 200) : N ≤ 9223372036854775807 := by
  have h1 := h.1
  have h2 := compact_le (bAll l over)
  have h3 : (bAll l over).length ≤ l.length + 1 := by
    unfold bAll
    rw [List.length_append, List.length_map]
    split <;> simp
  unfold bSteps at h1
  omega
theorem same_self {A B : Option Addr} {n c n' c' : Nat} {l : List Int} {w : World} (h : Rd one 1 w A n l) (h' : Rd one 1 w B n' l) (hm : n ≤ 9223372036854775807) (hm' : n' ≤ 9223372036854775807) :
    Calls Try.prog 28 #[.slice A n c, .slice B n' c'] w fun e w' => e = .returned (.bool true) ∧ ∃ m, w' = w.drewN m := (sameInts A B n c n' c' l l w h h' hm hm').mono fun e w' ⟨he, hw⟩ => ⟨by rw [he]; simp, hw⟩
theorem refPrice_is {A : Option Addr} {n c : Nat} {l : List (Int × Int)} {over far p : Int} {w : World} (hp : bPrice l over far = p) (h : Rd two 2 w A n l) (hm : n ≤ 9223372036854775807) :
    Calls Try.prog 31 #[.slice A n c, .int .i64 over, .int .i64 far] w fun e w' => e = .returned (.int .i64 p) ∧ w = w' := by rw [← hp]; exact refPrice A n c l over far w h hm
end Go.Proofs.Ytceohmbjajhlcaa
namespace Go.Proofs.Ytceohmbjajhlcaa.bandPricesWalk
open Go.ChangeShapes Go.WideShapes Go.ChangeAt Go.RowKit
set_option linter.unusedVariables false

theorem long (A0 : Option Addr) (n0 c0 : Nat) (l0 : List (Int × Int)) (a1 : Int) (a2 : Int) (w : World) (rd0 : Rd two 2 w A0 n0 l0) (hm0 : n0 ≤ 9223372036854775807) (h : 200 < n0) :
    Calls Try.prog 7 #[.slice A0 n0 c0, .int .i64 a1, .int .i64 a2] w fun e w' => e = .returned (.bool true) ∧ Below w.heap.size w w' := by
  go_enter Try.func7, Try.ntmps7
  go_wp2_with (go_at_call 24; refine (awake27 _).mono ?_; rintro e w1 ⟨rfl, b1⟩)
  go_ret
  exact ⟨rfl, b1⟩
theorem wrong (A0 : Option Addr) (n0 c0 : Nat) (l0 : List (Int × Int)) (a1 : Int) (a2 : Int) (w : World) (rd0 : Rd two 2 w A0 n0 l0) (hm0 : n0 ≤ 9223372036854775807) (h : n0 ≤ 200) (hB : bandB l0 a1 = false) :
    Calls Try.prog 7 #[.slice A0 n0 c0, .int .i64 a1, .int .i64 a2] w fun e w' => e = .returned (.bool true) ∧ Below w.heap.size w w' := by
  have HB := Lib.hid hB
  have HN : Hid (¬ (bandB l0 a1 = true ∧ 0 ≤ a2 ∧ a2 ≤ 4294967296)) := by
    rintro ⟨hh, _⟩
    rw [hB] at hh; cases hh
  clear hB
  go_enter Try.func7, Try.ntmps7
  go_wp2_with (first
    | (go_at_call 24; refine (awake27 _).mono ?_; rintro e w1 ⟨rfl, b1⟩; have r1 := rd0.below b1 (Nat.le_refl _))
    | (go_at_call 25; refine (price_no _ _ _ _ _ _ _ r1 hm0 HN.out).mono ?_; rintro e w2 ⟨rfl, b2'⟩; have b2 := b1.trans (b2'.mono b1.size); have r2 := rd0.below b2 (Nat.le_refl _))
    | (go_at_call 26; refine (refBand_is HB.out r2 hm0).mono ?_; rintro e w3 ⟨rfl, m, rfl⟩; have b3 := below_dN b2 m; have r3 := r2.drewN m)
    | (go_at_call 27; refine (goBand_is HB.out r3 hm0).mono ?_; rintro e w4 ⟨rfl, b4'⟩; have b4 := b3.trans (b4'.mono b3.size)))
  go_ret
  exact ⟨rfl, b4⟩
set_option maxHeartbeats 800000 in
theorem right (A0 : Option Addr) (n0 c0 : Nat) (l0 : List (Int × Int)) (a1 : Int) (a2 : Int) (w : World) (rd0 : Rd two 2 w A0 n0 l0) (hm0 : n0 ≤ 9223372036854775807) (h : n0 ≤ 200) (hB : bandB l0 a1 = true) :
    Calls Try.prog 7 #[.slice A0 n0 c0, .int .i64 a1, .int .i64 a2] w fun e w' => e = .returned (.bool true) ∧ Below w.heap.size w w' := by
  have HB := Lib.hid hB
  have hl := Lib.hid rd0.1
  have h5 : n0 ≤ 100000 := by omega
  by_cases hf : 0 ≤ a2 ∧ a2 ≤ 4294967296
  · obtain ⟨f0, f1⟩ := hf
    clear hB
    obtain ⟨p, hp⟩ : ∃ p, Hid (bPrice l0 a1 a2 = p) := ⟨_, rfl⟩
    go_enter Try.func7, Try.ntmps7
    go_wp2_with (first
      | (go_at_call 24; refine (awake27 _).mono ?_; rintro e w1 ⟨rfl, b1⟩; have r1 := rd0.below b1 (Nat.le_refl _))
      | (go_at_call 25; refine (price_is hp.out r1 HB.out f0 f1).mono ?_; rintro e w2 ⟨rfl, b2'⟩; have b2 := b1.trans (b2'.mono b1.size); have r2 := rd0.below b2 (Nat.le_refl _))
      | (go_at_call 26; refine (refBand_is HB.out r2 hm0).mono ?_; rintro e w3 ⟨rfl, m, rfl⟩; have b3 := below_dN b2 m; have r3 := r2.drewN m)
      | (go_at_call 27; refine (goBand_is HB.out r3 hm0).mono ?_; rintro e w4 ⟨rfl, b4'⟩; have b4 := b3.trans (b4'.mono b3.size); have r4 := rd0.below b4 (Nat.le_refl _))
      | (go_at_call 29; refine (goSteps _ _ _ _ _ _ r4 h5).mono ?_; rintro e w5 ⟨A5, N5, c5, rfl, R5, b5'⟩; have b5 := b4.trans (b5'.mono b4.size); have r5 := rd0.below b5 (Nat.le_refl _))
      | (go_at_call 30; refine (refSteps _ _ _ _ _ _ r5 HB.out).mono ?_; rintro e w6 ⟨A6, N6, c6, rfl, R6, b6'⟩; have b6 := b5.trans (b6'.mono b5.size); have R5' := R5.below b6' (Nat.le_refl _); have r6 := rd0.below b6 (Nat.le_refl _))
      | (go_at_call 28; refine (same_self R5' R6 (steps_small R5' hl.out h) (steps_small R6 hl.out h)).mono ?_; rintro e w7 ⟨rfl, m7, rfl⟩; have r7 := r6.drewN m7; have b7 := below_dN b6 m7)
      | (go_at_call 31; refine (refPrice_is hp.out r7 hm0).mono ?_; rintro e w8 ⟨rfl, rfl⟩))
    go_ret
    exact ⟨rfl, b7⟩
  · have HN : Hid (¬ (bandB l0 a1 = true ∧ 0 ≤ a2 ∧ a2 ≤ 4294967296)) := fun hh => hf hh.2
    clear hB
    by_cases f0 : 0 ≤ a2
    · have f1 : ¬ a2 ≤ 4294967296 := fun h => hf ⟨f0, h⟩
      clear hf
      go_enter Try.func7, Try.ntmps7
      go_wp2_with (first
        | (go_at_call 24; refine (awake27 _).mono ?_; rintro e w1 ⟨rfl, b1⟩; have r1 := rd0.below b1 (Nat.le_refl _))
        | (go_at_call 25; refine (price_no _ _ _ _ _ _ _ r1 hm0 HN.out).mono ?_; rintro e w2 ⟨rfl, b2'⟩; have b2 := b1.trans (b2'.mono b1.size); have r2 := rd0.below b2 (Nat.le_refl _))
        | (go_at_call 26; refine (refBand_is HB.out r2 hm0).mono ?_; rintro e w3 ⟨rfl, m, rfl⟩; have b3 := below_dN b2 m; have r3 := r2.drewN m)
        | (go_at_call 27; refine (goBand_is HB.out r3 hm0).mono ?_; rintro e w4 ⟨rfl, b4'⟩; have b4 := b3.trans (b4'.mono b3.size); have r4 := rd0.below b4 (Nat.le_refl _))
        | (go_at_call 29; refine (goSteps _ _ _ _ _ _ r4 h5).mono ?_; rintro e w5 ⟨A5, N5, c5, rfl, R5, b5'⟩; have b5 := b4.trans (b5'.mono b4.size); have r5 := rd0.below b5 (Nat.le_refl _))
        | (go_at_call 30; refine (refSteps _ _ _ _ _ _ r5 HB.out).mono ?_; rintro e w6 ⟨A6, N6, c6, rfl, R6, b6'⟩; have b6 := b5.trans (b6'.mono b5.size); have R5' := R5.below b6' (Nat.le_refl _); have r6 := rd0.below b6 (Nat.le_refl _))
        | (go_at_call 28; refine (same_self R5' R6 (steps_small R5' hl.out h) (steps_small R6 hl.out h)).mono ?_; rintro e w7 ⟨rfl, m7, rfl⟩; have r7 := r6.drewN m7; have b7 := below_dN b6 m7))
      go_ret
      exact ⟨rfl, b7⟩
    · clear hf
      go_enter Try.func7, Try.ntmps7
      go_wp2_with (first
        | (go_at_call 24; refine (awake27 _).mono ?_; rintro e w1 ⟨rfl, b1⟩; have r1 := rd0.below b1 (Nat.le_refl _))
        | (go_at_call 25; refine (price_no _ _ _ _ _ _ _ r1 hm0 HN.out).mono ?_; rintro e w2 ⟨rfl, b2'⟩; have b2 := b1.trans (b2'.mono b1.size); have r2 := rd0.below b2 (Nat.le_refl _))
        | (go_at_call 26; refine (refBand_is HB.out r2 hm0).mono ?_; rintro e w3 ⟨rfl, m, rfl⟩; have b3 := below_dN b2 m; have r3 := r2.drewN m)
        | (go_at_call 27; refine (goBand_is HB.out r3 hm0).mono ?_; rintro e w4 ⟨rfl, b4'⟩; have b4 := b3.trans (b4'.mono b3.size); have r4 := rd0.below b4 (Nat.le_refl _))
        | (go_at_call 29; refine (goSteps _ _ _ _ _ _ r4 h5).mono ?_; rintro e w5 ⟨A5, N5, c5, rfl, R5, b5'⟩; have b5 := b4.trans (b5'.mono b4.size); have r5 := rd0.below b5 (Nat.le_refl _))
        | (go_at_call 30; refine (refSteps _ _ _ _ _ _ r5 HB.out).mono ?_; rintro e w6 ⟨A6, N6, c6, rfl, R6, b6'⟩; have b6 := b5.trans (b6'.mono b5.size); have R5' := R5.below b6' (Nat.le_refl _); have r6 := rd0.below b6 (Nat.le_refl _))
        | (go_at_call 28; refine (same_self R5' R6 (steps_small R5' hl.out h) (steps_small R6 hl.out h)).mono ?_; rintro e w7 ⟨rfl, m7, rfl⟩; have r7 := r6.drewN m7; have b7 := below_dN b6 m7))
      go_ret
      exact ⟨rfl, b7⟩

theorem walk (A0 : Option Addr) (n0 c0 : Nat) (l0 : List (Int × Int)) (a1 : Int) (a2 : Int) (w : World) (rd0 : Rd two 2 w A0 n0 l0) (ft0 : ∀ r ∈ l0, ∀ v ∈ two r, Fits v) (ge0 : n0 ≤ c0) (mx0 : c0 ≤ maxLen) (w1 : (Lit.int .i64 a1).wf = true) (w2 : (Lit.int .i64 a2).wf = true) :
    Calls Try.prog 7 #[.slice A0 n0 c0, .int .i64 a1, .int .i64 a2] w fun e w' => e = .returned (.bool true) ∧ Below w.heap.size w w' := by
  have hm0 : n0 ≤ 9223372036854775807 := by unfold maxLen at mx0; omega
  rcases Nat.lt_or_ge 200 n0 with h | h
  · exact long A0 n0 c0 l0 a1 a2 w rd0 hm0 h
  · rcases hB : bandB l0 a1 with _ | _
    · exact wrong A0 n0 c0 l0 a1 a2 w rd0 hm0 h hB
    · exact right A0 n0 c0 l0 a1 a2 w rd0 hm0 h hB
end Go.Proofs.Ytceohmbjajhlcaa.bandPricesWalk
