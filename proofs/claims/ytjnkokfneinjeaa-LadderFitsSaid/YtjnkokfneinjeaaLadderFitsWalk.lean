/-
  LadderFits, walked: it returns true, whatever the rungs and the two sums. Conditions: the arguments' readings.
-/
import Derived.Test.YtjnkokfneinjeaaLadderPaysWalk
namespace Go.Proofs.Ytjnkokfneinjeaa
open Go.ChangeShapes Go.WideShapes Go.ChangeAt Go.RowKit
set_option linter.unusedVariables false

theorem quietB {w w1 : World} {n : Nat} (h : Below w.heap.size w w1) (m : Nat) : Below w.heap.size w (w1.drewN m) := below_dN h m
namespace ladderFitsWalk
set_option maxHeartbeats 4000000 in
theorem walk (A0 : Option Addr) (n0 c0 : Nat) (l0 : List (Int × Int)) (s1a s1b : Int) (w : World) (rd0 : Rd two 2 w A0 n0 l0) (ft0 : ∀ r ∈ l0, ∀ v ∈ two r, Fits v) (ge0 : n0 ≤ c0) (mx0 : c0 ≤ maxLen) (ws1a : (Lit.int .i64 s1a).wf = true) (ws1b : (Lit.int .i64 s1b).wf = true) :
    Calls Try.prog 9 #[.slice A0 n0 c0, .agg #[.int .i64 s1a, .int .i64 s1b]] w fun e w' => e = .returned (.bool true) ∧ Below w.heap.size w w' := by
  unfold maxLen at mx0
  have fa := wf_fits ws1a
  have fb := wf_fits ws1b
  clear ws1a ws1b
  by_cases h6 : 100 < n0
  · clear rd0
    go_enter Try.func9, Try.ntmps9
    go_wp2_with fail
    refine (awake31 _).mono ?_
    rintro e w1 ⟨rfl, hb1⟩
    have HB1 := Lib.hid (below_boxed hb1)
    clear hb1
    go_wp2_with fail
    go_ret
    exact ⟨rfl, HB1.out⟩
  have n6 : n0 ≤ 100 := by omega
  have RD := Lib.hid rd0
  clear rd0 h6 ft0
  have FA := Lib.hid fa
  have FB := Lib.hid fb
  obtain ⟨p1, p2⟩ := fa
  obtain ⟨p3, p4⟩ := fb
  rcases Int.lt_trichotomy s1a s1b with hab | rfl | hab
  · rcases hl : ladB l0 with _ | _
    · have HL := Lib.hid hl
      clear hl
      go_enter Try.func9, Try.ntmps9
      go_wp2_with fail
      refine (awake31 _).mono ?_
      rintro e w1 ⟨rfl, hb1⟩
      have BK : Hid (Bk w1 w.heap.size 30 #[.int .i64 s1a, .int .i64 s1b]) := (Bk.new w 30 #[.int .i64 s1a, .int .i64 s1b]).below hb1 (by simp)
      have HB1 := Lib.hid (below_boxed hb1)
      have c0' : w1.cell? ⟨w.heap.size, 0, none⟩ = some (.int .i64 s1a) := BK.out.cell 0
      have c1' : w1.cell? ⟨w.heap.size, 1, none⟩ = some (.int .i64 s1b) := BK.out.cell 1
      clear hb1
      go_wp2_with fail
      go_quiet (fail)
      clear c0' c1'
      obtain ⟨w2, hw2⟩ : ∃ w2, w2 = w1.drewN nq := ⟨_, rfl⟩
      have HB2 : Hid (Below w.heap.size w w2) := by show Below _ _ _; rw [hw2]; exact below_dN HB1.out nq
      rw [← hw2]
      clear hw2
      have R2 := Lib.hid (RD.out.below HB2.out (Nat.le_refl _))
      go_wp2_with fail
      refine (goPay_no _ _ _ _ _ _ R2.out n6 FA.out (.inl HL.out)).mono ?_
      rintro e w3 ⟨rfl, hb3⟩
      have HB3 := Lib.hid (HB2.out.trans (hb3.mono HB2.out.size))
      have R3 := Lib.hid (RD.out.below HB3.out (Nat.le_refl _))
      clear hb3
      go_wp2_with fail
      refine (goPay_no _ _ _ _ _ _ R3.out n6 FB.out (.inl HL.out)).mono ?_
      rintro e w4 ⟨rfl, hb4⟩
      have HB4 := Lib.hid (HB3.out.trans (hb4.mono HB3.out.size))
      have R4 := Lib.hid (RD.out.below HB4.out (Nat.le_refl _))
      clear hb4
      go_wp2_with fail
      refine (goTop_no _ _ _ _ _ R4.out n6 HL.out).mono ?_
      rintro e w5 ⟨rfl, hb5⟩
      have HB5 := Lib.hid (HB4.out.trans (hb5.mono HB4.out.size))
      have R5 := Lib.hid (RD.out.below HB5.out (Nat.le_refl _))
      clear hb5
      go_wp2_with fail
      refine (goLad _ _ _ _ _ R5.out (by omega)).mono ?_
      rintro e w6 ⟨rfl, hb6⟩
      rw [HL.out]
      have HB6 := Lib.hid (HB5.out.trans (hb6.mono HB5.out.size))
      clear hb6
      go_wp2_with fail
      go_ret
      exact ⟨rfl, HB6.out⟩
    have HL := Lib.hid hl
    obtain ⟨F0, n16⟩ := fine_of hl
    have HF := Lib.hid F0
    clear hl F0
    obtain ⟨T, hT⟩ : ∃ T, payOf l0 281474976710656 = T := ⟨_, rfl⟩
    have HT := Lib.hid hT
    obtain ⟨U, hU⟩ : ∃ U, payOf l0 s1a = U := ⟨_, rfl⟩
    have HX := Lib.hid hU
    obtain ⟨V, hV⟩ : ∃ V, payOf l0 s1b = V := ⟨_, rfl⟩
    have HY := Lib.hid hV
    by_cases hx0 : s1a < 0
    · clear hT hU hV
      by_cases hy0 : s1b < 0 ∨ 281474976710656 < s1b
      · go_enter Try.func9, Try.ntmps9
        go_wp2_with fail
        refine (awake31 _).mono ?_
        rintro e w1 ⟨rfl, hb1⟩
        have BK : Hid (Bk w1 w.heap.size 30 #[.int .i64 s1a, .int .i64 s1b]) := (Bk.new w 30 #[.int .i64 s1a, .int .i64 s1b]).below hb1 (by simp)
        have HB1 := Lib.hid (below_boxed hb1)
        have c0' : w1.cell? ⟨w.heap.size, 0, none⟩ = some (.int .i64 s1a) := BK.out.cell 0
        have c1' : w1.cell? ⟨w.heap.size, 1, none⟩ = some (.int .i64 s1b) := BK.out.cell 1
        clear hb1
        go_wp2_with fail
        go_quiet (fail)
        clear c0' c1'
        obtain ⟨w2, hw2⟩ : ∃ w2, w2 = w1.drewN nq := ⟨_, rfl⟩
        have HB2 : Hid (Below w.heap.size w w2) := by show Below _ _ _; rw [hw2]; exact below_dN HB1.out nq
        rw [← hw2]
        clear hw2
        have R2 := Lib.hid (RD.out.below HB2.out (Nat.le_refl _))
        go_wp2_with fail
        refine (goPay_no _ _ _ _ _ _ R2.out n6 FA.out (.inr (by omega))).mono ?_
        rintro e w3 ⟨rfl, hb3⟩
        have HB3 := Lib.hid (HB2.out.trans (hb3.mono HB2.out.size))
        have R3 := Lib.hid (RD.out.below HB3.out (Nat.le_refl _))
        clear hb3
        go_wp2_with fail
        refine (goPay_no _ _ _ _ _ _ R3.out n6 FB.out (.inr (by omega))).mono ?_
        rintro e w4 ⟨rfl, hb4⟩
        have HB4 := Lib.hid (HB3.out.trans (hb4.mono HB3.out.size))
        have R4 := Lib.hid (RD.out.below HB4.out (Nat.le_refl _))
        clear hb4
        go_wp2_with fail
        refine (goTop_yes _ _ _ _ _ R4.out HL.out).mono ?_
        rintro e w5 ⟨rfl, hb5⟩
        rw [HT.out]
        have HB5 := Lib.hid (HB4.out.trans (hb5.mono HB4.out.size))
        have R5 := Lib.hid (RD.out.below HB5.out (Nat.le_refl _))
        clear hb5
        go_wp2_with fail
        refine (goLad _ _ _ _ _ R5.out (by omega)).mono ?_
        rintro e w6 ⟨rfl, hb6⟩
        rw [HL.out]
        have HB6 := Lib.hid (HB5.out.trans (hb6.mono HB5.out.size))
        clear hb6
        go_wp2_with fail
        go_ret
        exact ⟨rfl, HB6.out⟩
      · go_enter Try.func9, Try.ntmps9
        go_wp2_with fail
        refine (awake31 _).mono ?_
        rintro e w1 ⟨rfl, hb1⟩
        have BK : Hid (Bk w1 w.heap.size 30 #[.int .i64 s1a, .int .i64 s1b]) := (Bk.new w 30 #[.int .i64 s1a, .int .i64 s1b]).below hb1 (by simp)
        have HB1 := Lib.hid (below_boxed hb1)
        have c0' : w1.cell? ⟨w.heap.size, 0, none⟩ = some (.int .i64 s1a) := BK.out.cell 0
        have c1' : w1.cell? ⟨w.heap.size, 1, none⟩ = some (.int .i64 s1b) := BK.out.cell 1
        clear hb1
        go_wp2_with fail
        go_quiet (fail)
        clear c0' c1'
        obtain ⟨w2, hw2⟩ : ∃ w2, w2 = w1.drewN nq := ⟨_, rfl⟩
        have HB2 : Hid (Below w.heap.size w w2) := by show Below _ _ _; rw [hw2]; exact below_dN HB1.out nq
        rw [← hw2]
        clear hw2
        have R2 := Lib.hid (RD.out.below HB2.out (Nat.le_refl _))
        go_wp2_with fail
        refine (goPay_no _ _ _ _ _ _ R2.out n6 FA.out (.inr (by omega))).mono ?_
        rintro e w3 ⟨rfl, hb3⟩
        have HB3 := Lib.hid (HB2.out.trans (hb3.mono HB2.out.size))
        have R3 := Lib.hid (RD.out.below HB3.out (Nat.le_refl _))
        clear hb3
        go_wp2_with fail
        refine (goPay_yes _ _ _ _ _ _ R3.out HL.out (by omega) (by omega)).mono ?_
        rintro e w4 ⟨rfl, hb4⟩
        rw [HY.out]
        have HB4 := Lib.hid (HB3.out.trans (hb4.mono HB3.out.size))
        have R4 := Lib.hid (RD.out.below HB4.out (Nat.le_refl _))
        clear hb4
        go_wp2_with fail
        refine (goTop_yes _ _ _ _ _ R4.out HL.out).mono ?_
        rintro e w5 ⟨rfl, hb5⟩
        rw [HT.out]
        have HB5 := Lib.hid (HB4.out.trans (hb5.mono HB4.out.size))
        have R5 := Lib.hid (RD.out.below HB5.out (Nat.le_refl _))
        clear hb5
        go_wp2_with fail
        refine (goLad _ _ _ _ _ R5.out (by omega)).mono ?_
        rintro e w6 ⟨rfl, hb6⟩
        rw [HL.out]
        have HB6 := Lib.hid (HB5.out.trans (hb6.mono HB5.out.size))
        clear hb6
        go_wp2_with fail
        go_ret
        exact ⟨rfl, HB6.out⟩
    by_cases hy1 : 281474976710656 < s1b
    · clear hT hU hV
      by_cases hx1 : 281474976710656 < s1a
      · go_enter Try.func9, Try.ntmps9
        go_wp2_with fail
        refine (awake31 _).mono ?_
        rintro e w1 ⟨rfl, hb1⟩
        have BK : Hid (Bk w1 w.heap.size 30 #[.int .i64 s1a, .int .i64 s1b]) := (Bk.new w 30 #[.int .i64 s1a, .int .i64 s1b]).below hb1 (by simp)
        have HB1 := Lib.hid (below_boxed hb1)
        have c0' : w1.cell? ⟨w.heap.size, 0, none⟩ = some (.int .i64 s1a) := BK.out.cell 0
        have c1' : w1.cell? ⟨w.heap.size, 1, none⟩ = some (.int .i64 s1b) := BK.out.cell 1
        clear hb1
        go_wp2_with fail
        go_quiet (fail)
        clear c0' c1'
        obtain ⟨w2, hw2⟩ : ∃ w2, w2 = w1.drewN nq := ⟨_, rfl⟩
        have HB2 : Hid (Below w.heap.size w w2) := by show Below _ _ _; rw [hw2]; exact below_dN HB1.out nq
        rw [← hw2]
        clear hw2
        have R2 := Lib.hid (RD.out.below HB2.out (Nat.le_refl _))
        go_wp2_with fail
        refine (goPay_no _ _ _ _ _ _ R2.out n6 FA.out (.inr (by omega))).mono ?_
        rintro e w3 ⟨rfl, hb3⟩
        have HB3 := Lib.hid (HB2.out.trans (hb3.mono HB2.out.size))
        have R3 := Lib.hid (RD.out.below HB3.out (Nat.le_refl _))
        clear hb3
        go_wp2_with fail
        refine (goPay_no _ _ _ _ _ _ R3.out n6 FB.out (.inr (by omega))).mono ?_
        rintro e w4 ⟨rfl, hb4⟩
        have HB4 := Lib.hid (HB3.out.trans (hb4.mono HB3.out.size))
        have R4 := Lib.hid (RD.out.below HB4.out (Nat.le_refl _))
        clear hb4
        go_wp2_with fail
        refine (goTop_yes _ _ _ _ _ R4.out HL.out).mono ?_
        rintro e w5 ⟨rfl, hb5⟩
        rw [HT.out]
        have HB5 := Lib.hid (HB4.out.trans (hb5.mono HB4.out.size))
        have R5 := Lib.hid (RD.out.below HB5.out (Nat.le_refl _))
        clear hb5
        go_wp2_with fail
        refine (goLad _ _ _ _ _ R5.out (by omega)).mono ?_
        rintro e w6 ⟨rfl, hb6⟩
        rw [HL.out]
        have HB6 := Lib.hid (HB5.out.trans (hb6.mono HB5.out.size))
        clear hb6
        go_wp2_with fail
        go_ret
        exact ⟨rfl, HB6.out⟩
      · go_enter Try.func9, Try.ntmps9
        go_wp2_with fail
        refine (awake31 _).mono ?_
        rintro e w1 ⟨rfl, hb1⟩
        have BK : Hid (Bk w1 w.heap.size 30 #[.int .i64 s1a, .int .i64 s1b]) := (Bk.new w 30 #[.int .i64 s1a, .int .i64 s1b]).below hb1 (by simp)
        have HB1 := Lib.hid (below_boxed hb1)
        have c0' : w1.cell? ⟨w.heap.size, 0, none⟩ = some (.int .i64 s1a) := BK.out.cell 0
        have c1' : w1.cell? ⟨w.heap.size, 1, none⟩ = some (.int .i64 s1b) := BK.out.cell 1
        clear hb1
        go_wp2_with fail
        go_quiet (fail)
        clear c0' c1'
        obtain ⟨w2, hw2⟩ : ∃ w2, w2 = w1.drewN nq := ⟨_, rfl⟩
        have HB2 : Hid (Below w.heap.size w w2) := by show Below _ _ _; rw [hw2]; exact below_dN HB1.out nq
        rw [← hw2]
        clear hw2
        have R2 := Lib.hid (RD.out.below HB2.out (Nat.le_refl _))
        go_wp2_with fail
        refine (goPay_yes _ _ _ _ _ _ R2.out HL.out (by omega) (by omega)).mono ?_
        rintro e w3 ⟨rfl, hb3⟩
        rw [HX.out]
        have HB3 := Lib.hid (HB2.out.trans (hb3.mono HB2.out.size))
        have R3 := Lib.hid (RD.out.below HB3.out (Nat.le_refl _))
        clear hb3
        go_wp2_with fail
        refine (goPay_no _ _ _ _ _ _ R3.out n6 FB.out (.inr (by omega))).mono ?_
        rintro e w4 ⟨rfl, hb4⟩
        have HB4 := Lib.hid (HB3.out.trans (hb4.mono HB3.out.size))
        have R4 := Lib.hid (RD.out.below HB4.out (Nat.le_refl _))
        clear hb4
        go_wp2_with fail
        refine (goTop_yes _ _ _ _ _ R4.out HL.out).mono ?_
        rintro e w5 ⟨rfl, hb5⟩
        rw [HT.out]
        have HB5 := Lib.hid (HB4.out.trans (hb5.mono HB4.out.size))
        have R5 := Lib.hid (RD.out.below HB5.out (Nat.le_refl _))
        clear hb5
        go_wp2_with fail
        refine (goLad _ _ _ _ _ R5.out (by omega)).mono ?_
        rintro e w6 ⟨rfl, hb6⟩
        rw [HL.out]
        have HB6 := Lib.hid (HB5.out.trans (hb6.mono HB5.out.size))
        clear hb6
        go_wp2_with fail
        go_ret
        exact ⟨rfl, HB6.out⟩
    have e1 := pay_nonneg HF.out s1a
    have e2 := pay_le HF.out (s := s1a) (by omega) (by omega)
    have e3 := pay_le HF.out (s := s1b) (by omega) (by omega)
    have e4 := pay_mono HF.out (x := s1a) (y := s1b) (by omega)
    have e5 := pay_mono HF.out (x := s1b) (y := 281474976710656) (by omega)
    have e6 := pay_diff HF.out (x := s1a) (y := s1b) (by omega) (by omega) (by omega)
    have e7 := pay_le HF.out (s := 281474976710656) (by omega) (by omega)
    rw [hU] at e1 e2 e4 e6
    rw [hV] at e3 e4 e5 e6
    rw [hT] at e5 e7
    clear hT
    clear hU hV
    rcases Nat.eq_zero_or_pos n0 with rfl | hpos
    · go_enter Try.func9, Try.ntmps9
      go_wp2_with fail
      refine (awake31 _).mono ?_
      rintro e w1 ⟨rfl, hb1⟩
      have BK : Hid (Bk w1 w.heap.size 30 #[.int .i64 s1a, .int .i64 s1b]) := (Bk.new w 30 #[.int .i64 s1a, .int .i64 s1b]).below hb1 (by simp)
      have HB1 := Lib.hid (below_boxed hb1)
      have c0' : w1.cell? ⟨w.heap.size, 0, none⟩ = some (.int .i64 s1a) := BK.out.cell 0
      have c1' : w1.cell? ⟨w.heap.size, 1, none⟩ = some (.int .i64 s1b) := BK.out.cell 1
      clear hb1
      go_wp2_with fail
      go_quiet (fail)
      clear c0' c1'
      obtain ⟨w2, hw2⟩ : ∃ w2, w2 = w1.drewN nq := ⟨_, rfl⟩
      have HB2 : Hid (Below w.heap.size w w2) := by show Below _ _ _; rw [hw2]; exact below_dN HB1.out nq
      rw [← hw2]
      clear hw2
      have R2 := Lib.hid (RD.out.below HB2.out (Nat.le_refl _))
      go_wp2_with fail
      refine (goPay_yes _ _ _ _ _ _ R2.out HL.out (by omega) (by omega)).mono ?_
      rintro e w3 ⟨rfl, hb3⟩
      rw [HX.out]
      have HB3 := Lib.hid (HB2.out.trans (hb3.mono HB2.out.size))
      have R3 := Lib.hid (RD.out.below HB3.out (Nat.le_refl _))
      clear hb3
      go_wp2_with fail
      refine (goPay_yes _ _ _ _ _ _ R3.out HL.out (by omega) (by omega)).mono ?_
      rintro e w4 ⟨rfl, hb4⟩
      rw [HY.out]
      have HB4 := Lib.hid (HB3.out.trans (hb4.mono HB3.out.size))
      have R4 := Lib.hid (RD.out.below HB4.out (Nat.le_refl _))
      clear hb4
      go_wp2_with fail
      refine (goTop_yes _ _ _ _ _ R4.out HL.out).mono ?_
      rintro e w5 ⟨rfl, hb5⟩
      rw [HT.out]
      have HB5 := Lib.hid (HB4.out.trans (hb5.mono HB4.out.size))
      have R5 := Lib.hid (RD.out.below HB5.out (Nat.le_refl _))
      clear hb5
      go_wp2_with fail
      go_ret
      exact ⟨rfl, HB5.out⟩
    obtain ⟨j, rfl⟩ : ∃ j, n0 = j + 1 := ⟨n0 - 1, by omega⟩
    obtain ⟨g, sg, b, off, hA, hg, hcg, hcs⟩ := RD.out.at2 (k := j) (by omega)
    subst hA
    have zb := lt_of_cell hcg
    have LST : Hid (l0.getD (l0.length - 1) (0, 0) = (g, sg)) := by
      show _ = _
      rw [show l0.length - 1 = j by have := RD.out.1; omega]
      exact getD_of hg.out
    have NE : Hid (l0 ≠ []) := fun e => by have := RD.out.1; rw [e] at this; simp at this
    clear hcg hcs
    have cg : ∀ W : World, Below w.heap.size w W → W.cell? ⟨b, off + j * 2, none⟩ = some (.int .i64 g) := fun W hW => by
      obtain ⟨g', sg', b', off', hA, hg', hcg, _⟩ := (RD.out.below hW (Nat.le_refl _)).at2 (k := j) (by omega)
      simp only [Option.some.injEq, Addr.mk.injEq, and_true] at hA
      obtain ⟨rfl, rfl⟩ := hA
      have h1 := hg.out
      rw [hg'.out] at h1
      injection h1 with h1
      rw [Prod.mk.injEq] at h1
      rw [h1.1] at hcg
      exact hcg
    have CG := Lib.hid cg
    clear cg
    by_cases hge : g ≤ s1a
    · have TU : Hid (U = T) := by show _ = _; rw [← HX.out, ← HT.out]; exact pay_top HF.out NE.out (by rw [LST.out]; exact hge)
      have TV : Hid (V = T) := by show _ = _; rw [← HY.out, ← HT.out]; exact pay_top HF.out NE.out (by rw [LST.out]; show g ≤ s1b; omega)
      obtain rfl := TU.out
      obtain rfl := TV.out
      have uu : (V != V) = false := by simp
      go_enter Try.func9, Try.ntmps9
      go_wp2_with fail
      refine (awake31 _).mono ?_
      rintro e w1 ⟨rfl, hb1⟩
      have BK : Hid (Bk w1 w.heap.size 30 #[.int .i64 s1a, .int .i64 s1b]) := (Bk.new w 30 #[.int .i64 s1a, .int .i64 s1b]).below hb1 (by simp)
      have HB1 := Lib.hid (below_boxed hb1)
      have c0' : w1.cell? ⟨w.heap.size, 0, none⟩ = some (.int .i64 s1a) := BK.out.cell 0
      have c1' : w1.cell? ⟨w.heap.size, 1, none⟩ = some (.int .i64 s1b) := BK.out.cell 1
      clear hb1
      go_wp2_with fail
      go_quiet (fail)
      clear c0' c1'
      obtain ⟨w2, hw2⟩ : ∃ w2, w2 = w1.drewN nq := ⟨_, rfl⟩
      have HB2 : Hid (Below w.heap.size w w2) := by show Below _ _ _; rw [hw2]; exact below_dN HB1.out nq
      rw [← hw2]
      clear hw2
      have R2 := Lib.hid (RD.out.below HB2.out (Nat.le_refl _))
      go_wp2_with fail
      refine (goPay_yes _ _ _ _ _ _ R2.out HL.out (by omega) (by omega)).mono ?_
      rintro e w3 ⟨rfl, hb3⟩
      rw [HX.out]
      have HB3 := Lib.hid (HB2.out.trans (hb3.mono HB2.out.size))
      have R3 := Lib.hid (RD.out.below HB3.out (Nat.le_refl _))
      clear hb3
      go_wp2_with fail
      refine (goPay_yes _ _ _ _ _ _ R3.out HL.out (by omega) (by omega)).mono ?_
      rintro e w4 ⟨rfl, hb4⟩
      rw [HY.out]
      have HB4 := Lib.hid (HB3.out.trans (hb4.mono HB3.out.size))
      have R4 := Lib.hid (RD.out.below HB4.out (Nat.le_refl _))
      clear hb4
      go_wp2_with fail
      refine (goTop_yes _ _ _ _ _ R4.out HL.out).mono ?_
      rintro e w5 ⟨rfl, hb5⟩
      rw [HT.out]
      have HB5 := Lib.hid (HB4.out.trans (hb5.mono HB4.out.size))
      have R5 := Lib.hid (RD.out.below HB5.out (Nat.le_refl _))
      clear hb5
      have cg := CG.out _ HB5.out
      go_wp2_with fail
      go_ret
      first | exact ⟨rfl, HB5.out⟩ | exact ⟨ret_bool (decide_eq_true (by omega)), HB5.out⟩
    · go_enter Try.func9, Try.ntmps9
      go_wp2_with fail
      refine (awake31 _).mono ?_
      rintro e w1 ⟨rfl, hb1⟩
      have BK : Hid (Bk w1 w.heap.size 30 #[.int .i64 s1a, .int .i64 s1b]) := (Bk.new w 30 #[.int .i64 s1a, .int .i64 s1b]).below hb1 (by simp)
      have HB1 := Lib.hid (below_boxed hb1)
      have c0' : w1.cell? ⟨w.heap.size, 0, none⟩ = some (.int .i64 s1a) := BK.out.cell 0
      have c1' : w1.cell? ⟨w.heap.size, 1, none⟩ = some (.int .i64 s1b) := BK.out.cell 1
      clear hb1
      go_wp2_with fail
      go_quiet (fail)
      clear c0' c1'
      obtain ⟨w2, hw2⟩ : ∃ w2, w2 = w1.drewN nq := ⟨_, rfl⟩
      have HB2 : Hid (Below w.heap.size w w2) := by show Below _ _ _; rw [hw2]; exact below_dN HB1.out nq
      rw [← hw2]
      clear hw2
      have R2 := Lib.hid (RD.out.below HB2.out (Nat.le_refl _))
      go_wp2_with fail
      refine (goPay_yes _ _ _ _ _ _ R2.out HL.out (by omega) (by omega)).mono ?_
      rintro e w3 ⟨rfl, hb3⟩
      rw [HX.out]
      have HB3 := Lib.hid (HB2.out.trans (hb3.mono HB2.out.size))
      have R3 := Lib.hid (RD.out.below HB3.out (Nat.le_refl _))
      clear hb3
      go_wp2_with fail
      refine (goPay_yes _ _ _ _ _ _ R3.out HL.out (by omega) (by omega)).mono ?_
      rintro e w4 ⟨rfl, hb4⟩
      rw [HY.out]
      have HB4 := Lib.hid (HB3.out.trans (hb4.mono HB3.out.size))
      have R4 := Lib.hid (RD.out.below HB4.out (Nat.le_refl _))
      clear hb4
      go_wp2_with fail
      refine (goTop_yes _ _ _ _ _ R4.out HL.out).mono ?_
      rintro e w5 ⟨rfl, hb5⟩
      rw [HT.out]
      have HB5 := Lib.hid (HB4.out.trans (hb5.mono HB4.out.size))
      have R5 := Lib.hid (RD.out.below HB5.out (Nat.le_refl _))
      clear hb5
      have cg := CG.out _ HB5.out
      go_wp2_with fail
      go_ret
      first | exact ⟨rfl, HB5.out⟩ | exact ⟨ret_bool (decide_eq_true (by omega)), HB5.out⟩
  · rcases hl : ladB l0 with _ | _
    · have HL := Lib.hid hl
      clear hl
      go_enter Try.func9, Try.ntmps9
      go_wp2_with fail
      refine (awake31 _).mono ?_
      rintro e w1 ⟨rfl, hb1⟩
      have BK : Hid (Bk w1 w.heap.size 30 #[.int .i64 s1a, .int .i64 s1a]) := (Bk.new w 30 #[.int .i64 s1a, .int .i64 s1a]).below hb1 (by simp)
      have HB1 := Lib.hid (below_boxed hb1)
      have c0' : w1.cell? ⟨w.heap.size, 0, none⟩ = some (.int .i64 s1a) := BK.out.cell 0
      have c1' : w1.cell? ⟨w.heap.size, 1, none⟩ = some (.int .i64 s1a) := BK.out.cell 1
      clear hb1
      go_wp2_with fail
      go_quiet (fail)
      clear c0' c1'
      obtain ⟨w2, hw2⟩ : ∃ w2, w2 = w1.drewN nq := ⟨_, rfl⟩
      have HB2 : Hid (Below w.heap.size w w2) := by show Below _ _ _; rw [hw2]; exact below_dN HB1.out nq
      rw [← hw2]
      clear hw2
      have R2 := Lib.hid (RD.out.below HB2.out (Nat.le_refl _))
      go_wp2_with fail
      refine (goPay_no _ _ _ _ _ _ R2.out n6 FA.out (.inl HL.out)).mono ?_
      rintro e w3 ⟨rfl, hb3⟩
      have HB3 := Lib.hid (HB2.out.trans (hb3.mono HB2.out.size))
      have R3 := Lib.hid (RD.out.below HB3.out (Nat.le_refl _))
      clear hb3
      go_wp2_with fail
      refine (goPay_no _ _ _ _ _ _ R3.out n6 FA.out (.inl HL.out)).mono ?_
      rintro e w4 ⟨rfl, hb4⟩
      have HB4 := Lib.hid (HB3.out.trans (hb4.mono HB3.out.size))
      have R4 := Lib.hid (RD.out.below HB4.out (Nat.le_refl _))
      clear hb4
      go_wp2_with fail
      refine (goTop_no _ _ _ _ _ R4.out n6 HL.out).mono ?_
      rintro e w5 ⟨rfl, hb5⟩
      have HB5 := Lib.hid (HB4.out.trans (hb5.mono HB4.out.size))
      have R5 := Lib.hid (RD.out.below HB5.out (Nat.le_refl _))
      clear hb5
      go_wp2_with fail
      refine (goLad _ _ _ _ _ R5.out (by omega)).mono ?_
      rintro e w6 ⟨rfl, hb6⟩
      rw [HL.out]
      have HB6 := Lib.hid (HB5.out.trans (hb6.mono HB5.out.size))
      clear hb6
      go_wp2_with fail
      go_ret
      exact ⟨rfl, HB6.out⟩
    have HL := Lib.hid hl
    obtain ⟨F0, n16⟩ := fine_of hl
    have HF := Lib.hid F0
    clear hl F0
    obtain ⟨T, hT⟩ : ∃ T, payOf l0 281474976710656 = T := ⟨_, rfl⟩
    have HT := Lib.hid hT
    obtain ⟨U, hU⟩ : ∃ U, payOf l0 s1a = U := ⟨_, rfl⟩
    have HX := Lib.hid hU
    obtain ⟨V, hV⟩ : ∃ V, payOf l0 s1a = V := ⟨_, rfl⟩
    have HY := Lib.hid hV
    by_cases hx0 : s1a < 0
    · clear hT hU hV
      by_cases hy0 : s1a < 0 ∨ 281474976710656 < s1a
      · go_enter Try.func9, Try.ntmps9
        go_wp2_with fail
        refine (awake31 _).mono ?_
        rintro e w1 ⟨rfl, hb1⟩
        have BK : Hid (Bk w1 w.heap.size 30 #[.int .i64 s1a, .int .i64 s1a]) := (Bk.new w 30 #[.int .i64 s1a, .int .i64 s1a]).below hb1 (by simp)
        have HB1 := Lib.hid (below_boxed hb1)
        have c0' : w1.cell? ⟨w.heap.size, 0, none⟩ = some (.int .i64 s1a) := BK.out.cell 0
        have c1' : w1.cell? ⟨w.heap.size, 1, none⟩ = some (.int .i64 s1a) := BK.out.cell 1
        clear hb1
        go_wp2_with fail
        go_quiet (fail)
        clear c0' c1'
        obtain ⟨w2, hw2⟩ : ∃ w2, w2 = w1.drewN nq := ⟨_, rfl⟩
        have HB2 : Hid (Below w.heap.size w w2) := by show Below _ _ _; rw [hw2]; exact below_dN HB1.out nq
        rw [← hw2]
        clear hw2
        have R2 := Lib.hid (RD.out.below HB2.out (Nat.le_refl _))
        go_wp2_with fail
        refine (goPay_no _ _ _ _ _ _ R2.out n6 FA.out (.inr (by omega))).mono ?_
        rintro e w3 ⟨rfl, hb3⟩
        have HB3 := Lib.hid (HB2.out.trans (hb3.mono HB2.out.size))
        have R3 := Lib.hid (RD.out.below HB3.out (Nat.le_refl _))
        clear hb3
        go_wp2_with fail
        refine (goPay_no _ _ _ _ _ _ R3.out n6 FA.out (.inr (by omega))).mono ?_
        rintro e w4 ⟨rfl, hb4⟩
        have HB4 := Lib.hid (HB3.out.trans (hb4.mono HB3.out.size))
        have R4 := Lib.hid (RD.out.below HB4.out (Nat.le_refl _))
        clear hb4
        go_wp2_with fail
        refine (goTop_yes _ _ _ _ _ R4.out HL.out).mono ?_
        rintro e w5 ⟨rfl, hb5⟩
        rw [HT.out]
        have HB5 := Lib.hid (HB4.out.trans (hb5.mono HB4.out.size))
        have R5 := Lib.hid (RD.out.below HB5.out (Nat.le_refl _))
        clear hb5
        go_wp2_with fail
        refine (goLad _ _ _ _ _ R5.out (by omega)).mono ?_
        rintro e w6 ⟨rfl, hb6⟩
        rw [HL.out]
        have HB6 := Lib.hid (HB5.out.trans (hb6.mono HB5.out.size))
        clear hb6
        go_wp2_with fail
        go_ret
        exact ⟨rfl, HB6.out⟩
      · exact absurd (Or.inl hx0) hy0
    by_cases hy1 : 281474976710656 < s1a
    · clear hT hU hV
      go_enter Try.func9, Try.ntmps9
      go_wp2_with fail
      refine (awake31 _).mono ?_
      rintro e w1 ⟨rfl, hb1⟩
      have BK : Hid (Bk w1 w.heap.size 30 #[.int .i64 s1a, .int .i64 s1a]) := (Bk.new w 30 #[.int .i64 s1a, .int .i64 s1a]).below hb1 (by simp)
      have HB1 := Lib.hid (below_boxed hb1)
      have c0' : w1.cell? ⟨w.heap.size, 0, none⟩ = some (.int .i64 s1a) := BK.out.cell 0
      have c1' : w1.cell? ⟨w.heap.size, 1, none⟩ = some (.int .i64 s1a) := BK.out.cell 1
      clear hb1
      go_wp2_with fail
      go_quiet (fail)
      clear c0' c1'
      obtain ⟨w2, hw2⟩ : ∃ w2, w2 = w1.drewN nq := ⟨_, rfl⟩
      have HB2 : Hid (Below w.heap.size w w2) := by show Below _ _ _; rw [hw2]; exact below_dN HB1.out nq
      rw [← hw2]
      clear hw2
      have R2 := Lib.hid (RD.out.below HB2.out (Nat.le_refl _))
      go_wp2_with fail
      refine (goPay_no _ _ _ _ _ _ R2.out n6 FA.out (.inr (by omega))).mono ?_
      rintro e w3 ⟨rfl, hb3⟩
      have HB3 := Lib.hid (HB2.out.trans (hb3.mono HB2.out.size))
      have R3 := Lib.hid (RD.out.below HB3.out (Nat.le_refl _))
      clear hb3
      go_wp2_with fail
      refine (goPay_no _ _ _ _ _ _ R3.out n6 FA.out (.inr (by omega))).mono ?_
      rintro e w4 ⟨rfl, hb4⟩
      have HB4 := Lib.hid (HB3.out.trans (hb4.mono HB3.out.size))
      have R4 := Lib.hid (RD.out.below HB4.out (Nat.le_refl _))
      clear hb4
      go_wp2_with fail
      refine (goTop_yes _ _ _ _ _ R4.out HL.out).mono ?_
      rintro e w5 ⟨rfl, hb5⟩
      rw [HT.out]
      have HB5 := Lib.hid (HB4.out.trans (hb5.mono HB4.out.size))
      have R5 := Lib.hid (RD.out.below HB5.out (Nat.le_refl _))
      clear hb5
      go_wp2_with fail
      refine (goLad _ _ _ _ _ R5.out (by omega)).mono ?_
      rintro e w6 ⟨rfl, hb6⟩
      rw [HL.out]
      have HB6 := Lib.hid (HB5.out.trans (hb6.mono HB5.out.size))
      clear hb6
      go_wp2_with fail
      go_ret
      exact ⟨rfl, HB6.out⟩
    have e1 := pay_nonneg HF.out s1a
    have e2 := pay_le HF.out (s := s1a) (by omega) (by omega)
    have e3 := pay_le HF.out (s := s1a) (by omega) (by omega)
    have e4 := pay_mono HF.out (x := s1a) (y := s1a) (by omega)
    have e5 := pay_mono HF.out (x := s1a) (y := 281474976710656) (by omega)
    have e6 := pay_diff HF.out (x := s1a) (y := s1a) (by omega) (by omega) (by omega)
    have e7 := pay_le HF.out (s := 281474976710656) (by omega) (by omega)
    obtain rfl : U = V := hU.symm.trans hV
    rw [hU] at e1 e2 e3 e4 e5 e6
    rw [hT] at e5 e7
    clear hT
    clear hU hV
    rcases Nat.eq_zero_or_pos n0 with rfl | hpos
    · go_enter Try.func9, Try.ntmps9
      go_wp2_with fail
      refine (awake31 _).mono ?_
      rintro e w1 ⟨rfl, hb1⟩
      have BK : Hid (Bk w1 w.heap.size 30 #[.int .i64 s1a, .int .i64 s1a]) := (Bk.new w 30 #[.int .i64 s1a, .int .i64 s1a]).below hb1 (by simp)
      have HB1 := Lib.hid (below_boxed hb1)
      have c0' : w1.cell? ⟨w.heap.size, 0, none⟩ = some (.int .i64 s1a) := BK.out.cell 0
      have c1' : w1.cell? ⟨w.heap.size, 1, none⟩ = some (.int .i64 s1a) := BK.out.cell 1
      clear hb1
      go_wp2_with fail
      go_quiet (fail)
      clear c0' c1'
      obtain ⟨w2, hw2⟩ : ∃ w2, w2 = w1.drewN nq := ⟨_, rfl⟩
      have HB2 : Hid (Below w.heap.size w w2) := by show Below _ _ _; rw [hw2]; exact below_dN HB1.out nq
      rw [← hw2]
      clear hw2
      have R2 := Lib.hid (RD.out.below HB2.out (Nat.le_refl _))
      go_wp2_with fail
      refine (goPay_yes _ _ _ _ _ _ R2.out HL.out (by omega) (by omega)).mono ?_
      rintro e w3 ⟨rfl, hb3⟩
      rw [HX.out]
      have HB3 := Lib.hid (HB2.out.trans (hb3.mono HB2.out.size))
      have R3 := Lib.hid (RD.out.below HB3.out (Nat.le_refl _))
      clear hb3
      go_wp2_with fail
      refine (goPay_yes _ _ _ _ _ _ R3.out HL.out (by omega) (by omega)).mono ?_
      rintro e w4 ⟨rfl, hb4⟩
      rw [HX.out]
      have HB4 := Lib.hid (HB3.out.trans (hb4.mono HB3.out.size))
      have R4 := Lib.hid (RD.out.below HB4.out (Nat.le_refl _))
      clear hb4
      go_wp2_with fail
      refine (goTop_yes _ _ _ _ _ R4.out HL.out).mono ?_
      rintro e w5 ⟨rfl, hb5⟩
      rw [HT.out]
      have HB5 := Lib.hid (HB4.out.trans (hb5.mono HB4.out.size))
      have R5 := Lib.hid (RD.out.below HB5.out (Nat.le_refl _))
      clear hb5
      go_wp2_with fail
      go_ret
      exact ⟨rfl, HB5.out⟩
    obtain ⟨j, rfl⟩ : ∃ j, n0 = j + 1 := ⟨n0 - 1, by omega⟩
    obtain ⟨g, sg, b, off, hA, hg, hcg, hcs⟩ := RD.out.at2 (k := j) (by omega)
    subst hA
    have zb := lt_of_cell hcg
    have LST : Hid (l0.getD (l0.length - 1) (0, 0) = (g, sg)) := by
      show _ = _
      rw [show l0.length - 1 = j by have := RD.out.1; omega]
      exact getD_of hg.out
    have NE : Hid (l0 ≠ []) := fun e => by have := RD.out.1; rw [e] at this; simp at this
    clear hcg hcs
    have cg : ∀ W : World, Below w.heap.size w W → W.cell? ⟨b, off + j * 2, none⟩ = some (.int .i64 g) := fun W hW => by
      obtain ⟨g', sg', b', off', hA, hg', hcg, _⟩ := (RD.out.below hW (Nat.le_refl _)).at2 (k := j) (by omega)
      simp only [Option.some.injEq, Addr.mk.injEq, and_true] at hA
      obtain ⟨rfl, rfl⟩ := hA
      have h1 := hg.out
      rw [hg'.out] at h1
      injection h1 with h1
      rw [Prod.mk.injEq] at h1
      rw [h1.1] at hcg
      exact hcg
    have CG := Lib.hid cg
    clear cg
    by_cases hge : g ≤ s1a
    · have TU : Hid (U = T) := by show _ = _; rw [← HX.out, ← HT.out]; exact pay_top HF.out NE.out (by rw [LST.out]; exact hge)
      obtain rfl := TU.out
      have uu : (U != U) = false := by simp
      go_enter Try.func9, Try.ntmps9
      go_wp2_with fail
      refine (awake31 _).mono ?_
      rintro e w1 ⟨rfl, hb1⟩
      have BK : Hid (Bk w1 w.heap.size 30 #[.int .i64 s1a, .int .i64 s1a]) := (Bk.new w 30 #[.int .i64 s1a, .int .i64 s1a]).below hb1 (by simp)
      have HB1 := Lib.hid (below_boxed hb1)
      have c0' : w1.cell? ⟨w.heap.size, 0, none⟩ = some (.int .i64 s1a) := BK.out.cell 0
      have c1' : w1.cell? ⟨w.heap.size, 1, none⟩ = some (.int .i64 s1a) := BK.out.cell 1
      clear hb1
      go_wp2_with fail
      go_quiet (fail)
      clear c0' c1'
      obtain ⟨w2, hw2⟩ : ∃ w2, w2 = w1.drewN nq := ⟨_, rfl⟩
      have HB2 : Hid (Below w.heap.size w w2) := by show Below _ _ _; rw [hw2]; exact below_dN HB1.out nq
      rw [← hw2]
      clear hw2
      have R2 := Lib.hid (RD.out.below HB2.out (Nat.le_refl _))
      go_wp2_with fail
      refine (goPay_yes _ _ _ _ _ _ R2.out HL.out (by omega) (by omega)).mono ?_
      rintro e w3 ⟨rfl, hb3⟩
      rw [HX.out]
      have HB3 := Lib.hid (HB2.out.trans (hb3.mono HB2.out.size))
      have R3 := Lib.hid (RD.out.below HB3.out (Nat.le_refl _))
      clear hb3
      go_wp2_with fail
      refine (goPay_yes _ _ _ _ _ _ R3.out HL.out (by omega) (by omega)).mono ?_
      rintro e w4 ⟨rfl, hb4⟩
      rw [HX.out]
      have HB4 := Lib.hid (HB3.out.trans (hb4.mono HB3.out.size))
      have R4 := Lib.hid (RD.out.below HB4.out (Nat.le_refl _))
      clear hb4
      go_wp2_with fail
      refine (goTop_yes _ _ _ _ _ R4.out HL.out).mono ?_
      rintro e w5 ⟨rfl, hb5⟩
      rw [HT.out]
      have HB5 := Lib.hid (HB4.out.trans (hb5.mono HB4.out.size))
      have R5 := Lib.hid (RD.out.below HB5.out (Nat.le_refl _))
      clear hb5
      have cg := CG.out _ HB5.out
      go_wp2_with fail
      go_ret
      first | exact ⟨rfl, HB5.out⟩ | exact ⟨ret_bool (decide_eq_true (by omega)), HB5.out⟩
    · go_enter Try.func9, Try.ntmps9
      go_wp2_with fail
      refine (awake31 _).mono ?_
      rintro e w1 ⟨rfl, hb1⟩
      have BK : Hid (Bk w1 w.heap.size 30 #[.int .i64 s1a, .int .i64 s1a]) := (Bk.new w 30 #[.int .i64 s1a, .int .i64 s1a]).below hb1 (by simp)
      have HB1 := Lib.hid (below_boxed hb1)
      have c0' : w1.cell? ⟨w.heap.size, 0, none⟩ = some (.int .i64 s1a) := BK.out.cell 0
      have c1' : w1.cell? ⟨w.heap.size, 1, none⟩ = some (.int .i64 s1a) := BK.out.cell 1
      clear hb1
      go_wp2_with fail
      go_quiet (fail)
      clear c0' c1'
      obtain ⟨w2, hw2⟩ : ∃ w2, w2 = w1.drewN nq := ⟨_, rfl⟩
      have HB2 : Hid (Below w.heap.size w w2) := by show Below _ _ _; rw [hw2]; exact below_dN HB1.out nq
      rw [← hw2]
      clear hw2
      have R2 := Lib.hid (RD.out.below HB2.out (Nat.le_refl _))
      go_wp2_with fail
      refine (goPay_yes _ _ _ _ _ _ R2.out HL.out (by omega) (by omega)).mono ?_
      rintro e w3 ⟨rfl, hb3⟩
      rw [HX.out]
      have HB3 := Lib.hid (HB2.out.trans (hb3.mono HB2.out.size))
      have R3 := Lib.hid (RD.out.below HB3.out (Nat.le_refl _))
      clear hb3
      go_wp2_with fail
      refine (goPay_yes _ _ _ _ _ _ R3.out HL.out (by omega) (by omega)).mono ?_
      rintro e w4 ⟨rfl, hb4⟩
      rw [HX.out]
      have HB4 := Lib.hid (HB3.out.trans (hb4.mono HB3.out.size))
      have R4 := Lib.hid (RD.out.below HB4.out (Nat.le_refl _))
      clear hb4
      go_wp2_with fail
      refine (goTop_yes _ _ _ _ _ R4.out HL.out).mono ?_
      rintro e w5 ⟨rfl, hb5⟩
      rw [HT.out]
      have HB5 := Lib.hid (HB4.out.trans (hb5.mono HB4.out.size))
      have R5 := Lib.hid (RD.out.below HB5.out (Nat.le_refl _))
      clear hb5
      have cg := CG.out _ HB5.out
      go_wp2_with fail
      go_ret
      first | exact ⟨rfl, HB5.out⟩ | exact ⟨ret_bool (decide_eq_true (by omega)), HB5.out⟩
  · rcases hl : ladB l0 with _ | _
    · have HL := Lib.hid hl
      clear hl
      go_enter Try.func9, Try.ntmps9
      go_wp2_with fail
      refine (awake31 _).mono ?_
      rintro e w1 ⟨rfl, hb1⟩
      have BK : Hid (Bk w1 w.heap.size 30 #[.int .i64 s1a, .int .i64 s1b]) := (Bk.new w 30 #[.int .i64 s1a, .int .i64 s1b]).below hb1 (by simp)
      have HB1 := Lib.hid (below_boxed hb1)
      have c0' : w1.cell? ⟨w.heap.size, 0, none⟩ = some (.int .i64 s1a) := BK.out.cell 0
      have c1' : w1.cell? ⟨w.heap.size, 1, none⟩ = some (.int .i64 s1b) := BK.out.cell 1
      clear hb1
      go_wp2_with fail
      go_quiet (fail)
      clear c0' c1'
      obtain ⟨w2, hw2⟩ : ∃ w2, w2 = w1.drewN nq := ⟨_, rfl⟩
      have HB2 : Hid (Below w.heap.size w w2) := by show Below _ _ _; rw [hw2]; exact below_dN HB1.out nq
      rw [← hw2]
      clear hw2
      have R2 := Lib.hid (RD.out.below HB2.out (Nat.le_refl _))
      go_wp2_with fail
      refine (goPay_no _ _ _ _ _ _ R2.out n6 FB.out (.inl HL.out)).mono ?_
      rintro e w3 ⟨rfl, hb3⟩
      have HB3 := Lib.hid (HB2.out.trans (hb3.mono HB2.out.size))
      have R3 := Lib.hid (RD.out.below HB3.out (Nat.le_refl _))
      clear hb3
      go_wp2_with fail
      refine (goPay_no _ _ _ _ _ _ R3.out n6 FA.out (.inl HL.out)).mono ?_
      rintro e w4 ⟨rfl, hb4⟩
      have HB4 := Lib.hid (HB3.out.trans (hb4.mono HB3.out.size))
      have R4 := Lib.hid (RD.out.below HB4.out (Nat.le_refl _))
      clear hb4
      go_wp2_with fail
      refine (goTop_no _ _ _ _ _ R4.out n6 HL.out).mono ?_
      rintro e w5 ⟨rfl, hb5⟩
      have HB5 := Lib.hid (HB4.out.trans (hb5.mono HB4.out.size))
      have R5 := Lib.hid (RD.out.below HB5.out (Nat.le_refl _))
      clear hb5
      go_wp2_with fail
      refine (goLad _ _ _ _ _ R5.out (by omega)).mono ?_
      rintro e w6 ⟨rfl, hb6⟩
      rw [HL.out]
      have HB6 := Lib.hid (HB5.out.trans (hb6.mono HB5.out.size))
      clear hb6
      go_wp2_with fail
      go_ret
      exact ⟨rfl, HB6.out⟩
    have HL := Lib.hid hl
    obtain ⟨F0, n16⟩ := fine_of hl
    have HF := Lib.hid F0
    clear hl F0
    obtain ⟨T, hT⟩ : ∃ T, payOf l0 281474976710656 = T := ⟨_, rfl⟩
    have HT := Lib.hid hT
    obtain ⟨U, hU⟩ : ∃ U, payOf l0 s1b = U := ⟨_, rfl⟩
    have HX := Lib.hid hU
    obtain ⟨V, hV⟩ : ∃ V, payOf l0 s1a = V := ⟨_, rfl⟩
    have HY := Lib.hid hV
    by_cases hx0 : s1b < 0
    · clear hT hU hV
      by_cases hy0 : s1a < 0 ∨ 281474976710656 < s1a
      · go_enter Try.func9, Try.ntmps9
        go_wp2_with fail
        refine (awake31 _).mono ?_
        rintro e w1 ⟨rfl, hb1⟩
        have BK : Hid (Bk w1 w.heap.size 30 #[.int .i64 s1a, .int .i64 s1b]) := (Bk.new w 30 #[.int .i64 s1a, .int .i64 s1b]).below hb1 (by simp)
        have HB1 := Lib.hid (below_boxed hb1)
        have c0' : w1.cell? ⟨w.heap.size, 0, none⟩ = some (.int .i64 s1a) := BK.out.cell 0
        have c1' : w1.cell? ⟨w.heap.size, 1, none⟩ = some (.int .i64 s1b) := BK.out.cell 1
        clear hb1
        go_wp2_with fail
        go_quiet (fail)
        clear c0' c1'
        obtain ⟨w2, hw2⟩ : ∃ w2, w2 = w1.drewN nq := ⟨_, rfl⟩
        have HB2 : Hid (Below w.heap.size w w2) := by show Below _ _ _; rw [hw2]; exact below_dN HB1.out nq
        rw [← hw2]
        clear hw2
        have R2 := Lib.hid (RD.out.below HB2.out (Nat.le_refl _))
        go_wp2_with fail
        refine (goPay_no _ _ _ _ _ _ R2.out n6 FB.out (.inr (by omega))).mono ?_
        rintro e w3 ⟨rfl, hb3⟩
        have HB3 := Lib.hid (HB2.out.trans (hb3.mono HB2.out.size))
        have R3 := Lib.hid (RD.out.below HB3.out (Nat.le_refl _))
        clear hb3
        go_wp2_with fail
        refine (goPay_no _ _ _ _ _ _ R3.out n6 FA.out (.inr (by omega))).mono ?_
        rintro e w4 ⟨rfl, hb4⟩
        have HB4 := Lib.hid (HB3.out.trans (hb4.mono HB3.out.size))
        have R4 := Lib.hid (RD.out.below HB4.out (Nat.le_refl _))
        clear hb4
        go_wp2_with fail
        refine (goTop_yes _ _ _ _ _ R4.out HL.out).mono ?_
        rintro e w5 ⟨rfl, hb5⟩
        rw [HT.out]
        have HB5 := Lib.hid (HB4.out.trans (hb5.mono HB4.out.size))
        have R5 := Lib.hid (RD.out.below HB5.out (Nat.le_refl _))
        clear hb5
        go_wp2_with fail
        refine (goLad _ _ _ _ _ R5.out (by omega)).mono ?_
        rintro e w6 ⟨rfl, hb6⟩
        rw [HL.out]
        have HB6 := Lib.hid (HB5.out.trans (hb6.mono HB5.out.size))
        clear hb6
        go_wp2_with fail
        go_ret
        exact ⟨rfl, HB6.out⟩
      · go_enter Try.func9, Try.ntmps9
        go_wp2_with fail
        refine (awake31 _).mono ?_
        rintro e w1 ⟨rfl, hb1⟩
        have BK : Hid (Bk w1 w.heap.size 30 #[.int .i64 s1a, .int .i64 s1b]) := (Bk.new w 30 #[.int .i64 s1a, .int .i64 s1b]).below hb1 (by simp)
        have HB1 := Lib.hid (below_boxed hb1)
        have c0' : w1.cell? ⟨w.heap.size, 0, none⟩ = some (.int .i64 s1a) := BK.out.cell 0
        have c1' : w1.cell? ⟨w.heap.size, 1, none⟩ = some (.int .i64 s1b) := BK.out.cell 1
        clear hb1
        go_wp2_with fail
        go_quiet (fail)
        clear c0' c1'
        obtain ⟨w2, hw2⟩ : ∃ w2, w2 = w1.drewN nq := ⟨_, rfl⟩
        have HB2 : Hid (Below w.heap.size w w2) := by show Below _ _ _; rw [hw2]; exact below_dN HB1.out nq
        rw [← hw2]
        clear hw2
        have R2 := Lib.hid (RD.out.below HB2.out (Nat.le_refl _))
        go_wp2_with fail
        refine (goPay_no _ _ _ _ _ _ R2.out n6 FB.out (.inr (by omega))).mono ?_
        rintro e w3 ⟨rfl, hb3⟩
        have HB3 := Lib.hid (HB2.out.trans (hb3.mono HB2.out.size))
        have R3 := Lib.hid (RD.out.below HB3.out (Nat.le_refl _))
        clear hb3
        go_wp2_with fail
        refine (goPay_yes _ _ _ _ _ _ R3.out HL.out (by omega) (by omega)).mono ?_
        rintro e w4 ⟨rfl, hb4⟩
        rw [HY.out]
        have HB4 := Lib.hid (HB3.out.trans (hb4.mono HB3.out.size))
        have R4 := Lib.hid (RD.out.below HB4.out (Nat.le_refl _))
        clear hb4
        go_wp2_with fail
        refine (goTop_yes _ _ _ _ _ R4.out HL.out).mono ?_
        rintro e w5 ⟨rfl, hb5⟩
        rw [HT.out]
        have HB5 := Lib.hid (HB4.out.trans (hb5.mono HB4.out.size))
        have R5 := Lib.hid (RD.out.below HB5.out (Nat.le_refl _))
        clear hb5
        go_wp2_with fail
        refine (goLad _ _ _ _ _ R5.out (by omega)).mono ?_
        rintro e w6 ⟨rfl, hb6⟩
        rw [HL.out]
        have HB6 := Lib.hid (HB5.out.trans (hb6.mono HB5.out.size))
        clear hb6
        go_wp2_with fail
        go_ret
        exact ⟨rfl, HB6.out⟩
    by_cases hy1 : 281474976710656 < s1a
    · clear hT hU hV
      by_cases hx1 : 281474976710656 < s1b
      · go_enter Try.func9, Try.ntmps9
        go_wp2_with fail
        refine (awake31 _).mono ?_
        rintro e w1 ⟨rfl, hb1⟩
        have BK : Hid (Bk w1 w.heap.size 30 #[.int .i64 s1a, .int .i64 s1b]) := (Bk.new w 30 #[.int .i64 s1a, .int .i64 s1b]).below hb1 (by simp)
        have HB1 := Lib.hid (below_boxed hb1)
        have c0' : w1.cell? ⟨w.heap.size, 0, none⟩ = some (.int .i64 s1a) := BK.out.cell 0
        have c1' : w1.cell? ⟨w.heap.size, 1, none⟩ = some (.int .i64 s1b) := BK.out.cell 1
        clear hb1
        go_wp2_with fail
        go_quiet (fail)
        clear c0' c1'
        obtain ⟨w2, hw2⟩ : ∃ w2, w2 = w1.drewN nq := ⟨_, rfl⟩
        have HB2 : Hid (Below w.heap.size w w2) := by show Below _ _ _; rw [hw2]; exact below_dN HB1.out nq
        rw [← hw2]
        clear hw2
        have R2 := Lib.hid (RD.out.below HB2.out (Nat.le_refl _))
        go_wp2_with fail
        refine (goPay_no _ _ _ _ _ _ R2.out n6 FB.out (.inr (by omega))).mono ?_
        rintro e w3 ⟨rfl, hb3⟩
        have HB3 := Lib.hid (HB2.out.trans (hb3.mono HB2.out.size))
        have R3 := Lib.hid (RD.out.below HB3.out (Nat.le_refl _))
        clear hb3
        go_wp2_with fail
        refine (goPay_no _ _ _ _ _ _ R3.out n6 FA.out (.inr (by omega))).mono ?_
        rintro e w4 ⟨rfl, hb4⟩
        have HB4 := Lib.hid (HB3.out.trans (hb4.mono HB3.out.size))
        have R4 := Lib.hid (RD.out.below HB4.out (Nat.le_refl _))
        clear hb4
        go_wp2_with fail
        refine (goTop_yes _ _ _ _ _ R4.out HL.out).mono ?_
        rintro e w5 ⟨rfl, hb5⟩
        rw [HT.out]
        have HB5 := Lib.hid (HB4.out.trans (hb5.mono HB4.out.size))
        have R5 := Lib.hid (RD.out.below HB5.out (Nat.le_refl _))
        clear hb5
        go_wp2_with fail
        refine (goLad _ _ _ _ _ R5.out (by omega)).mono ?_
        rintro e w6 ⟨rfl, hb6⟩
        rw [HL.out]
        have HB6 := Lib.hid (HB5.out.trans (hb6.mono HB5.out.size))
        clear hb6
        go_wp2_with fail
        go_ret
        exact ⟨rfl, HB6.out⟩
      · go_enter Try.func9, Try.ntmps9
        go_wp2_with fail
        refine (awake31 _).mono ?_
        rintro e w1 ⟨rfl, hb1⟩
        have BK : Hid (Bk w1 w.heap.size 30 #[.int .i64 s1a, .int .i64 s1b]) := (Bk.new w 30 #[.int .i64 s1a, .int .i64 s1b]).below hb1 (by simp)
        have HB1 := Lib.hid (below_boxed hb1)
        have c0' : w1.cell? ⟨w.heap.size, 0, none⟩ = some (.int .i64 s1a) := BK.out.cell 0
        have c1' : w1.cell? ⟨w.heap.size, 1, none⟩ = some (.int .i64 s1b) := BK.out.cell 1
        clear hb1
        go_wp2_with fail
        go_quiet (fail)
        clear c0' c1'
        obtain ⟨w2, hw2⟩ : ∃ w2, w2 = w1.drewN nq := ⟨_, rfl⟩
        have HB2 : Hid (Below w.heap.size w w2) := by show Below _ _ _; rw [hw2]; exact below_dN HB1.out nq
        rw [← hw2]
        clear hw2
        have R2 := Lib.hid (RD.out.below HB2.out (Nat.le_refl _))
        go_wp2_with fail
        refine (goPay_yes _ _ _ _ _ _ R2.out HL.out (by omega) (by omega)).mono ?_
        rintro e w3 ⟨rfl, hb3⟩
        rw [HX.out]
        have HB3 := Lib.hid (HB2.out.trans (hb3.mono HB2.out.size))
        have R3 := Lib.hid (RD.out.below HB3.out (Nat.le_refl _))
        clear hb3
        go_wp2_with fail
        refine (goPay_no _ _ _ _ _ _ R3.out n6 FA.out (.inr (by omega))).mono ?_
        rintro e w4 ⟨rfl, hb4⟩
        have HB4 := Lib.hid (HB3.out.trans (hb4.mono HB3.out.size))
        have R4 := Lib.hid (RD.out.below HB4.out (Nat.le_refl _))
        clear hb4
        go_wp2_with fail
        refine (goTop_yes _ _ _ _ _ R4.out HL.out).mono ?_
        rintro e w5 ⟨rfl, hb5⟩
        rw [HT.out]
        have HB5 := Lib.hid (HB4.out.trans (hb5.mono HB4.out.size))
        have R5 := Lib.hid (RD.out.below HB5.out (Nat.le_refl _))
        clear hb5
        go_wp2_with fail
        refine (goLad _ _ _ _ _ R5.out (by omega)).mono ?_
        rintro e w6 ⟨rfl, hb6⟩
        rw [HL.out]
        have HB6 := Lib.hid (HB5.out.trans (hb6.mono HB5.out.size))
        clear hb6
        go_wp2_with fail
        go_ret
        exact ⟨rfl, HB6.out⟩
    have e1 := pay_nonneg HF.out s1b
    have e2 := pay_le HF.out (s := s1b) (by omega) (by omega)
    have e3 := pay_le HF.out (s := s1a) (by omega) (by omega)
    have e4 := pay_mono HF.out (x := s1b) (y := s1a) (by omega)
    have e5 := pay_mono HF.out (x := s1a) (y := 281474976710656) (by omega)
    have e6 := pay_diff HF.out (x := s1b) (y := s1a) (by omega) (by omega) (by omega)
    have e7 := pay_le HF.out (s := 281474976710656) (by omega) (by omega)
    rw [hU] at e1 e2 e4 e6
    rw [hV] at e3 e4 e5 e6
    rw [hT] at e5 e7
    clear hT
    clear hU hV
    rcases Nat.eq_zero_or_pos n0 with rfl | hpos
    · go_enter Try.func9, Try.ntmps9
      go_wp2_with fail
      refine (awake31 _).mono ?_
      rintro e w1 ⟨rfl, hb1⟩
      have BK : Hid (Bk w1 w.heap.size 30 #[.int .i64 s1a, .int .i64 s1b]) := (Bk.new w 30 #[.int .i64 s1a, .int .i64 s1b]).below hb1 (by simp)
      have HB1 := Lib.hid (below_boxed hb1)
      have c0' : w1.cell? ⟨w.heap.size, 0, none⟩ = some (.int .i64 s1a) := BK.out.cell 0
      have c1' : w1.cell? ⟨w.heap.size, 1, none⟩ = some (.int .i64 s1b) := BK.out.cell 1
      clear hb1
      go_wp2_with fail
      go_quiet (fail)
      clear c0' c1'
      obtain ⟨w2, hw2⟩ : ∃ w2, w2 = w1.drewN nq := ⟨_, rfl⟩
      have HB2 : Hid (Below w.heap.size w w2) := by show Below _ _ _; rw [hw2]; exact below_dN HB1.out nq
      rw [← hw2]
      clear hw2
      have R2 := Lib.hid (RD.out.below HB2.out (Nat.le_refl _))
      go_wp2_with fail
      refine (goPay_yes _ _ _ _ _ _ R2.out HL.out (by omega) (by omega)).mono ?_
      rintro e w3 ⟨rfl, hb3⟩
      rw [HX.out]
      have HB3 := Lib.hid (HB2.out.trans (hb3.mono HB2.out.size))
      have R3 := Lib.hid (RD.out.below HB3.out (Nat.le_refl _))
      clear hb3
      go_wp2_with fail
      refine (goPay_yes _ _ _ _ _ _ R3.out HL.out (by omega) (by omega)).mono ?_
      rintro e w4 ⟨rfl, hb4⟩
      rw [HY.out]
      have HB4 := Lib.hid (HB3.out.trans (hb4.mono HB3.out.size))
      have R4 := Lib.hid (RD.out.below HB4.out (Nat.le_refl _))
      clear hb4
      go_wp2_with fail
      refine (goTop_yes _ _ _ _ _ R4.out HL.out).mono ?_
      rintro e w5 ⟨rfl, hb5⟩
      rw [HT.out]
      have HB5 := Lib.hid (HB4.out.trans (hb5.mono HB4.out.size))
      have R5 := Lib.hid (RD.out.below HB5.out (Nat.le_refl _))
      clear hb5
      go_wp2_with fail
      go_ret
      exact ⟨rfl, HB5.out⟩
    obtain ⟨j, rfl⟩ : ∃ j, n0 = j + 1 := ⟨n0 - 1, by omega⟩
    obtain ⟨g, sg, b, off, hA, hg, hcg, hcs⟩ := RD.out.at2 (k := j) (by omega)
    subst hA
    have zb := lt_of_cell hcg
    have LST : Hid (l0.getD (l0.length - 1) (0, 0) = (g, sg)) := by
      show _ = _
      rw [show l0.length - 1 = j by have := RD.out.1; omega]
      exact getD_of hg.out
    have NE : Hid (l0 ≠ []) := fun e => by have := RD.out.1; rw [e] at this; simp at this
    clear hcg hcs
    have cg : ∀ W : World, Below w.heap.size w W → W.cell? ⟨b, off + j * 2, none⟩ = some (.int .i64 g) := fun W hW => by
      obtain ⟨g', sg', b', off', hA, hg', hcg, _⟩ := (RD.out.below hW (Nat.le_refl _)).at2 (k := j) (by omega)
      simp only [Option.some.injEq, Addr.mk.injEq, and_true] at hA
      obtain ⟨rfl, rfl⟩ := hA
      have h1 := hg.out
      rw [hg'.out] at h1
      injection h1 with h1
      rw [Prod.mk.injEq] at h1
      rw [h1.1] at hcg
      exact hcg
    have CG := Lib.hid cg
    clear cg
    by_cases hge : g ≤ s1b
    · have TU : Hid (U = T) := by show _ = _; rw [← HX.out, ← HT.out]; exact pay_top HF.out NE.out (by rw [LST.out]; exact hge)
      have TV : Hid (V = T) := by show _ = _; rw [← HY.out, ← HT.out]; exact pay_top HF.out NE.out (by rw [LST.out]; show g ≤ s1a; omega)
      obtain rfl := TU.out
      obtain rfl := TV.out
      have uu : (V != V) = false := by simp
      go_enter Try.func9, Try.ntmps9
      go_wp2_with fail
      refine (awake31 _).mono ?_
      rintro e w1 ⟨rfl, hb1⟩
      have BK : Hid (Bk w1 w.heap.size 30 #[.int .i64 s1a, .int .i64 s1b]) := (Bk.new w 30 #[.int .i64 s1a, .int .i64 s1b]).below hb1 (by simp)
      have HB1 := Lib.hid (below_boxed hb1)
      have c0' : w1.cell? ⟨w.heap.size, 0, none⟩ = some (.int .i64 s1a) := BK.out.cell 0
      have c1' : w1.cell? ⟨w.heap.size, 1, none⟩ = some (.int .i64 s1b) := BK.out.cell 1
      clear hb1
      go_wp2_with fail
      go_quiet (fail)
      clear c0' c1'
      obtain ⟨w2, hw2⟩ : ∃ w2, w2 = w1.drewN nq := ⟨_, rfl⟩
      have HB2 : Hid (Below w.heap.size w w2) := by show Below _ _ _; rw [hw2]; exact below_dN HB1.out nq
      rw [← hw2]
      clear hw2
      have R2 := Lib.hid (RD.out.below HB2.out (Nat.le_refl _))
      go_wp2_with fail
      refine (goPay_yes _ _ _ _ _ _ R2.out HL.out (by omega) (by omega)).mono ?_
      rintro e w3 ⟨rfl, hb3⟩
      rw [HX.out]
      have HB3 := Lib.hid (HB2.out.trans (hb3.mono HB2.out.size))
      have R3 := Lib.hid (RD.out.below HB3.out (Nat.le_refl _))
      clear hb3
      go_wp2_with fail
      refine (goPay_yes _ _ _ _ _ _ R3.out HL.out (by omega) (by omega)).mono ?_
      rintro e w4 ⟨rfl, hb4⟩
      rw [HY.out]
      have HB4 := Lib.hid (HB3.out.trans (hb4.mono HB3.out.size))
      have R4 := Lib.hid (RD.out.below HB4.out (Nat.le_refl _))
      clear hb4
      go_wp2_with fail
      refine (goTop_yes _ _ _ _ _ R4.out HL.out).mono ?_
      rintro e w5 ⟨rfl, hb5⟩
      rw [HT.out]
      have HB5 := Lib.hid (HB4.out.trans (hb5.mono HB4.out.size))
      have R5 := Lib.hid (RD.out.below HB5.out (Nat.le_refl _))
      clear hb5
      have cg := CG.out _ HB5.out
      go_wp2_with fail
      go_ret
      first | exact ⟨rfl, HB5.out⟩ | exact ⟨ret_bool (decide_eq_true (by omega)), HB5.out⟩
    · go_enter Try.func9, Try.ntmps9
      go_wp2_with fail
      refine (awake31 _).mono ?_
      rintro e w1 ⟨rfl, hb1⟩
      have BK : Hid (Bk w1 w.heap.size 30 #[.int .i64 s1a, .int .i64 s1b]) := (Bk.new w 30 #[.int .i64 s1a, .int .i64 s1b]).below hb1 (by simp)
      have HB1 := Lib.hid (below_boxed hb1)
      have c0' : w1.cell? ⟨w.heap.size, 0, none⟩ = some (.int .i64 s1a) := BK.out.cell 0
      have c1' : w1.cell? ⟨w.heap.size, 1, none⟩ = some (.int .i64 s1b) := BK.out.cell 1
      clear hb1
      go_wp2_with fail
      go_quiet (fail)
      clear c0' c1'
      obtain ⟨w2, hw2⟩ : ∃ w2, w2 = w1.drewN nq := ⟨_, rfl⟩
      have HB2 : Hid (Below w.heap.size w w2) := by show Below _ _ _; rw [hw2]; exact below_dN HB1.out nq
      rw [← hw2]
      clear hw2
      have R2 := Lib.hid (RD.out.below HB2.out (Nat.le_refl _))
      go_wp2_with fail
      refine (goPay_yes _ _ _ _ _ _ R2.out HL.out (by omega) (by omega)).mono ?_
      rintro e w3 ⟨rfl, hb3⟩
      rw [HX.out]
      have HB3 := Lib.hid (HB2.out.trans (hb3.mono HB2.out.size))
      have R3 := Lib.hid (RD.out.below HB3.out (Nat.le_refl _))
      clear hb3
      go_wp2_with fail
      refine (goPay_yes _ _ _ _ _ _ R3.out HL.out (by omega) (by omega)).mono ?_
      rintro e w4 ⟨rfl, hb4⟩
      rw [HY.out]
      have HB4 := Lib.hid (HB3.out.trans (hb4.mono HB3.out.size))
      have R4 := Lib.hid (RD.out.below HB4.out (Nat.le_refl _))
      clear hb4
      go_wp2_with fail
      refine (goTop_yes _ _ _ _ _ R4.out HL.out).mono ?_
      rintro e w5 ⟨rfl, hb5⟩
      rw [HT.out]
      have HB5 := Lib.hid (HB4.out.trans (hb5.mono HB4.out.size))
      have R5 := Lib.hid (RD.out.below HB5.out (Nat.le_refl _))
      clear hb5
      have cg := CG.out _ HB5.out
      go_wp2_with fail
      go_ret
      first | exact ⟨rfl, HB5.out⟩ | exact ⟨ret_bool (decide_eq_true (by omega)), HB5.out⟩
end ladderFitsWalk
end Go.Proofs.Ytjnkokfneinjeaa
