/-
  SegmentTells, walked: it returns true, whatever the legs. Conditions: the argument's reading.
-/
import Derived.Test.YtceohmbjajhlcaaSegU
import Derived.Test.YtceohmbjajhlcaaSegmentLegsWalk
import Derived.Test.YtceohmbjajhlcaaLater
namespace Go.Proofs.Ytceohmbjajhlcaa
open Go.ChangeShapes Go.WideShapes Go.ChangeAt Go.RowKit
set_option linter.unusedVariables false

theorem goSpan_is {A : Option Addr} {n c : Nat} {l : List Leg} {S : Int} {w : World} (hS : spanTo l n = S) (h : Rd four 4 w A n l) (hm : n ≤ 100) (ht : TimedL l) :
    Calls Try.prog 35 #[.slice A n c] w fun e w' => e = .returned (.int .i64 S) ∧ Below w.heap.size w w' := by rw [← hS]; exact goSpan A n c l w h hm ht
namespace segmentTellsWalk
set_option maxHeartbeats 4000000 in
theorem walk (A0 : Option Addr) (n0 c0 : Nat) (l0 : List (Int × Int × Int × Int)) (w : World) (rd0 : Rd four 4 w A0 n0 l0) (ft0 : ∀ r ∈ l0, ∀ v ∈ four r, Fits v) (ge0 : n0 ≤ c0) (mx0 : c0 ≤ maxLen) :
    Calls Try.prog 9 #[.slice A0 n0 c0] w fun e w' => e = .returned (.bool true) ∧ Below w.heap.size w w' := by
  unfold maxLen at mx0
  by_cases h6 : 100 < n0
  · clear rd0
    go_enter Try.func9, Try.ntmps9
    go_wp2_with fail
    refine (awake25 _).mono ?_
    rintro e w1 ⟨rfl, hb1⟩
    have HB1 := Lib.hid hb1
    clear hb1
    go_wp2_with fail
    go_ret
    exact ⟨rfl, HB1.out⟩
  have n6 : n0 ≤ 100 := by omega
  have RD := Lib.hid rd0
  clear rd0 h6 ft0
  rcases hl : rightL l0 with _ | _
  · have HL := Lib.hid hl
    clear hl
    go_enter Try.func9, Try.ntmps9
    go_wp2_with fail
    refine (awake25 _).mono ?_
    rintro e w1 ⟨rfl, hb1⟩
    have HB1 := Lib.hid hb1
    have R1 := Lib.hid (RD.out.below hb1 (Nat.le_refl _))
    clear hb1
    go_wp2_with fail
    refine (goRightL _ _ _ _ _ R1.out (by omega)).mono ?_
    rintro e2 w2 ⟨rfl, hb2⟩
    rw [HL.out]
    have HB2 := Lib.hid (HB1.out.trans (hb2.mono HB1.out.size))
    have R2 := Lib.hid (RD.out.below HB2.out (Nat.le_refl _))
    clear hb2
    go_wp2_with fail
    refine (refRightL _ _ _ _ _ R2.out (by omega)).mono ?_
    rintro e3 w3 ⟨rfl, hb3⟩
    rw [HL.out]
    have HB3 := Lib.hid (HB2.out.trans (hb3.mono HB2.out.size))
    have R3 := Lib.hid (RD.out.below HB3.out (Nat.le_refl _))
    clear hb3
    go_wp2_with fail
    refine (refRightL _ _ _ _ _ R3.out (by omega)).mono ?_
    rintro e4 w4 ⟨rfl, hb4⟩
    rw [HL.out]
    have HB4 := Lib.hid (HB3.out.trans (hb4.mono HB3.out.size))
    have R4 := Lib.hid (RD.out.below HB4.out (Nat.le_refl _))
    clear hb4
    go_wp2_with fail
    go_ret
    exact ⟨rfl, HB4.out⟩
  have HL := Lib.hid hl
  have HT := Lib.hid (right_timedL hl)
  clear hl
  rcases Nat.eq_zero_or_pos n0 with rfl | hpos
  · go_enter Try.func9, Try.ntmps9
    go_wp2_with fail
    refine (awake25 _).mono ?_
    rintro e w1 ⟨rfl, hb1⟩
    have HB1 := Lib.hid hb1
    have R1 := Lib.hid (RD.out.below hb1 (Nat.le_refl _))
    clear hb1
    go_wp2_with fail
    refine (goRightL _ _ _ _ _ R1.out (by omega)).mono ?_
    rintro e2 w2 ⟨rfl, hb2⟩
    rw [HL.out]
    have HB2 := Lib.hid (HB1.out.trans (hb2.mono HB1.out.size))
    have R2 := Lib.hid (RD.out.below HB2.out (Nat.le_refl _))
    clear hb2
    go_wp2_with fail
    refine (refRightL _ _ _ _ _ R2.out (by omega)).mono ?_
    rintro e3 w3 ⟨rfl, hb3⟩
    rw [HL.out]
    have HB3 := Lib.hid (HB2.out.trans (hb3.mono HB2.out.size))
    have R3 := Lib.hid (RD.out.below HB3.out (Nat.le_refl _))
    clear hb3
    go_wp2_with fail
    refine (refRightL _ _ _ _ _ R3.out (by omega)).mono ?_
    rintro e4 w4 ⟨rfl, hb4⟩
    rw [HL.out]
    have HB4 := Lib.hid (HB3.out.trans (hb4.mono HB3.out.size))
    have R4 := Lib.hid (RD.out.below HB4.out (Nat.le_refl _))
    clear hb4
    go_wp2_with fail
    refine (goJoin_none _ _ _).mono ?_
    rintro e w5 ⟨rfl, hb5⟩
    have HB5 := Lib.hid (HB4.out.trans (hb5.mono HB4.out.size))
    have z5 := HB5.out.size
    have R6 := Lib.hid ((RD.out.below HB5.out (Nat.le_refl _)).alloc (.cells #[.int .i64 0, .int .i64 0, .int .i64 0, .int .i64 0] 64))
    clear hb5
    go_wp2_with fail
    refine (goSpan_is rfl R6.out (by omega) HT.out).mono ?_
    rintro e w7 ⟨rfl, hb7⟩
    have HB7 := Lib.hid ((HB5.out.alloc z5 _).trans (hb7.mono (by simp; omega)))
    clear hb7
    rw [show spanTo l0 0 = 0 from rfl]
    go_wp2_with fail
    go_ret
    exact ⟨rfl, HB7.out⟩
  obtain ⟨j, rfl⟩ : ∃ j, n0 = j + 1 := ⟨n0 - 1, by omega⟩
  obtain ⟨f, t, s, e, b, off, hA, hx, _, _, _, _⟩ := RD.out.at4 (k := 0) (by omega)
  subst hA
  obtain ⟨f', t', s', e', b', off', hA, hy, _, _, _, _⟩ := RD.out.at4 (k := j) (by omega)
  simp only [Option.some.injEq, Addr.mk.injEq, and_true] at hA
  obtain ⟨rfl, rfl⟩ := hA
  obtain ⟨S, hS⟩ : ∃ S, spanTo l0 (j + 1) = S := ⟨_, rfl⟩
  have HS := Lib.hid hS
  have b0 : (((j + 1 : Nat) : Int) == 0) = false := by simp; omega
  clear hS
  go_enter Try.func9, Try.ntmps9
  go_wp2_with fail
  refine (awake25 _).mono ?_
  rintro e1 w1 ⟨rfl, hb1⟩
  have HB1 := Lib.hid hb1
  have R1 := Lib.hid (RD.out.below hb1 (Nat.le_refl _))
  clear hb1
  go_wp2_with fail
  refine (goRightL _ _ _ _ _ R1.out (by omega)).mono ?_
  rintro e2 w2 ⟨rfl, hb2⟩
  rw [HL.out]
  have HB2 := Lib.hid (HB1.out.trans (hb2.mono HB1.out.size))
  have R2 := Lib.hid (RD.out.below HB2.out (Nat.le_refl _))
  clear hb2
  go_wp2_with fail
  refine (refRightL _ _ _ _ _ R2.out (by omega)).mono ?_
  rintro e3 w3 ⟨rfl, hb3⟩
  rw [HL.out]
  have HB3 := Lib.hid (HB2.out.trans (hb3.mono HB2.out.size))
  have R3 := Lib.hid (RD.out.below HB3.out (Nat.le_refl _))
  clear hb3
  go_wp2_with fail
  refine (refRightL _ _ _ _ _ R3.out (by omega)).mono ?_
  rintro e4 w4 ⟨rfl, hb4⟩
  rw [HL.out]
  have HB4 := Lib.hid (HB3.out.trans (hb4.mono HB3.out.size))
  have R4 := Lib.hid (RD.out.below HB4.out (Nat.le_refl _))
  clear hb4
  go_wp2_with fail
  refine (goJoin _ _ _ _ _ _ _ _ _ _ _ _ _ R4.out (by omega) (by omega) hx.out (by rw [show j + 1 - 1 = j by omega]; exact hy.out)).mono ?_
  rintro e5 w5 ⟨rfl, hb5⟩
  have HB5 := Lib.hid (HB4.out.trans (hb5.mono HB4.out.size))
  have z5 := HB5.out.size
  clear hb5
  go_wp2_with fail
  go_loopw [5, 44] (fun v i wr => ∃ (k : Nat) (X : Int), k ≤ j + 1 ∧ i = .int .i64 k ∧ v = .int .i64 X ∧ Hid (X = spanTo l0 k) ∧ Hid (Bk wr w5.heap.size 64 #[.int .i64 f, .int .i64 t', .int .i64 s, .int .i64 e']) ∧ Hid (Below w.heap.size w wr)) (fun _ i _ => j + 1 - (intOf i).toNat)
  case atStart => exact ⟨0, 0, Nat.zero_le _, rfl, rfl, rfl, Bk.new _ _ _, HB5.out.alloc z5 _⟩
  case round =>
    obtain ⟨k, X, hk, rfl, rfl, hX, hBk, hb⟩ := hrel
    have hsz := hb.out.size
    by_cases hlt : k < j + 1
    · obtain ⟨x0, x1, x2, x3, b', off', hA, hxk, hc0, hc1, hc2, hc3⟩ := (RD.out.below hb.out (Nat.le_refl _)).at4 hlt
      simp only [Option.some.injEq, Addr.mk.injEq, and_true] at hA
      obtain ⟨rfl, rfl⟩ := hA
      have lb := lt_of_cell hc0
      obtain ⟨t0, t1, t2⟩ := HT.out _ (mem_of_at hxk.out)
      dsimp only at t0 t1 t2
      obtain ⟨s0, s1⟩ := spanTo_bd HT.out k (by have := RD.out.1; omega)
      have NX : Hid (X + (x3 - x2) = spanTo l0 (k + 1)) := by show _ = _; rw [spanTo, getD_of hxk.out, hX.out]
      rw [← hX.out] at s0 s1
      have s2 : X ≤ 112150186033152 := by omega
      clear s1
      go_wp2_with fail
      go_roundw
      case rel => exact ⟨k + 1, X + (x3 - x2), by omega, by go_num, rfl, NX.out, hBk.out.alloc _, hb.out.alloc hsz _⟩
      case measure => simp [intOf]; omega
    · obtain rfl : k = j + 1 := by omega
      obtain rfl : X = S := by rw [hX.out, HS.out]
      obtain ⟨x0, x1, x2, x3, b', off', hA, hxk, hc0, hc1, hc2, hc3⟩ := (RD.out.below hb.out (Nat.le_refl _)).at4 (k := j) (by omega)
      simp only [Option.some.injEq, Addr.mk.injEq, and_true] at hA
      obtain ⟨rfl, rfl⟩ := hA
      obtain ⟨rfl, rfl, rfl, rfl⟩ : x0 = f' ∧ x1 = t' ∧ x2 = s' ∧ x3 = e' := by
        have h1 := hxk.out
        rw [hy.out] at h1
        simp only [Option.some.injEq, Prod.mk.injEq] at h1
        exact ⟨h1.1.symm, h1.2.1.symm, h1.2.2.1.symm, h1.2.2.2.symm⟩
      have wj : IntKind.i64.wrap (j : Int) = (j : Int) := IntWalk.i64_in _ (by omega)
      have lb := lt_of_cell hc0
      go_wp2_with fail
      clear wj
      obtain ⟨wq, hwq⟩ : ∃ wq, wr.alloc (.cells #[.int .i64 x0, .int .i64 x1, .int .i64 x2, .int .i64 x3] 64) = wq := ⟨_, rfl⟩
      have BA : Hid (Bk wq w5.heap.size 64 #[.int .i64 f, .int .i64 x1, .int .i64 s, .int .i64 x3]) := by show Bk _ _ _ _; rw [← hwq]; exact hBk.out.alloc _
      have BB : Hid (Bk wq wr.heap.size 64 #[.int .i64 x0, .int .i64 x1, .int .i64 x2, .int .i64 x3]) := by show Bk _ _ _ _; rw [← hwq]; exact Bk.new _ _ _
      have BW : Hid (Below w.heap.size w wq) := by show Below _ _ _; rw [← hwq]; exact hb.out.alloc hsz _
      have RQ := Lib.hid (RD.out.below BW.out (Nat.le_refl _))
      rw [hwq]
      clear hwq hc0 hc1 hc2 hc3
      obtain ⟨u0, u1, u2, u3, b', off', hA, hu, d0, d1, d2, d3⟩ := RQ.out.at4 (k := 0) (by omega)
      simp only [Option.some.injEq, Addr.mk.injEq, and_true] at hA
      obtain ⟨rfl, rfl⟩ := hA
      obtain ⟨rfl, rfl, rfl, rfl⟩ : u0 = f ∧ u1 = t ∧ u2 = s ∧ u3 = e := by
        have h1 := hu.out
        rw [hx.out] at h1
        simp only [Option.some.injEq, Prod.mk.injEq] at h1
        exact ⟨h1.1.symm, h1.2.1.symm, h1.2.2.1.symm, h1.2.2.2.symm⟩
      rw [Nat.zero_mul, Nat.add_zero] at d0 d2
      have g0 : ∀ t : Later wq, t.w.cell? ⟨b, off, none⟩ = some (.int .i64 u0) := fun t => Later.cell d0 t
      have g2 : ∀ t : Later wq, t.w.cell? ⟨b, off + 2, none⟩ = some (.int .i64 u2) := fun t => Later.cell d2 t
      have p0 : ∀ t : Later wq, t.w.cell? ⟨w5.heap.size, 0, none⟩ = some (.int .i64 u0) := fun t => Later.cell (BA.out.cell 0) t
      have p1 : ∀ t : Later wq, t.w.cell? ⟨w5.heap.size, 1, none⟩ = some (.int .i64 x1) := fun t => Later.cell (BA.out.cell 1) t
      have p2 : ∀ t : Later wq, t.w.cell? ⟨w5.heap.size, 2, none⟩ = some (.int .i64 u2) := fun t => Later.cell (BA.out.cell 2) t
      have p3 : ∀ t : Later wq, t.w.cell? ⟨w5.heap.size, 3, none⟩ = some (.int .i64 x3) := fun t => Later.cell (BA.out.cell 3) t
      have q1 : ∀ t : Later wq, t.w.cell? ⟨wr.heap.size, 1, none⟩ = some (.int .i64 x1) := fun t => Later.cell (BB.out.cell 1) t
      have q3 : ∀ t : Later wq, t.w.cell? ⟨wr.heap.size, 3, none⟩ = some (.int .i64 x3) := fun t => Later.cell (BB.out.cell 3) t
      have RT : Hid (∀ t : Later wq, Rd four 4 t.w (some ⟨b, off, none⟩) (j + 1) l0) := fun t => RQ.out.below t.below (Nat.le_refl _)
      clear d0 d1 d2 d3
      refine wp_region_later (by kernel_rfl) (by kernel_rfl) ?_
      all_goals
        repeat (go_big_quiet_step ((go_at_call 35; exact calls_later (goSpan_is HS.out (RT.out _) n6 HT.out))))
        refine wpQuiet_nil ?_
        rintro w8 ⟨t, rfl⟩
        have hb8 := t.below
        generalize t.w = w8 at hb8 ⊢
        clear g0 g2 p0 p1 p2 p3 q1 q3 RT t
        have HB8 := Lib.hid (BW.out.trans (hb8.mono BW.out.size))
        clear hb8
        go_wp2_with fail
        go_ret
        exact ⟨rfl, HB8.out⟩
end segmentTellsWalk
end Go.Proofs.Ytceohmbjajhlcaa
