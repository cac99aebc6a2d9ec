/-
  CalendarBack, walked: it returns true, whatever the day. Condition (Tab): the variable calendar.days reads as its text says.
-/
import Derived.Test.YtaanmikdhhdeiaaDoorCalQ
namespace Go.Proofs.YtaanmikdhhdeiaaDoor
open Go.ChangeShapes Go.WideShapes Go.ChangeAt Go.RowKit
set_option linter.unusedVariables false
namespace calendarBackWalk
set_option maxHeartbeats 4000000 in
theorem walk (a0 : Int) (w : World) (hT : Tab w) (w0 : (Lit.int .i64 a0).wf = true) :
    Calls Tryd.prog 5 #[.int .i64 a0] w fun e w' => e = .returned (.bool true) ∧ Below w.heap.size w w' := by
  have A0 := wf_fits w0
  unfold Fits at A0
  by_cases hr : 0 ≤ a0 ∧ a0 ≤ 2932896
  · obtain ⟨n0, n1⟩ := hr
    obtain ⟨y, m, d, hD⟩ := date_of a0 n0 n1
    have D := Lib.hid hD
    have TS : Hid ((txt y m d).size = 10) := by show _ = _; rw [txt, nums_size]; rfl
    have RD := Lib.hid (txt_read hD)
    have d31 : d ≤ 31 := by have := hD.2.2.2.2.2.1; have := (days_bd y m).2; omega
    obtain ⟨y0, y1, m0, m1, d0, -⟩ := hD
    by_cases hl : a0 = 2932896
    · have bl : (a0 == 2932896) = true := by simpa using hl
      obtain ⟨ly, lm, ld⟩ := date_one D.out (by rw [hl]; exact last_day)
      have by1 : (y == 9999) = true := by simpa using ly
      have bm1 : (m == 12) = true := by simpa using lm
      have bd1 : (d == 31) = true := by simpa using ld
      clear ly lm ld hl
      have HB0 := Lib.hid (Below.refl w.heap.size w)
      have HT := Lib.hid hT
      clear hT
      go_enter Tryd.func5, Tryd.ntmps5
      go_wp2_with fail
      refine (goAwake _ HT.out).mono ?_
      rintro e w1 ⟨rfl, hb⟩
      have HB1 := Lib.hid (HB0.out.trans (hb.mono HB0.out.size))
      have HT1 := Lib.hid (HT.out.below hb HT.out.1)
      clear hb HB0 HT
      go_wp2_with fail
      refine (goOf_is a0 y m d _ HT1.out D.out).mono ?_
      rintro e w2 ⟨rfl, hb⟩
      have HB2 := Lib.hid (HB1.out.trans (hb.mono HB1.out.size))
      have HT2 := Lib.hid (HT1.out.below hb HT1.out.1)
      clear hb HB1 HT1
      go_wp2_with fail
      have HB3 := Lib.hid (HB2.out.alloc HB2.out.size (.cells #[.int .i64 y, .int .i64 m, .int .i64 d] 23))
      have HT3 := Lib.hid (HT2.out.alloc (.cells #[.int .i64 y, .int .i64 m, .int .i64 d] 23))
      have DX_3 := Lib.hid (Bk.new w2 23 #[.int .i64 y, .int .i64 m, .int .i64 d])
      clear HB2 HT2
      generalize hw3 : w2.alloc (.cells #[.int .i64 y, .int .i64 m, .int .i64 d] 23) = w3 at HB3 HT3 DX_3 ⊢
      clear hw3
      have dxc0 := DX_3.out.cell 0
      have dxc1 := DX_3.out.cell 1
      have dxc2 := DX_3.out.cell 2
      have dxlt := DX_3.out.lt
      go_wp2_with fail
      clear dxc0 dxc1 dxc2 dxlt
      refine (goDay_yes _ _ _ _ _ HT3.out D.out).mono ?_
      rintro e w4 ⟨rfl, hb⟩
      have HB4 := Lib.hid (HB3.out.trans (hb.mono HB3.out.size))
      have HT4 := Lib.hid (HT3.out.below hb HT3.out.1)
      have DX_4 := Lib.hid (DX_3.out.below hb DX_3.out.lt)
      clear hb HB3 HT3 DX_3
      have dxc0 := DX_4.out.cell 0
      have dxc1 := DX_4.out.cell 1
      have dxc2 := DX_4.out.cell 2
      have dxlt := DX_4.out.lt
      go_wp2_with fail
      clear dxc0 dxc1 dxc2 dxlt
      refine (goText_yes _ _ _ _ _ HT4.out D.out).mono ?_
      rintro e w5 ⟨rfl, hb⟩
      have HB5 := Lib.hid (HB4.out.trans (hb.mono HB4.out.size))
      have HT5 := Lib.hid (HT4.out.below hb HT4.out.1)
      have DX_5 := Lib.hid (DX_4.out.below hb DX_4.out.lt)
      clear hb HB4 HT4 DX_4
      have ts : (txt y m d).size = 10 := TS.out
      go_wp2_with fail
      refine (goParse _ _ HT5.out).mono ?_
      rintro e w6 ⟨y', m', d', c', rfl, hR, hb⟩
      have HB6 := Lib.hid (HB5.out.trans (hb.mono HB5.out.size))
      have HT6 := Lib.hid (HT5.out.below hb HT5.out.1)
      have DX_6 := Lib.hid (DX_5.out.below hb DX_5.out.lt)
      clear hb HB5 HT5 DX_5
      obtain ⟨rfl, rfl, rfl, rfl⟩ := read_one RD.out hR
      clear hR
      have dxc0 := DX_6.out.cell 0
      have dxc1 := DX_6.out.cell 1
      have dxc2 := DX_6.out.cell 2
      have dxlt := DX_6.out.lt
      go_wp2_with fail
      clear dxc0 dxc1 dxc2 dxlt
      have HB7 := Lib.hid (HB6.out.alloc HB6.out.size (.cells #[.int .i64 y, .int .i64 m, .int .i64 d] 23))
      have HT7 := Lib.hid (HT6.out.alloc (.cells #[.int .i64 y, .int .i64 m, .int .i64 d] 23))
      have DX_7 := Lib.hid (DX_6.out.alloc (.cells #[.int .i64 y, .int .i64 m, .int .i64 d] 23))
      have PX_7 := Lib.hid (Bk.new w6 23 #[.int .i64 y, .int .i64 m, .int .i64 d])
      clear HB6 HT6 DX_6
      generalize hw7 : w6.alloc (.cells #[.int .i64 y, .int .i64 m, .int .i64 d] 23) = w7 at HB7 HT7 DX_7 PX_7 ⊢
      clear hw7
      go_ret
      exact ⟨rfl, HB7.out⟩
    · have bl : (a0 == 2932896) = false := by simp; omega
      have n2 : a0 + 1 ≤ 2932896 := by omega
      obtain ⟨A, hA'⟩ : ∃ A, (a0 + 3) % 7 = A := ⟨_, rfl⟩
      have hA := Lib.hid hA'
      have hA2 : Hid ((a0 + 1 + 3) % 7 = (A + 1) % 7) := by show _ = _; omega
      have A1 : 0 ≤ A := by omega
      have A2 : A ≤ 6 := by omega
      clear hA' hl
      by_cases h1 : d < daysI y m
      · have D2 := Lib.hid (next_day D.out h1)
        have HB0 := Lib.hid (Below.refl w.heap.size w)
        have HT := Lib.hid hT
        clear hT
        go_enter Tryd.func5, Tryd.ntmps5
        go_wp2_with fail
        refine (goAwake _ HT.out).mono ?_
        rintro e w1 ⟨rfl, hb⟩
        have HB1 := Lib.hid (HB0.out.trans (hb.mono HB0.out.size))
        have HT1 := Lib.hid (HT.out.below hb HT.out.1)
        clear hb HB0 HT
        go_wp2_with fail
        refine (goOf_is a0 y m d _ HT1.out D.out).mono ?_
        rintro e w2 ⟨rfl, hb⟩
        have HB2 := Lib.hid (HB1.out.trans (hb.mono HB1.out.size))
        have HT2 := Lib.hid (HT1.out.below hb HT1.out.1)
        clear hb HB1 HT1
        go_wp2_with fail
        have HB3 := Lib.hid (HB2.out.alloc HB2.out.size (.cells #[.int .i64 y, .int .i64 m, .int .i64 d] 23))
        have HT3 := Lib.hid (HT2.out.alloc (.cells #[.int .i64 y, .int .i64 m, .int .i64 d] 23))
        have DX_3 := Lib.hid (Bk.new w2 23 #[.int .i64 y, .int .i64 m, .int .i64 d])
        clear HB2 HT2
        generalize hw3 : w2.alloc (.cells #[.int .i64 y, .int .i64 m, .int .i64 d] 23) = w3 at HB3 HT3 DX_3 ⊢
        clear hw3
        have dxc0 := DX_3.out.cell 0
        have dxc1 := DX_3.out.cell 1
        have dxc2 := DX_3.out.cell 2
        have dxlt := DX_3.out.lt
        go_wp2_with fail
        clear dxc0 dxc1 dxc2 dxlt
        refine (goDay_yes _ _ _ _ _ HT3.out D.out).mono ?_
        rintro e w4 ⟨rfl, hb⟩
        have HB4 := Lib.hid (HB3.out.trans (hb.mono HB3.out.size))
        have HT4 := Lib.hid (HT3.out.below hb HT3.out.1)
        have DX_4 := Lib.hid (DX_3.out.below hb DX_3.out.lt)
        clear hb HB3 HT3 DX_3
        have dxc0 := DX_4.out.cell 0
        have dxc1 := DX_4.out.cell 1
        have dxc2 := DX_4.out.cell 2
        have dxlt := DX_4.out.lt
        go_wp2_with fail
        clear dxc0 dxc1 dxc2 dxlt
        refine (goText_yes _ _ _ _ _ HT4.out D.out).mono ?_
        rintro e w5 ⟨rfl, hb⟩
        have HB5 := Lib.hid (HB4.out.trans (hb.mono HB4.out.size))
        have HT5 := Lib.hid (HT4.out.below hb HT4.out.1)
        have DX_5 := Lib.hid (DX_4.out.below hb DX_4.out.lt)
        clear hb HB4 HT4 DX_4
        have ts : (txt y m d).size = 10 := TS.out
        go_wp2_with fail
        refine (goParse _ _ HT5.out).mono ?_
        rintro e w6 ⟨y', m', d', c', rfl, hR, hb⟩
        have HB6 := Lib.hid (HB5.out.trans (hb.mono HB5.out.size))
        have HT6 := Lib.hid (HT5.out.below hb HT5.out.1)
        have DX_6 := Lib.hid (DX_5.out.below hb DX_5.out.lt)
        clear hb HB5 HT5 DX_5
        obtain ⟨rfl, rfl, rfl, rfl⟩ := read_one RD.out hR
        clear hR
        have dxc0 := DX_6.out.cell 0
        have dxc1 := DX_6.out.cell 1
        have dxc2 := DX_6.out.cell 2
        have dxlt := DX_6.out.lt
        go_wp2_with fail
        clear dxc0 dxc1 dxc2 dxlt
        have HB7 := Lib.hid (HB6.out.alloc HB6.out.size (.cells #[.int .i64 y, .int .i64 m, .int .i64 d] 23))
        have HT7 := Lib.hid (HT6.out.alloc (.cells #[.int .i64 y, .int .i64 m, .int .i64 d] 23))
        have DX_7 := Lib.hid (DX_6.out.alloc (.cells #[.int .i64 y, .int .i64 m, .int .i64 d] 23))
        have PX_7 := Lib.hid (Bk.new w6 23 #[.int .i64 y, .int .i64 m, .int .i64 d])
        clear HB6 HT6 DX_6
        generalize hw7 : w6.alloc (.cells #[.int .i64 y, .int .i64 m, .int .i64 d] 23) = w7 at HB7 HT7 DX_7 PX_7 ⊢
        clear hw7
        refine (goOf_is _ _ _ _ _ HT7.out D2.out).mono ?_
        rintro e w8 ⟨rfl, hb⟩
        have HB8 := Lib.hid (HB7.out.trans (hb.mono HB7.out.size))
        have HT8 := Lib.hid (HT7.out.below hb HT7.out.1)
        have DX_8 := Lib.hid (DX_7.out.below hb DX_7.out.lt)
        have PX_8 := Lib.hid (PX_7.out.below hb PX_7.out.lt)
        clear hb HB7 HT7 DX_7 PX_7
        go_wp2_with fail
        have HB9 := Lib.hid (HB8.out.alloc HB8.out.size (.cells #[.int .i64 y, .int .i64 m, .int .i64 (d + 1)] 23))
        have HT9 := Lib.hid (HT8.out.alloc (.cells #[.int .i64 y, .int .i64 m, .int .i64 (d + 1)] 23))
        have DX_9 := Lib.hid (DX_8.out.alloc (.cells #[.int .i64 y, .int .i64 m, .int .i64 (d + 1)] 23))
        have PX_9 := Lib.hid (PX_8.out.alloc (.cells #[.int .i64 y, .int .i64 m, .int .i64 (d + 1)] 23))
        have NX_9 := Lib.hid (Bk.new w8 23 #[.int .i64 y, .int .i64 m, .int .i64 (d + 1)])
        clear HB8 HT8 DX_8 PX_8
        generalize hw9 : w8.alloc (.cells #[.int .i64 y, .int .i64 m, .int .i64 (d + 1)] 23) = w9 at HB9 HT9 DX_9 PX_9 NX_9 ⊢
        clear hw9
        refine (goWeek_is a0 A _ n0 (by omega) hA.out).mono ?_
        rintro e ww ⟨rfl, rfl⟩
        go_wp2_with fail
        refine (goWeek_is (a0 + 1) ((A + 1) % 7) _ (by omega) (by omega) hA2.out).mono ?_
        rintro e ww ⟨rfl, rfl⟩
        have dxc0 := DX_9.out.cell 0
        have dxc1 := DX_9.out.cell 1
        have dxc2 := DX_9.out.cell 2
        have dxlt := DX_9.out.lt
        have nxc0 := NX_9.out.cell 0
        have nxc1 := NX_9.out.cell 1
        have nxc2 := NX_9.out.cell 2
        have nxlt := NX_9.out.lt
        go_wp2_with fail
        go_quiet ((go_at_call 9; exact quiet_same (goDays _ _ _ (HT9.out.drewN _))))
        go_wp2_with fail
        go_ret
        exact ⟨rfl, below_dN HB9.out nq⟩
      · by_cases h2 : m < 12
        · have D2 := Lib.hid (next_month D.out h1 h2)
          have HB0 := Lib.hid (Below.refl w.heap.size w)
          have HT := Lib.hid hT
          clear hT
          go_enter Tryd.func5, Tryd.ntmps5
          go_wp2_with fail
          refine (goAwake _ HT.out).mono ?_
          rintro e w1 ⟨rfl, hb⟩
          have HB1 := Lib.hid (HB0.out.trans (hb.mono HB0.out.size))
          have HT1 := Lib.hid (HT.out.below hb HT.out.1)
          clear hb HB0 HT
          go_wp2_with fail
          refine (goOf_is a0 y m d _ HT1.out D.out).mono ?_
          rintro e w2 ⟨rfl, hb⟩
          have HB2 := Lib.hid (HB1.out.trans (hb.mono HB1.out.size))
          have HT2 := Lib.hid (HT1.out.below hb HT1.out.1)
          clear hb HB1 HT1
          go_wp2_with fail
          have HB3 := Lib.hid (HB2.out.alloc HB2.out.size (.cells #[.int .i64 y, .int .i64 m, .int .i64 d] 23))
          have HT3 := Lib.hid (HT2.out.alloc (.cells #[.int .i64 y, .int .i64 m, .int .i64 d] 23))
          have DX_3 := Lib.hid (Bk.new w2 23 #[.int .i64 y, .int .i64 m, .int .i64 d])
          clear HB2 HT2
          generalize hw3 : w2.alloc (.cells #[.int .i64 y, .int .i64 m, .int .i64 d] 23) = w3 at HB3 HT3 DX_3 ⊢
          clear hw3
          have dxc0 := DX_3.out.cell 0
          have dxc1 := DX_3.out.cell 1
          have dxc2 := DX_3.out.cell 2
          have dxlt := DX_3.out.lt
          go_wp2_with fail
          clear dxc0 dxc1 dxc2 dxlt
          refine (goDay_yes _ _ _ _ _ HT3.out D.out).mono ?_
          rintro e w4 ⟨rfl, hb⟩
          have HB4 := Lib.hid (HB3.out.trans (hb.mono HB3.out.size))
          have HT4 := Lib.hid (HT3.out.below hb HT3.out.1)
          have DX_4 := Lib.hid (DX_3.out.below hb DX_3.out.lt)
          clear hb HB3 HT3 DX_3
          have dxc0 := DX_4.out.cell 0
          have dxc1 := DX_4.out.cell 1
          have dxc2 := DX_4.out.cell 2
          have dxlt := DX_4.out.lt
          go_wp2_with fail
          clear dxc0 dxc1 dxc2 dxlt
          refine (goText_yes _ _ _ _ _ HT4.out D.out).mono ?_
          rintro e w5 ⟨rfl, hb⟩
          have HB5 := Lib.hid (HB4.out.trans (hb.mono HB4.out.size))
          have HT5 := Lib.hid (HT4.out.below hb HT4.out.1)
          have DX_5 := Lib.hid (DX_4.out.below hb DX_4.out.lt)
          clear hb HB4 HT4 DX_4
          have ts : (txt y m d).size = 10 := TS.out
          go_wp2_with fail
          refine (goParse _ _ HT5.out).mono ?_
          rintro e w6 ⟨y', m', d', c', rfl, hR, hb⟩
          have HB6 := Lib.hid (HB5.out.trans (hb.mono HB5.out.size))
          have HT6 := Lib.hid (HT5.out.below hb HT5.out.1)
          have DX_6 := Lib.hid (DX_5.out.below hb DX_5.out.lt)
          clear hb HB5 HT5 DX_5
          obtain ⟨rfl, rfl, rfl, rfl⟩ := read_one RD.out hR
          clear hR
          have dxc0 := DX_6.out.cell 0
          have dxc1 := DX_6.out.cell 1
          have dxc2 := DX_6.out.cell 2
          have dxlt := DX_6.out.lt
          go_wp2_with fail
          clear dxc0 dxc1 dxc2 dxlt
          have HB7 := Lib.hid (HB6.out.alloc HB6.out.size (.cells #[.int .i64 y, .int .i64 m, .int .i64 d] 23))
          have HT7 := Lib.hid (HT6.out.alloc (.cells #[.int .i64 y, .int .i64 m, .int .i64 d] 23))
          have DX_7 := Lib.hid (DX_6.out.alloc (.cells #[.int .i64 y, .int .i64 m, .int .i64 d] 23))
          have PX_7 := Lib.hid (Bk.new w6 23 #[.int .i64 y, .int .i64 m, .int .i64 d])
          clear HB6 HT6 DX_6
          generalize hw7 : w6.alloc (.cells #[.int .i64 y, .int .i64 m, .int .i64 d] 23) = w7 at HB7 HT7 DX_7 PX_7 ⊢
          clear hw7
          refine (goOf_is _ _ _ _ _ HT7.out D2.out).mono ?_
          rintro e w8 ⟨rfl, hb⟩
          have HB8 := Lib.hid (HB7.out.trans (hb.mono HB7.out.size))
          have HT8 := Lib.hid (HT7.out.below hb HT7.out.1)
          have DX_8 := Lib.hid (DX_7.out.below hb DX_7.out.lt)
          have PX_8 := Lib.hid (PX_7.out.below hb PX_7.out.lt)
          clear hb HB7 HT7 DX_7 PX_7
          go_wp2_with fail
          have HB9 := Lib.hid (HB8.out.alloc HB8.out.size (.cells #[.int .i64 y, .int .i64 (m + 1), .int .i64 1] 23))
          have HT9 := Lib.hid (HT8.out.alloc (.cells #[.int .i64 y, .int .i64 (m + 1), .int .i64 1] 23))
          have DX_9 := Lib.hid (DX_8.out.alloc (.cells #[.int .i64 y, .int .i64 (m + 1), .int .i64 1] 23))
          have PX_9 := Lib.hid (PX_8.out.alloc (.cells #[.int .i64 y, .int .i64 (m + 1), .int .i64 1] 23))
          have NX_9 := Lib.hid (Bk.new w8 23 #[.int .i64 y, .int .i64 (m + 1), .int .i64 1])
          clear HB8 HT8 DX_8 PX_8
          generalize hw9 : w8.alloc (.cells #[.int .i64 y, .int .i64 (m + 1), .int .i64 1] 23) = w9 at HB9 HT9 DX_9 PX_9 NX_9 ⊢
          clear hw9
          refine (goWeek_is a0 A _ n0 (by omega) hA.out).mono ?_
          rintro e ww ⟨rfl, rfl⟩
          go_wp2_with fail
          refine (goWeek_is (a0 + 1) ((A + 1) % 7) _ (by omega) (by omega) hA2.out).mono ?_
          rintro e ww ⟨rfl, rfl⟩
          have dxc0 := DX_9.out.cell 0
          have dxc1 := DX_9.out.cell 1
          have dxc2 := DX_9.out.cell 2
          have dxlt := DX_9.out.lt
          have nxc0 := NX_9.out.cell 0
          have nxc1 := NX_9.out.cell 1
          have nxc2 := NX_9.out.cell 2
          have nxlt := NX_9.out.lt
          go_wp2_with fail
          go_quiet ((go_at_call 9; exact quiet_same (goDays _ _ _ (HT9.out.drewN _))))
          go_wp2_with fail
          go_ret
          exact ⟨rfl, below_dN HB9.out nq⟩
        · have D2 := Lib.hid (next_year D.out h1 h2 n2)
          have HB0 := Lib.hid (Below.refl w.heap.size w)
          have HT := Lib.hid hT
          clear hT
          go_enter Tryd.func5, Tryd.ntmps5
          go_wp2_with fail
          refine (goAwake _ HT.out).mono ?_
          rintro e w1 ⟨rfl, hb⟩
          have HB1 := Lib.hid (HB0.out.trans (hb.mono HB0.out.size))
          have HT1 := Lib.hid (HT.out.below hb HT.out.1)
          clear hb HB0 HT
          go_wp2_with fail
          refine (goOf_is a0 y m d _ HT1.out D.out).mono ?_
          rintro e w2 ⟨rfl, hb⟩
          have HB2 := Lib.hid (HB1.out.trans (hb.mono HB1.out.size))
          have HT2 := Lib.hid (HT1.out.below hb HT1.out.1)
          clear hb HB1 HT1
          go_wp2_with fail
          have HB3 := Lib.hid (HB2.out.alloc HB2.out.size (.cells #[.int .i64 y, .int .i64 m, .int .i64 d] 23))
          have HT3 := Lib.hid (HT2.out.alloc (.cells #[.int .i64 y, .int .i64 m, .int .i64 d] 23))
          have DX_3 := Lib.hid (Bk.new w2 23 #[.int .i64 y, .int .i64 m, .int .i64 d])
          clear HB2 HT2
          generalize hw3 : w2.alloc (.cells #[.int .i64 y, .int .i64 m, .int .i64 d] 23) = w3 at HB3 HT3 DX_3 ⊢
          clear hw3
          have dxc0 := DX_3.out.cell 0
          have dxc1 := DX_3.out.cell 1
          have dxc2 := DX_3.out.cell 2
          have dxlt := DX_3.out.lt
          go_wp2_with fail
          clear dxc0 dxc1 dxc2 dxlt
          refine (goDay_yes _ _ _ _ _ HT3.out D.out).mono ?_
          rintro e w4 ⟨rfl, hb⟩
          have HB4 := Lib.hid (HB3.out.trans (hb.mono HB3.out.size))
          have HT4 := Lib.hid (HT3.out.below hb HT3.out.1)
          have DX_4 := Lib.hid (DX_3.out.below hb DX_3.out.lt)
          clear hb HB3 HT3 DX_3
          have dxc0 := DX_4.out.cell 0
          have dxc1 := DX_4.out.cell 1
          have dxc2 := DX_4.out.cell 2
          have dxlt := DX_4.out.lt
          go_wp2_with fail
          clear dxc0 dxc1 dxc2 dxlt
          refine (goText_yes _ _ _ _ _ HT4.out D.out).mono ?_
          rintro e w5 ⟨rfl, hb⟩
          have HB5 := Lib.hid (HB4.out.trans (hb.mono HB4.out.size))
          have HT5 := Lib.hid (HT4.out.below hb HT4.out.1)
          have DX_5 := Lib.hid (DX_4.out.below hb DX_4.out.lt)
          clear hb HB4 HT4 DX_4
          have ts : (txt y m d).size = 10 := TS.out
          go_wp2_with fail
          refine (goParse _ _ HT5.out).mono ?_
          rintro e w6 ⟨y', m', d', c', rfl, hR, hb⟩
          have HB6 := Lib.hid (HB5.out.trans (hb.mono HB5.out.size))
          have HT6 := Lib.hid (HT5.out.below hb HT5.out.1)
          have DX_6 := Lib.hid (DX_5.out.below hb DX_5.out.lt)
          clear hb HB5 HT5 DX_5
          obtain ⟨rfl, rfl, rfl, rfl⟩ := read_one RD.out hR
          clear hR
          have dxc0 := DX_6.out.cell 0
          have dxc1 := DX_6.out.cell 1
          have dxc2 := DX_6.out.cell 2
          have dxlt := DX_6.out.lt
          go_wp2_with fail
          clear dxc0 dxc1 dxc2 dxlt
          have HB7 := Lib.hid (HB6.out.alloc HB6.out.size (.cells #[.int .i64 y, .int .i64 m, .int .i64 d] 23))
          have HT7 := Lib.hid (HT6.out.alloc (.cells #[.int .i64 y, .int .i64 m, .int .i64 d] 23))
          have DX_7 := Lib.hid (DX_6.out.alloc (.cells #[.int .i64 y, .int .i64 m, .int .i64 d] 23))
          have PX_7 := Lib.hid (Bk.new w6 23 #[.int .i64 y, .int .i64 m, .int .i64 d])
          clear HB6 HT6 DX_6
          generalize hw7 : w6.alloc (.cells #[.int .i64 y, .int .i64 m, .int .i64 d] 23) = w7 at HB7 HT7 DX_7 PX_7 ⊢
          clear hw7
          refine (goOf_is _ _ _ _ _ HT7.out D2.out).mono ?_
          rintro e w8 ⟨rfl, hb⟩
          have HB8 := Lib.hid (HB7.out.trans (hb.mono HB7.out.size))
          have HT8 := Lib.hid (HT7.out.below hb HT7.out.1)
          have DX_8 := Lib.hid (DX_7.out.below hb DX_7.out.lt)
          have PX_8 := Lib.hid (PX_7.out.below hb PX_7.out.lt)
          clear hb HB7 HT7 DX_7 PX_7
          go_wp2_with fail
          have HB9 := Lib.hid (HB8.out.alloc HB8.out.size (.cells #[.int .i64 (y + 1), .int .i64 1, .int .i64 1] 23))
          have HT9 := Lib.hid (HT8.out.alloc (.cells #[.int .i64 (y + 1), .int .i64 1, .int .i64 1] 23))
          have DX_9 := Lib.hid (DX_8.out.alloc (.cells #[.int .i64 (y + 1), .int .i64 1, .int .i64 1] 23))
          have PX_9 := Lib.hid (PX_8.out.alloc (.cells #[.int .i64 (y + 1), .int .i64 1, .int .i64 1] 23))
          have NX_9 := Lib.hid (Bk.new w8 23 #[.int .i64 (y + 1), .int .i64 1, .int .i64 1])
          clear HB8 HT8 DX_8 PX_8
          generalize hw9 : w8.alloc (.cells #[.int .i64 (y + 1), .int .i64 1, .int .i64 1] 23) = w9 at HB9 HT9 DX_9 PX_9 NX_9 ⊢
          clear hw9
          refine (goWeek_is a0 A _ n0 (by omega) hA.out).mono ?_
          rintro e ww ⟨rfl, rfl⟩
          go_wp2_with fail
          refine (goWeek_is (a0 + 1) ((A + 1) % 7) _ (by omega) (by omega) hA2.out).mono ?_
          rintro e ww ⟨rfl, rfl⟩
          have dxc0 := DX_9.out.cell 0
          have dxc1 := DX_9.out.cell 1
          have dxc2 := DX_9.out.cell 2
          have dxlt := DX_9.out.lt
          have nxc0 := NX_9.out.cell 0
          have nxc1 := NX_9.out.cell 1
          have nxc2 := NX_9.out.cell 2
          have nxlt := NX_9.out.lt
          go_wp2_with fail
          go_quiet ((go_at_call 9; exact quiet_same (goDays _ _ _ (HT9.out.drewN _))))
          go_wp2_with fail
          go_ret
          exact ⟨rfl, below_dN HB9.out nq⟩
  · have NO : Hid (a0 < 0 ∨ 2932896 < a0) := by show _ ∨ _; omega
    clear hr
    have HB0 := Lib.hid (Below.refl w.heap.size w)
    have HT := Lib.hid hT
    clear hT
    go_enter Tryd.func5, Tryd.ntmps5
    go_wp2_with fail
    refine (goAwake _ HT.out).mono ?_
    rintro e w1 ⟨rfl, hb⟩
    have HB1 := Lib.hid (HB0.out.trans (hb.mono HB0.out.size))
    have HT1 := Lib.hid (HT.out.below hb HT.out.1)
    clear hb HB0 HT
    go_wp2_with fail
    refine (goOf_no a0 _ NO.out).mono ?_
    rintro e w2 ⟨rfl, hb⟩
    have HB2 := Lib.hid (HB1.out.trans (hb.mono HB1.out.size))
    have HT2 := Lib.hid (HT1.out.below hb HT1.out.1)
    clear hb HB1 HT1
    go_wp2_with fail
    go_ret
    exact ⟨rfl, HB2.out.alloc HB2.out.size _⟩
end calendarBackWalk
end Go.Proofs.YtaanmikdhhdeiaaDoor
