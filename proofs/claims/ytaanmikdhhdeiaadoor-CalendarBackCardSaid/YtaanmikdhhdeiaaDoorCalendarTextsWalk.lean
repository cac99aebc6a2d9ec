/-
  CalendarTexts, walked: it returns true, whatever the date and the text. Condition (Tab): the variable calendar.days reads as its text says.
-/
import Derived.Test.YtaanmikdhhdeiaaDoorCalendarDaysWalk
import Derived.Test.YtaanmikdhhdeiaaDoorTxtT
import Derived.Test.YtaanmikdhhdeiaaDoorPrsR
namespace Go.Proofs.YtaanmikdhhdeiaaDoor
open Go.ChangeShapes Go.WideShapes Go.ChangeAt Go.RowKit
set_option linter.unusedVariables false

theorem goText_no0 (y m d : Int) (w : World) (hT : Tab w) (hD : ¬ Vld y m d) : Calls Tryd.prog 16 #[.agg #[.int .i64 y, .int .i64 m, .int .i64 d]] w fun e w' => e = .returned (.tuple #[.string { data := #[] }, .int .i64 2]) ∧ Below w.heap.size w w' := goText_no y m d w hT hD
theorem read_one {s : ByteArray} {y m d e y' m' d' e' : Int} (h : IsRead s y m d e) (h' : IsRead s y' m' d' e') : y = y' ∧ m = m' ∧ d = d' ∧ e = e' := by
  rcases h with ⟨a, rfl, rfl, rfl, rfl⟩ | ⟨a, b, rfl, rfl, rfl, rfl⟩ | ⟨a, b, rfl, rfl, rfl, rfl⟩ <;>
    rcases h' with ⟨a', rfl, rfl, rfl, rfl⟩ | ⟨a', b', rfl, rfl, rfl, rfl⟩ | ⟨a', b', rfl, rfl, rfl, rfl⟩ <;>
    first
      | exact ⟨rfl, rfl, rfl, rfl⟩
      | exact absurd ‹Good s› ‹¬ Good s›
      | exact absurd ‹Vld _ _ _› ‹¬ Vld _ _ _›
namespace calendarTextsWalk
set_option maxHeartbeats 1000000 in
theorem walk (s0a s0b s0c : Int) (a1 : ByteArray) (w : World) (hT : Tab w) (ws0a : Fits s0a) (ws0b : Fits s0b) (ws0c : Fits s0c) (w1 : a1.size ≤ maxLen) :
    Calls Tryd.prog 4 #[.agg #[.int .i64 s0a, .int .i64 s0b, .int .i64 s0c], .string a1] w fun e w' => e = .returned (.bool true) ∧ Below w.heap.size w w' := by
  unfold maxLen at w1
  by_cases h100 : 100 < a1.size
  · have HB0 := Lib.hid (Below.refl w.heap.size w)
    have HT := Lib.hid hT
    clear hT
    go_enter Tryd.func4, Tryd.ntmps4
    go_wp2_with fail
    have HB1 := Lib.hid (HB0.out.alloc HB0.out.size (.cells #[.int .i64 s0a, .int .i64 s0b, .int .i64 s0c] 23))
    have HT1 := Lib.hid (HT.out.alloc (.cells #[.int .i64 s0a, .int .i64 s0b, .int .i64 s0c] 23))
    have BX_1 := Lib.hid (Bk.new w 23 #[.int .i64 s0a, .int .i64 s0b, .int .i64 s0c])
    clear HB0 HT
    generalize hw1 : w.alloc (.cells #[.int .i64 s0a, .int .i64 s0b, .int .i64 s0c] 23) = w1 at HB1 HT1 BX_1 ⊢
    clear hw1
    refine (goAwake _ HT1.out).mono ?_
    rintro e w2 ⟨rfl, hb⟩
    have HB2 := Lib.hid (HB1.out.trans (hb.mono HB1.out.size))
    have HT2 := Lib.hid (HT1.out.below hb HT1.out.1)
    have BX_2 := Lib.hid (BX_1.out.below hb BX_1.out.lt)
    clear hb HB1 HT1 BX_1
    go_wp2_with fail
    go_ret
    exact ⟨rfl, HB2.out⟩
  · by_cases hv : Vld s0a s0b s0c
    · have V := Lib.hid hv
      have D := Lib.hid (vld_date hv)
      have vm := vld_month hv
      have d31 : s0c ≤ 31 := by have := hv.2.2.2; have := (days_bd s0a s0b).2; omega
      obtain ⟨vy0, vy1, vd0, -⟩ := hv
      obtain ⟨K, hK⟩ : ∃ K, yst s0a + mst s0a (s0b - 1).toNat + (s0c - 1) = K := ⟨_, rfl⟩
      rw [hK] at D
      have n0 : 0 ≤ K := (date_bd D.out).1
      clear hK
      have HB0 := Lib.hid (Below.refl w.heap.size w)
      have HT := Lib.hid hT
      clear hT
      go_enter Tryd.func4, Tryd.ntmps4
      go_wp2_with fail
      have HB1 := Lib.hid (HB0.out.alloc HB0.out.size (.cells #[.int .i64 s0a, .int .i64 s0b, .int .i64 s0c] 23))
      have HT1 := Lib.hid (HT.out.alloc (.cells #[.int .i64 s0a, .int .i64 s0b, .int .i64 s0c] 23))
      have BX_1 := Lib.hid (Bk.new w 23 #[.int .i64 s0a, .int .i64 s0b, .int .i64 s0c])
      clear HB0 HT
      generalize hw1 : w.alloc (.cells #[.int .i64 s0a, .int .i64 s0b, .int .i64 s0c] 23) = w1 at HB1 HT1 BX_1 ⊢
      clear hw1
      refine (goAwake _ HT1.out).mono ?_
      rintro e w2 ⟨rfl, hb⟩
      have HB2 := Lib.hid (HB1.out.trans (hb.mono HB1.out.size))
      have HT2 := Lib.hid (HT1.out.below hb HT1.out.1)
      have BX_2 := Lib.hid (BX_1.out.below hb BX_1.out.lt)
      clear hb HB1 HT1 BX_1
      have bxc0 := BX_2.out.cell 0
      have bxc1 := BX_2.out.cell 1
      have bxc2 := BX_2.out.cell 2
      have bxlt := BX_2.out.lt
      go_wp2_with fail
      clear bxc0 bxc1 bxc2 bxlt
      refine (goText_yes _ _ _ _ _ HT2.out D.out).mono ?_
      rintro e w3 ⟨rfl, hb⟩
      have HB3 := Lib.hid (HB2.out.trans (hb.mono HB2.out.size))
      have HT3 := Lib.hid (HT2.out.below hb HT2.out.1)
      have BX_3 := Lib.hid (BX_2.out.below hb BX_2.out.lt)
      clear hb HB2 HT2 BX_2
      have bxc0 := BX_3.out.cell 0
      have bxc1 := BX_3.out.cell 1
      have bxc2 := BX_3.out.cell 2
      have bxlt := BX_3.out.lt
      go_wp2_with fail
      clear bxc0 bxc1 bxc2 bxlt
      refine (refDay_yes _ _ _ _ _ D.out).mono ?_
      rintro e w4 ⟨rfl, hb⟩
      have HB4 := Lib.hid (HB3.out.trans (hb.mono HB3.out.size))
      have HT4 := Lib.hid (HT3.out.below hb HT3.out.1)
      have BX_4 := Lib.hid (BX_3.out.below hb BX_3.out.lt)
      clear hb HB3 HT3 BX_3
      have bxc0 := BX_4.out.cell 0
      have bxc1 := BX_4.out.cell 1
      have bxc2 := BX_4.out.cell 2
      have bxlt := BX_4.out.lt
      go_wp2_with fail
      clear bxc0 bxc1 bxc2 bxlt
      refine (refText _ _ _ _ (by omega) (by omega) (by omega) (by omega) (by omega) (by omega)).mono ?_
      rintro e w5 ⟨rfl, hb⟩
      have HB5 := Lib.hid (HB4.out.trans (hb.mono HB4.out.size))
      have HT5 := Lib.hid (HT4.out.below hb HT4.out.1)
      have BX_5 := Lib.hid (BX_4.out.below hb BX_4.out.lt)
      clear hb HB4 HT4 BX_4
      go_wp2_with fail
      refine (goParse a1 _ HT5.out).mono ?_
      rintro e w6 ⟨y, m, d, c, rfl, hR, hb⟩
      have HB6 := Lib.hid (HB5.out.trans (hb.mono HB5.out.size))
      have HT6 := Lib.hid (HT5.out.below hb HT5.out.1)
      have BX_6 := Lib.hid (BX_5.out.below hb BX_5.out.lt)
      clear hb HB5 HT5 BX_5
      have HR := Lib.hid hR
      clear hR
      go_wp2_with fail
      have HB7 := Lib.hid (HB6.out.alloc HB6.out.size (.cells #[.int .i64 y, .int .i64 m, .int .i64 d] 23))
      have HT7 := Lib.hid (HT6.out.alloc (.cells #[.int .i64 y, .int .i64 m, .int .i64 d] 23))
      have BX_7 := Lib.hid (BX_6.out.alloc (.cells #[.int .i64 y, .int .i64 m, .int .i64 d] 23))
      have PX_7 := Lib.hid (Bk.new w6 23 #[.int .i64 y, .int .i64 m, .int .i64 d])
      clear HB6 HT6 BX_6
      generalize hw7 : w6.alloc (.cells #[.int .i64 y, .int .i64 m, .int .i64 d] 23) = w7 at HB7 HT7 BX_7 PX_7 ⊢
      clear hw7
      refine (refParse a1 _).mono ?_
      rintro e w8 ⟨y', m', d', c', rfl, hR, hb⟩
      have HB8 := Lib.hid (HB7.out.trans (hb.mono HB7.out.size))
      have HT8 := Lib.hid (HT7.out.below hb HT7.out.1)
      have BX_8 := Lib.hid (BX_7.out.below hb BX_7.out.lt)
      have PX_8 := Lib.hid (PX_7.out.below hb PX_7.out.lt)
      clear hb HB7 HT7 BX_7 PX_7
      obtain ⟨rfl, rfl, rfl, rfl⟩ := read_one HR.out hR
      clear hR
      have pxc0 := PX_8.out.cell 0
      have pxc1 := PX_8.out.cell 1
      have pxc2 := PX_8.out.cell 2
      have pxlt := PX_8.out.lt
      go_wp2_with fail
      go_ret
      exact ⟨rfl, HB8.out.alloc HB8.out.size _⟩
    · have V := Lib.hid hv
      clear hv
      have HB0 := Lib.hid (Below.refl w.heap.size w)
      have HT := Lib.hid hT
      clear hT
      go_enter Tryd.func4, Tryd.ntmps4
      go_wp2_with fail
      have HB1 := Lib.hid (HB0.out.alloc HB0.out.size (.cells #[.int .i64 s0a, .int .i64 s0b, .int .i64 s0c] 23))
      have HT1 := Lib.hid (HT.out.alloc (.cells #[.int .i64 s0a, .int .i64 s0b, .int .i64 s0c] 23))
      have BX_1 := Lib.hid (Bk.new w 23 #[.int .i64 s0a, .int .i64 s0b, .int .i64 s0c])
      clear HB0 HT
      generalize hw1 : w.alloc (.cells #[.int .i64 s0a, .int .i64 s0b, .int .i64 s0c] 23) = w1 at HB1 HT1 BX_1 ⊢
      clear hw1
      refine (goAwake _ HT1.out).mono ?_
      rintro e w2 ⟨rfl, hb⟩
      have HB2 := Lib.hid (HB1.out.trans (hb.mono HB1.out.size))
      have HT2 := Lib.hid (HT1.out.below hb HT1.out.1)
      have BX_2 := Lib.hid (BX_1.out.below hb BX_1.out.lt)
      clear hb HB1 HT1 BX_1
      have bxc0 := BX_2.out.cell 0
      have bxc1 := BX_2.out.cell 1
      have bxc2 := BX_2.out.cell 2
      have bxlt := BX_2.out.lt
      go_wp2_with fail
      clear bxc0 bxc1 bxc2 bxlt
      refine (goText_no0 _ _ _ _ HT2.out V.out).mono ?_
      rintro e w3 ⟨rfl, hb⟩
      have HB3 := Lib.hid (HB2.out.trans (hb.mono HB2.out.size))
      have HT3 := Lib.hid (HT2.out.below hb HT2.out.1)
      have BX_3 := Lib.hid (BX_2.out.below hb BX_2.out.lt)
      clear hb HB2 HT2 BX_2
      have bxc0 := BX_3.out.cell 0
      have bxc1 := BX_3.out.cell 1
      have bxc2 := BX_3.out.cell 2
      have bxlt := BX_3.out.lt
      go_wp2_with fail
      clear bxc0 bxc1 bxc2 bxlt
      refine (refDay_no _ _ _ _ V.out).mono ?_
      rintro e w4 ⟨rfl, hb⟩
      have HB4 := Lib.hid (HB3.out.trans (hb.mono HB3.out.size))
      have HT4 := Lib.hid (HT3.out.below hb HT3.out.1)
      have BX_4 := Lib.hid (BX_3.out.below hb BX_3.out.lt)
      clear hb HB3 HT3 BX_3
      go_wp2_with fail
      refine (goParse a1 _ HT4.out).mono ?_
      rintro e w5 ⟨y, m, d, c, rfl, hR, hb⟩
      have HB5 := Lib.hid (HB4.out.trans (hb.mono HB4.out.size))
      have HT5 := Lib.hid (HT4.out.below hb HT4.out.1)
      have BX_5 := Lib.hid (BX_4.out.below hb BX_4.out.lt)
      clear hb HB4 HT4 BX_4
      have HR := Lib.hid hR
      clear hR
      go_wp2_with fail
      have HB6 := Lib.hid (HB5.out.alloc HB5.out.size (.cells #[.int .i64 y, .int .i64 m, .int .i64 d] 23))
      have HT6 := Lib.hid (HT5.out.alloc (.cells #[.int .i64 y, .int .i64 m, .int .i64 d] 23))
      have BX_6 := Lib.hid (BX_5.out.alloc (.cells #[.int .i64 y, .int .i64 m, .int .i64 d] 23))
      have PX_6 := Lib.hid (Bk.new w5 23 #[.int .i64 y, .int .i64 m, .int .i64 d])
      clear HB5 HT5 BX_5
      generalize hw6 : w5.alloc (.cells #[.int .i64 y, .int .i64 m, .int .i64 d] 23) = w6 at HB6 HT6 BX_6 PX_6 ⊢
      clear hw6
      refine (refParse a1 _).mono ?_
      rintro e w7 ⟨y', m', d', c', rfl, hR, hb⟩
      have HB7 := Lib.hid (HB6.out.trans (hb.mono HB6.out.size))
      have HT7 := Lib.hid (HT6.out.below hb HT6.out.1)
      have BX_7 := Lib.hid (BX_6.out.below hb BX_6.out.lt)
      have PX_7 := Lib.hid (PX_6.out.below hb PX_6.out.lt)
      clear hb HB6 HT6 BX_6 PX_6
      obtain ⟨rfl, rfl, rfl, rfl⟩ := read_one HR.out hR
      clear hR
      have pxc0 := PX_7.out.cell 0
      have pxc1 := PX_7.out.cell 1
      have pxc2 := PX_7.out.cell 2
      have pxlt := PX_7.out.lt
      go_wp2_with fail
      go_ret
      exact ⟨rfl, HB7.out.alloc HB7.out.size _⟩
end calendarTextsWalk
end Go.Proofs.YtaanmikdhhdeiaaDoor
