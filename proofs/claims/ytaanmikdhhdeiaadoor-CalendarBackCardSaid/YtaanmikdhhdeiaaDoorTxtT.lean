/-
  calendar.Text: a date's text, or none. Condition (Tab): the variable calendar.days reads as its text says.
-/
import Derived.Test.YtaanmikdhhdeiaaDoorTxtS
import Derived.Test.YtaanmikdhhdeiaaDoorCalK
import Derived.Deep.RegionHeld3
namespace Go.Proofs.YtaanmikdhhdeiaaDoor
open Go.ChangeShapes Go.WideShapes Go.ChangeAt Go.RowKit
set_option linter.unusedVariables false

theorem own_45 {w : World} {base n : Nat} {v : Value} {xs : List Int} (h : w.ownsRow base 5 1 v n (xs.map (Value.int .u8) ++ [.int .u8 45])) : w.ownsRow base 5 1 v n ((xs ++ [45]).map (Value.int .u8)) := by rw [List.map_append]; exact h
theorem below_drew {B : Nat} {a w : World} (h : Below B a w) : Below B a w.drew := below_dN h 1
/-- The text of bytes that a call owns. -/
theorem bytes_txt {P : Program} {w : World} {base g n c e : Nat} {xs : List Int} (h : w.ownsRow base e 1 (.slice (some ⟨g, 0, none⟩) n c) n (xs.map (Value.int .u8))) (src dst : TypeId) (hs : P.underlying src = some (.slice e)) (he : P.underlying e = some (.int .u8)) (hd : P.underlying dst = some .string) :
    (convert src dst (.slice (some ⟨g, 0, none⟩) n c)).run P w = .ok (.string (strOfNums xs)) w := by
  have hl : xs.length = n := by have := h.1; simpa using this
  refine run_convert_bytes_arg w src e hs he g 0 n c xs hl (fun i hi => ?_) dst hd
  rw [Nat.zero_add, h.cellAt i (by omega), List.getElem?_map, List.getElem?_eq_getElem (by omega), List.getD_eq_getElem?_getD, List.getElem?_eq_getElem (by omega)]
  rfl
set_option maxHeartbeats 1000000 in
theorem goText_no (y m d : Int) (w : World) (hT : Tab w) (hD : ¬ Vld y m d) : Calls Tryd.prog 16 #[.agg #[.int .i64 y, .int .i64 m, .int .i64 d]] w fun e w' => e = .returned (.tuple #[.string ByteArray.empty, .int .i64 2]) ∧ Below w.heap.size w w' := by
  have HT := Lib.hid (hT.alloc (.cells #[.int .i64 y, .int .i64 m, .int .i64 d] 23))
  have HD := Lib.hid hD
  clear hT hD
  go_enter Tryd.func16, Tryd.ntmps16
  go_wp2_with fail
  refine (goDay_no y m d _ HT.out HD.out).mono ?_
  rintro e w1 ⟨rfl, hb⟩
  have HB := Lib.hid (below_boxed hb)
  clear hb
  go_wp2_with fail
  go_ret2
  exact ⟨rfl, HB.out⟩
set_option maxHeartbeats 1000000 in
theorem goText_yes (n y m d : Int) (w : World) (hT : Tab w) (hD : IsDate n y m d) : Calls Tryd.prog 16 #[.agg #[.int .i64 y, .int .i64 m, .int .i64 d]] w fun e w' => e = .returned (.tuple #[.string (txt y m d), .int .i64 0]) ∧ Below w.heap.size w w' := by
  have HT := Lib.hid (hT.alloc (.cells #[.int .i64 y, .int .i64 m, .int .i64 d] 23))
  have HD := Lib.hid hD
  obtain ⟨y0, y1, m0, m1, d0, d1, -⟩ := hD
  have d31 : d ≤ 31 := by have := (days_bd y m).2; omega
  obtain ⟨i0, hi, hz0, hz1, hz2⟩ := info_parts Tryd.info5
  clear hT
  go_enter Tryd.func16, Tryd.ntmps16
  go_wp2_with fail
  refine (goDay_yes n y m d _ HT.out HD.out).mono ?_
  rintro e w1 ⟨rfl, hb⟩
  have c0 := boxed_cell hb 0
  have c1 := boxed_cell hb 1
  have c2 := boxed_cell hb 2
  have HB := Lib.hid (below_boxed hb)
  have HS : Hid (w.heap.size < w1.heap.size) := by have := hb.size; simp at this; show _ < _; omega
  clear hb
  go_wp2_with fail
  refine (goPut (.slice none 0 0) y 4 _ w1.heap.size 0 [] (World.ownsRow_nil _ _ _ _) (Nat.le_refl _) (by omega) (by omega) (by omega) (by omega) (by omega)).mono ?_
  rintro e w2 ⟨v2, rfl, hown, hb⟩
  have e1 := (hb.cell (p := ⟨w.heap.size, 1, none⟩) HS.out).trans c1
  have e2 := (hb.cell (p := ⟨w.heap.size, 2, none⟩) HS.out).trans c2
  have HO2 := Lib.hid hown
  have HB2 := Lib.hid hb
  have HZ2 := Lib.hid hb.size
  clear hown hb c0 c1 c2
  go_wp2_with fail
  go_region_held3 (fun w' => w'.cell? ⟨w.heap.size, 1, none⟩ = some (.int .i64 m))
    (first
      | go_keep
      | ((refine (hgrow.cell_far _ ?_ ?_).trans ?_)
         · (have z1 := HZ2.out; have z2 := HS.out; simp; omega)
         · exact (fun e => by have z1 := (HO2.out.lt _ e.symm).1; have z2 := HS.out; simp at z1; omega)
         · assumption)
      | ((refine (hb4.cell (p := ⟨w.heap.size, 1, none⟩) HS.out).trans ?_)
         assumption))
    (first
      | (refine step_append_lies _ (by rfl) _ _ _ (by rfl) w1.heap.size 5 i0 _ 1 1 Tryd.underlying45 hi hz0 hz1 hz2 rfl (by omega) _ _ _ (by rfl) ((HO2.out.alloc _).drew)
          ⟨w2.heap.size, 0, none⟩ 1 1 [.int .u8 45] (by rfl) (by rfl) (World.news_of_block (cs := #[.int .u8 45]) (t := 5) (fr := (0, 0)) (heap_alloc_new w2 _)) (by simp [Value.oneCell'])
          (by omega) (by unfold maxLen; omega) (by omega) (by have := HZ2.out; simp; omega) (w2.heap.size + 1) (by simp) ?_; intro gg cap w3 hown3 hgrow hat hlt3)
      | (go_at_call 22; refine (goPut _ m 2 _ w1.heap.size 5 _ (own_45 hown3) (by have := HZ2.out; have z9 := hgrow.size; simp at z9; omega) (by omega) (by omega) (by omega) (by omega) (by omega)).mono ?_; rintro e w4 ⟨v4, rfl, hown4, hb4⟩))
  have e4 : w4.cell? ⟨w.heap.size, 2, none⟩ = some (.int .i64 d) := by
    refine (hb4.cell (p := ⟨w.heap.size, 2, none⟩) HS.out).trans ((hgrow.cell_far _ ?_ ?_).trans ?_)
    · (have z1 := HZ2.out; have z2 := HS.out; simp; omega)
    · exact (fun e => by have z1 := (HO2.out.lt _ e.symm).1; have z2 := HS.out; simp at z1; omega)
    · rw [World.cell?_drew]
      exact (World.cell?_alloc_lt w2 _ ⟨w.heap.size, 2, none⟩ (by have z1 := HZ2.out; have z2 := HS.out; show _ < _; simp; omega)).trans e2
  have B3 : Below w1.heap.size w1 w3 := (below_drew (HB2.out.alloc HZ2.out _)).grown hgrow (by have z1 := HZ2.out; simp; omega) (fun j hj => (HO2.out.lt j hj).1)
  have HB4 := Lib.hid (B3.trans hb4)
  have HO4 := Lib.hid hown4
  have HZ4 : Hid (w1.heap.size ≤ w4.heap.size) := Nat.le_trans B3.size hb4.size
  clear hown4 hb4 B3 hgrow hown3 hat hlt3 e1 e2
  go_wp2_with fail
  go_region_held3 (fun w' => w'.cell? ⟨w.heap.size, 2, none⟩ = some (.int .i64 d))
    (first
      | go_keep
      | ((refine (hgrow.cell_far _ ?_ ?_).trans ?_)
         · (have z1 := HZ4.out; have z2 := HS.out; simp; omega)
         · exact (fun e => by have z1 := (HO4.out.lt _ e.symm).1; have z2 := HS.out; simp at z1; omega)
         · assumption)
      | ((refine (hb6.cell (p := ⟨w.heap.size, 2, none⟩) HS.out).trans ?_)
         assumption))
    (first
      | (refine step_append_lies _ (by rfl) _ _ _ (by rfl) w1.heap.size 5 i0 _ 1 1 Tryd.underlying45 hi hz0 hz1 hz2 rfl (by omega) _ _ _ (by rfl) ((HO4.out.alloc _).drew)
          ⟨w4.heap.size, 0, none⟩ 1 1 [.int .u8 45] (by rfl) (by rfl) (World.news_of_block (cs := #[.int .u8 45]) (t := 5) (fr := (0, 0)) (heap_alloc_new w4 _)) (by simp [Value.oneCell'])
          (by omega) (by unfold maxLen; omega) (by omega) (by have := HZ4.out; simp; omega) (w4.heap.size + 1) (by simp) ?_; intro gg cap w5 hown3 hgrow hat hlt3)
      | (go_at_call 22; refine (goPut _ d 2 _ w1.heap.size 8 _ (own_45 hown3) (by have := HZ4.out; have z9 := hgrow.size; simp at z9; omega) (by omega) (by omega) (by omega) (by omega) (by omega)).mono ?_; rintro e w6 ⟨v6, rfl, hown4, hb6⟩))
  have B5 : Below w1.heap.size w1 w5 := (below_drew (HB4.out.alloc HZ4.out _)).grown hgrow (by have z1 := HZ4.out; simp; omega) (fun j hj => (HO4.out.lt j hj).1)
  have HB6 := Lib.hid (HB.out.trans ((B5.trans hb6).mono (Nat.le_of_lt HS.out)))
  obtain ⟨g, c, rfl⟩ := own_form hown4 (by omega)
  have cv := bytes_txt hown4 45 9 Tryd.underlying45 Tryd.underlying5 Tryd.underlying9
  have EQ : Hid (strOfNums (([] ++ dgTo y 4 4 ++ [45] ++ dgTo m 2 2) ++ [45] ++ dgTo d 2 2) = txt y m d) := rfl
  rw [EQ.out] at cv
  clear hown4 hb6 B5 hgrow hown3 hat hlt3 e4
  go_wp2_with fail
  go_ret2
  exact ⟨rfl, HB6.out⟩
end Go.Proofs.YtaanmikdhhdeiaaDoor
