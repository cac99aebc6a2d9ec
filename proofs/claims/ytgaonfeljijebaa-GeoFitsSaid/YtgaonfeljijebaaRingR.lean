/-
  The reference's Ring returns the cells of ringL. No conditions but that the number is one of a ring.
-/
import Derived.Test.YtgaonfeljijebaaRows
import Derived.Test.YtgaonfeljijebaaRingP
namespace Go.Proofs.Ytgaonfeljijebaa
open Go.ChangeShapes Go.WideShapes Go.ChangeAt Go.RowKit
set_option linter.unusedVariables false

theorem Try.info29 : (Try.prog.info? 29).map (fun i => (i.zero, i.size, i.bytes)) = some (some (.agg #[.int .i64 0, .int .i64 0]), 2, 16) := by kernel_rfl
theorem refRing_zero (w : World) : Calls Try.prog 13 #[.int .i64 0] w (GivesC (ringL 0) w) := by
  go_enter Try.func13, Try.ntmps13
  go_wp2
  go_ret
  exact ⟨_, _, _, rfl, Rd.made two 2 w 29 [(0, 0)] #[.int .i64 0, .int .i64 0] (by simp [two]) rfl, (Below.refl _ _).alloc (Nat.le_refl _) _⟩

set_option maxRecDepth 100000 in
set_option maxHeartbeats 1600000 in
theorem refRing (r : Nat) (w : World) (h0 : 0 < r) (h1 : r ≤ 4096) : Calls Try.prog 13 #[.int .i64 r] w (GivesC (ringL r) w) := by
  obtain ⟨i0, hi, hz0, hz1, hz2⟩ := info_parts Try.info29
  have b0 : ((r : Int) == 0) = false := by simp; omega
  go_enter Try.func13, Try.ntmps13
  go_wp2_with fail
  go_loopw [4, 3] (fun i v wr => ∃ (k : Nat) (X : Int), k ≤ 2 * r ∧ i = .int .i64 X ∧ X = 1 - (r : Int) + k ∧ Hid (wr.ownsRow w.heap.size 29 2 v (0 * (2 * r) + k) (cellsC (sides r 0 ++ side r 0 k))) ∧ Below w.heap.size w wr) (fun i _ _ => (r + 1 - intOf i).toNat)
  case atStart => exact ⟨0, _, Nat.zero_le _, rfl, by omega, by show World.ownsRow _ _ _ _ _ _ _; simpa [sides, side, cellsC] using World.ownsRow_nil w w.heap.size 29 2, Below.refl _ _⟩
  case round =>
    obtain ⟨k, X, hk, rfl, hX, hO, hb⟩ := hrel
    have hsz := hb.size
    by_cases hc : X ≤ (r : Int)
    · have hk' : k < 2 * r := by omega
      have HX := Lib.hid hX
      have x0 : -4097 ≤ X := by omega
      have x1 : X ≤ 4097 := by omega
      clear hX
      go_wp2_with (at_builtin; refine wpList_append_own _ rfl _ _ 23 rfl w.heap.size 29 i0 _ 2 16 Try.underlying23 hi hz0 hz1 hz2 rfl (by omega) _ _ _ rfl (hO.out.alloc _) ⟨wr.heap.size, 0, none⟩ 1 1 [.int .i64 (r : Int), .int .i64 X] rfl rfl (World.news_of_block (cs := #[.int .i64 (r : Int), .int .i64 X]) (t := 29) (fr := (0, 0)) (heap_alloc_new wr _)) (by simp [Value.oneCell']) (by unfold maxLen; omega) (by omega) (by simp; omega) ?_; intro v' w1 hown' hgrow _; have HO := Lib.hid hown'; have hb2 := (hb.alloc hsz _).grown hgrow (by simp; omega) (fun j hj => (hO.out.lt j hj).1); clear hown' hgrow)
      go_roundw
      case rel => exact ⟨k + 1, _, by omega, rfl, by have := HX.out; omega, own_more HO.out (by simp [ptX, cornX, dirX]) (by have := HX.out; simp [ptY, cornY, dirY]; omega), hb2⟩
      case measure => simp [intOf]; omega
    · obtain rfl : k = 2 * r := by omega
      have HX := Lib.hid hX
      have x0 : -4097 ≤ X := by omega
      have x1 : X ≤ 4097 := by omega
      clear hX
      go_wp2_with fail
      go_loopw [5, 3] (fun i v wr => ∃ (k : Nat) (X : Int), k ≤ 2 * r ∧ i = .int .i64 X ∧ X = (r : Int) - 1 - k ∧ Hid (wr.ownsRow w.heap.size 29 2 v (1 * (2 * r) + k) (cellsC (sides r 1 ++ side r 1 k))) ∧ Below w.heap.size w wr) (fun i _ _ => (intOf i + r + 1).toNat)
      case atStart => exact ⟨0, _, Nat.zero_le _, rfl, by omega, by have := own_next hO.out; rwa [show 0 * (2 * r) + 2 * r = 1 * (2 * r) + 0 by omega] at this, hb⟩
      case round =>
        clear hO hb hsz
        obtain ⟨k, X, hk, rfl, hX, hO, hb⟩ := hrel
        have hsz := hb.size
        by_cases hc : -(r : Int) ≤ X
        · have hk' : k < 2 * r := by omega
          have HX := Lib.hid hX
          have x0 : -4097 ≤ X := by omega
          have x1 : X ≤ 4097 := by omega
          clear hX
          go_wp2_with (at_builtin; refine wpList_append_own _ rfl _ _ 23 rfl w.heap.size 29 i0 _ 2 16 Try.underlying23 hi hz0 hz1 hz2 rfl (by omega) _ _ _ rfl (hO.out.alloc _) ⟨wr.heap.size, 0, none⟩ 1 1 [.int .i64 X, .int .i64 (r : Int)] rfl rfl (World.news_of_block (cs := #[.int .i64 X, .int .i64 (r : Int)]) (t := 29) (fr := (0, 0)) (heap_alloc_new wr _)) (by simp [Value.oneCell']) (by unfold maxLen; omega) (by omega) (by simp; omega) ?_; intro v' w1 hown' hgrow _; have HO := Lib.hid hown'; have hb2 := (hb.alloc hsz _).grown hgrow (by simp; omega) (fun j hj => (hO.out.lt j hj).1); clear hown' hgrow)
          go_roundw
          case rel => exact ⟨k + 1, _, by omega, rfl, by have := HX.out; omega, own_more HO.out (by have := HX.out; simp [ptX, cornX, dirX]; omega) (by simp [ptY, cornY, dirY]), hb2⟩
          case measure => simp [intOf]; omega
        · obtain rfl : k = 2 * r := by omega
          have HX := Lib.hid hX
          have x0 : -4097 ≤ X := by omega
          have x1 : X ≤ 4097 := by omega
          clear hX
          go_wp2_with fail
          go_loopw [6, 3] (fun i v wr => ∃ (k : Nat) (X : Int), k ≤ 2 * r ∧ i = .int .i64 X ∧ X = (r : Int) - 1 - k ∧ Hid (wr.ownsRow w.heap.size 29 2 v (2 * (2 * r) + k) (cellsC (sides r 2 ++ side r 2 k))) ∧ Below w.heap.size w wr) (fun i _ _ => (intOf i + r + 1).toNat)
          case atStart => exact ⟨0, _, Nat.zero_le _, rfl, by omega, by have := own_next hO.out; rwa [show 1 * (2 * r) + 2 * r = 2 * (2 * r) + 0 by omega] at this, hb⟩
          case round =>
            clear hO hb hsz
            obtain ⟨k, X, hk, rfl, hX, hO, hb⟩ := hrel
            have hsz := hb.size
            by_cases hc : -(r : Int) ≤ X
            · have hk' : k < 2 * r := by omega
              have HX := Lib.hid hX
              have x0 : -4097 ≤ X := by omega
              have x1 : X ≤ 4097 := by omega
              clear hX
              go_wp2_with (at_builtin; refine wpList_append_own _ rfl _ _ 23 rfl w.heap.size 29 i0 _ 2 16 Try.underlying23 hi hz0 hz1 hz2 rfl (by omega) _ _ _ rfl (hO.out.alloc _) ⟨wr.heap.size, 0, none⟩ 1 1 [.int .i64 (-(r : Int)), .int .i64 X] rfl rfl (World.news_of_block (cs := #[.int .i64 (-(r : Int)), .int .i64 X]) (t := 29) (fr := (0, 0)) (heap_alloc_new wr _)) (by simp [Value.oneCell']) (by unfold maxLen; omega) (by omega) (by simp; omega) ?_; intro v' w1 hown' hgrow _; have HO := Lib.hid hown'; have hb2 := (hb.alloc hsz _).grown hgrow (by simp; omega) (fun j hj => (hO.out.lt j hj).1); clear hown' hgrow)
              go_roundw
              case rel => exact ⟨k + 1, _, by omega, rfl, by have := HX.out; omega, own_more HO.out (by simp [ptX, cornX, dirX]) (by have := HX.out; simp [ptY, cornY, dirY]; omega), hb2⟩
              case measure => simp [intOf]; omega
            · obtain rfl : k = 2 * r := by omega
              have HX := Lib.hid hX
              have x0 : -4097 ≤ X := by omega
              have x1 : X ≤ 4097 := by omega
              clear hX
              go_wp2_with fail
              go_loopw [7, 3] (fun i v wr => ∃ (k : Nat) (X : Int), k ≤ 2 * r ∧ i = .int .i64 X ∧ X = 1 - (r : Int) + k ∧ Hid (wr.ownsRow w.heap.size 29 2 v (3 * (2 * r) + k) (cellsC (sides r 3 ++ side r 3 k))) ∧ Below w.heap.size w wr) (fun i _ _ => (r + 1 - intOf i).toNat)
              case atStart => exact ⟨0, _, Nat.zero_le _, rfl, by omega, by have := own_next hO.out; rwa [show 2 * (2 * r) + 2 * r = 3 * (2 * r) + 0 by omega] at this, hb⟩
              case round =>
                clear hO hb hsz
                obtain ⟨k, X, hk, rfl, hX, hO, hb⟩ := hrel
                have hsz := hb.size
                by_cases hc : X ≤ (r : Int)
                · have hk' : k < 2 * r := by omega
                  have HX := Lib.hid hX
                  have x0 : -4097 ≤ X := by omega
                  have x1 : X ≤ 4097 := by omega
                  clear hX
                  go_wp2_with (at_builtin; refine wpList_append_own _ rfl _ _ 23 rfl w.heap.size 29 i0 _ 2 16 Try.underlying23 hi hz0 hz1 hz2 rfl (by omega) _ _ _ rfl (hO.out.alloc _) ⟨wr.heap.size, 0, none⟩ 1 1 [.int .i64 X, .int .i64 (-(r : Int))] rfl rfl (World.news_of_block (cs := #[.int .i64 X, .int .i64 (-(r : Int))]) (t := 29) (fr := (0, 0)) (heap_alloc_new wr _)) (by simp [Value.oneCell']) (by unfold maxLen; omega) (by omega) (by simp; omega) ?_; intro v' w1 hown' hgrow _; have HO := Lib.hid hown'; have hb2 := (hb.alloc hsz _).grown hgrow (by simp; omega) (fun j hj => (hO.out.lt j hj).1); clear hown' hgrow)
                  go_roundw
                  case rel => exact ⟨k + 1, _, by omega, rfl, by have := HX.out; omega, own_more HO.out (by have := HX.out; simp [ptX, cornX, dirX]; omega) (by simp [ptY, cornY, dirY]), hb2⟩
                  case measure => simp [intOf]; omega
                · obtain rfl : k = 2 * r := by omega
                  have HX := Lib.hid hX
                  have x0 : -4097 ≤ X := by omega
                  have x1 : X ≤ 4097 := by omega
                  clear hX
                  go_wp2_with fail
                  go_ret
                  obtain ⟨A, c, rfl, hR⟩ := rdOwn2 (own_next hO.out)
                  exact ⟨A, _, c, rfl, by rw [ringL, if_neg (by omega)]; simpa [side] using hR, hb⟩
end Go.Proofs.Ytgaonfeljijebaa
