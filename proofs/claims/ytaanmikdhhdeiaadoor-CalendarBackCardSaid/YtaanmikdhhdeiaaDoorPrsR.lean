/-
  The reference's Parse: what a text is read as. No conditions.
-/
import Derived.Test.YtaanmikdhhdeiaaDoorPrsG
import Derived.Deep.RegionHeld3
import Derived.Outline
namespace Go.Proofs.YtaanmikdhhdeiaaDoor
open Go.ChangeShapes Go.WideShapes Go.ChangeAt Go.RowKit
set_option linter.unusedVariables false

set_option maxHeartbeats 4000000 in
theorem refParse (s : ByteArray) (w : World) : Calls Tryd.prog 19 #[.string s] w (Reads s w) := by
  by_cases hs : s.size = 10
  · have HS := Lib.hid hs
    have h10 : s.size ≤ 10 := by omega
    have h10' : 10 ≤ s.size := by omega
    go_enter Tryd.func19, Tryd.ntmps19
    go_wp2
    go_loop [4] (fun i => ∃ (k : Nat), k ≤ 10 ∧ i = .int .i64 k ∧ Hid (OkTo s k)) (fun i => 10 - (intOf i).toNat)
    case atStart => exact ⟨0, by omega, rfl, okTo_zero s⟩
    case round =>
      obtain ⟨k, hk, rfl, hok⟩ := hrel
      by_cases hlt : k < 10
      · have ks : k < s.size := by omega
        have BT := Lib.hid (bt_at ks)
        by_cases h4 : k = 4
        · have b4 : ((k : Int) == 4) = true := by simp; omega
          by_cases hd : s[k].toNat = 45
          · have d1 : ((s[k].toNat : Int) != 45) = false := by simp; omega
            have G : Hid (OkTo s (k + 1)) := okTo_succ hok.out ((ok_dash (.inl h4)).2 (by rw [← BT.out]; omega))
            clear h4 hd
            go_wp2
            go_round
            case rel => exact ⟨k + 1, by omega, by go_num, G⟩
            case measure => simp [intOf]; omega
          · have d1 : ((s[k].toNat : Int) != 45) = true := by simp; omega
            have G : Hid (¬ Good s) := good_no hlt (fun h => by rw [ok_dash (.inl h4), ← BT.out] at h; omega)
            clear h4 hd
            go_wp2
            exact bodyPost_ret (v := .tuple #[.agg #[.int .i64 0, .int .i64 0, .int .i64 0], .int .i64 11]) (by simp [results, Tryd.results19, go_sem]) rfl (reads_bad G.out ((((Below.refl _ _).alloc (Nat.le_refl _) _)).trans (Below.refl _ _)))
        · have b4 : ((k : Int) == 4) = false := by simp; omega
          by_cases h7 : k = 7
          · have b7 : ((k : Int) == 7) = true := by simp; omega
            by_cases hd : s[k].toNat = 45
            · have d1 : ((s[k].toNat : Int) != 45) = false := by simp; omega
              have G : Hid (OkTo s (k + 1)) := okTo_succ hok.out ((ok_dash (.inr h7)).2 (by rw [← BT.out]; omega))
              clear h4 h7 hd
              go_wp2
              go_round
              case rel => exact ⟨k + 1, by omega, by go_num, G⟩
              case measure => simp [intOf]; omega
            · have d1 : ((s[k].toNat : Int) != 45) = true := by simp; omega
              have G : Hid (¬ Good s) := good_no hlt (fun h => by rw [ok_dash (.inr h7), ← BT.out] at h; omega)
              clear h4 h7 hd
              go_wp2
              exact bodyPost_ret (v := .tuple #[.agg #[.int .i64 0, .int .i64 0, .int .i64 0], .int .i64 11]) (by simp [results, Tryd.results19, go_sem]) rfl (reads_bad G.out ((((Below.refl _ _).alloc (Nat.le_refl _) _)).trans (Below.refl _ _)))
          · have b7 : ((k : Int) == 7) = false := by simp; omega
            have ND : Hid (¬(k = 4 ∨ k = 7)) := by show ¬ _; omega
            by_cases h48 : 48 ≤ (s[k].toNat : Int)
            · by_cases h57 : (s[k].toNat : Int) ≤ 57
              · have G : Hid (OkTo s (k + 1)) := okTo_succ hok.out ((ok_digit ND.out).2 (by rw [← BT.out]; omega))
                clear h4 h7
                go_wp2
                go_round
                case rel => exact ⟨k + 1, by omega, by go_num, G⟩
                case measure => simp [intOf]; omega
              · have G : Hid (¬ Good s) := good_no hlt (fun h => by rw [ok_digit ND.out, ← BT.out] at h; omega)
                clear h4 h7
                go_wp2
                exact bodyPost_ret (v := .tuple #[.agg #[.int .i64 0, .int .i64 0, .int .i64 0], .int .i64 11]) (by simp [results, Tryd.results19, go_sem]) rfl (reads_bad G.out ((((Below.refl _ _).alloc (Nat.le_refl _) _)).trans (Below.refl _ _)))
            · have G : Hid (¬ Good s) := good_no hlt (fun h => by rw [ok_digit ND.out, ← BT.out] at h; omega)
              clear h4 h7
              go_wp2
              exact bodyPost_ret (v := .tuple #[.agg #[.int .i64 0, .int .i64 0, .int .i64 0], .int .i64 11]) (by simp [results, Tryd.results19, go_sem]) rfl (reads_bad G.out ((((Below.refl _ _).alloc (Nat.le_refl _) _)).trans (Below.refl _ _)))
      · obtain rfl : k = 10 := by omega
        have GD : Hid (Good s) := ⟨HS.out, hok.out⟩
        go_wp2
        go_loopw [6, 7] (fun a i wr => ∃ (k : Nat) (V0 V1 V2 : Int), k ≤ 10 ∧ i = .int .i64 k ∧ a = .int .i64 (plI k) ∧ Hid (Nums s k V0 V1 V2) ∧ Hid (Bk wr w.heap.size 23 #[.int .i64 0, .int .i64 0, .int .i64 0]) ∧ Hid (Bk wr (w.heap.size + 1) 3 #[.int .i64 V0, .int .i64 V1, .int .i64 V2]) ∧ Hid (Below w.heap.size w wr)) (fun _ i _ => 10 - (intOf i).toNat)
        case atStart => exact ⟨0, 0, 0, 0, by omega, rfl, rfl, ⟨rfl, rfl, rfl⟩, (Bk.new _ _ _).alloc _, alloc_new2 _ _ _, ((Below.refl _ _).alloc (Nat.le_refl _) _).alloc (by simp) _⟩
        case round =>
          obtain ⟨k, V0, V1, V2, hk, rfl, rfl, hnm, hb0, hb1, hb⟩ := hrel
          have r0 := hb0.out.cell 0
          have r1 := hb0.out.cell 1
          have r2 := hb0.out.cell 2
          have g0 := hb0.out.free 0
          have g1 := hb0.out.free 1
          have g2 := hb0.out.free 2
          have c0 := hb1.out.cell 0
          have c1 := hb1.out.cell 1
          have c2 := hb1.out.cell 2
          have f0 := hb1.out.free 0
          have f1 := hb1.out.free 1
          have f2 := hb1.out.free 2
          have bd := Lib.hid (nums_bd hnm.out (fun j hj => GD.out.2 j (by omega)))
          have v00 := bd.out.1
          have v01 := bd.out.2.1
          have v10 := bd.out.2.2.1
          have v11 := bd.out.2.2.2.1
          have v20 := bd.out.2.2.2.2.1
          have v21 := bd.out.2.2.2.2.2
          by_cases hlt : k < 10
          · have ks : k < s.size := by omega
            have BT := Lib.hid (bt_at ks)
            by_cases h47 : k = 4 ∨ k = 7
            · have BD := (ok_dash h47).1 (GD.out.2 k hlt)
              rw [← BT.out] at BD
              have d1 : ((s[k].toNat : Int) == 45) = true := by simp; omega
              have GN := Lib.hid (nums_dash hnm.out h47)
              have P1 : Hid (plI k + 1 = plI (k + 1)) := by show _ = _; rcases h47 with rfl | rfl <;> rfl
              have P0 : 0 ≤ plI k := by rcases h47 with rfl | rfl <;> decide
              have P2 : plI k ≤ 1 := by rcases h47 with rfl | rfl <;> decide
              clear h47 BD
              go_wp2
              go_roundw
              case rel => exact ⟨k + 1, V0, V1, V2, by omega, by go_num, by rw [← P1.out], GN.out, hb0, hb1, hb⟩
              case measure => simp [intOf]; omega
            · have BD := (ok_digit h47).1 (GD.out.2 k hlt)
              rw [← BT.out] at BD
              obtain ⟨h48, h57⟩ := BD
              have d1 : ((s[k].toNat : Int) == 45) = false := by simp; omega
              rcases (show k < 4 ∨ (4 < k ∧ k < 7) ∨ 7 < k by omega) with hc | ⟨hc, hc'⟩ | hc
              · have PL : plI k = 0 := pl_0 (by omega)
                have GN := Lib.hid (nums_0 hnm.out hc)
                rw [← BT.out] at GN
                have P1 : Hid (plI (k + 1) = 0) := pl_0 (by omega)
                have EQ : Hid (10 * V0 + (s[k].toNat : Int) - 48 = 10 * V0 + ((s[k].toNat : Int) - 48)) := by show _ = _; omega
                rw [PL]
                clear PL h47
                have x2 : IntKind.i64.wrap (10 * V0) = 10 * V0 := IntWalk.i64_in _ (by omega)
                have x3 : IntKind.i64.wrap (10 * V0 + (s[k].toNat : Int)) = 10 * V0 + (s[k].toNat : Int) := IntWalk.i64_in _ (by omega)
                have x4 : IntKind.i64.wrap (10 * V0 + (s[k].toNat : Int) - 48) = 10 * V0 + (s[k].toNat : Int) - 48 := IntWalk.i64_in _ (by omega)
                go_wp2
                go_still_tail 14, (by kernel_rfl)
                clear x2 x3 x4
                change wpList _ _ _ _ _ wr.drew
                go_wp2
                go_roundw
                case rel => exact ⟨k + 1, _, V1, V2, by omega, by go_num, by rw [P1.out], by rw [EQ.out]; exact GN, hb0.out.far (by simp) _, hb1.out.put 0 _, below_dN (hb.out.setCell (p := ⟨w.heap.size + 1, 0, none⟩) (by simp) _) 1⟩
                case measure => simp [intOf]; omega
              · have PL : plI k = 1 := pl_1 (by omega) (by omega)
                have GN := Lib.hid (nums_1 hnm.out hc hc')
                rw [← BT.out] at GN
                have P1 : Hid (plI (k + 1) = 1) := pl_1 (by omega) (by omega)
                have EQ : Hid (10 * V1 + (s[k].toNat : Int) - 48 = 10 * V1 + ((s[k].toNat : Int) - 48)) := by show _ = _; omega
                rw [PL]
                clear PL h47
                have x2 : IntKind.i64.wrap (10 * V1) = 10 * V1 := IntWalk.i64_in _ (by omega)
                have x3 : IntKind.i64.wrap (10 * V1 + (s[k].toNat : Int)) = 10 * V1 + (s[k].toNat : Int) := IntWalk.i64_in _ (by omega)
                have x4 : IntKind.i64.wrap (10 * V1 + (s[k].toNat : Int) - 48) = 10 * V1 + (s[k].toNat : Int) - 48 := IntWalk.i64_in _ (by omega)
                go_wp2
                go_still_tail 14, (by kernel_rfl)
                clear x2 x3 x4
                change wpList _ _ _ _ _ wr.drew
                go_wp2
                go_roundw
                case rel => exact ⟨k + 1, V0, _, V2, by omega, by go_num, by rw [P1.out], by rw [EQ.out]; exact GN, hb0.out.far (by simp) _, hb1.out.put 1 _, below_dN (hb.out.setCell (p := ⟨w.heap.size + 1, 1, none⟩) (by simp) _) 1⟩
                case measure => simp [intOf]; omega
              · have PL : plI k = 2 := pl_2 (by omega)
                have GN := Lib.hid (nums_2 hnm.out hc hlt)
                rw [← BT.out] at GN
                have P1 : Hid (plI (k + 1) = 2) := pl_2 (by omega)
                have EQ : Hid (10 * V2 + (s[k].toNat : Int) - 48 = 10 * V2 + ((s[k].toNat : Int) - 48)) := by show _ = _; omega
                rw [PL]
                clear PL h47
                have x2 : IntKind.i64.wrap (10 * V2) = 10 * V2 := IntWalk.i64_in _ (by omega)
                have x3 : IntKind.i64.wrap (10 * V2 + (s[k].toNat : Int)) = 10 * V2 + (s[k].toNat : Int) := IntWalk.i64_in _ (by omega)
                have x4 : IntKind.i64.wrap (10 * V2 + (s[k].toNat : Int) - 48) = 10 * V2 + (s[k].toNat : Int) - 48 := IntWalk.i64_in _ (by omega)
                go_wp2
                go_still_tail 14, (by kernel_rfl)
                clear x2 x3 x4
                change wpList _ _ _ _ _ wr.drew
                go_wp2
                go_roundw
                case rel => exact ⟨k + 1, V0, V1, _, by omega, by go_num, by rw [P1.out], by rw [EQ.out]; exact GN, hb0.out.far (by simp) _, hb1.out.put 2 _, below_dN (hb.out.setCell (p := ⟨w.heap.size + 1, 2, none⟩) (by simp) _) 1⟩
                case measure => simp [intOf]; omega
          · obtain rfl : k = 10 := by omega
            have lt1 := hb1.out.lt
            obtain ⟨rfl, rfl, rfl⟩ := hnm.out
            clear hnm bd
            by_cases hv : Vld (pY s 10) (pM s 10) (pD s 10)
            · have HV := Lib.hid hv
              have HD := Lib.hid (vld_date hv)
              obtain ⟨N, hN⟩ : ∃ N, yst (pY s 10) + mst (pY s 10) (pM s 10 - 1).toNat + (pD s 10 - 1) = N := ⟨_, rfl⟩
              rw [hN] at HD
              have n0 : 0 ≤ N := (date_bd HD.out).1
              clear hv hN
              go_wp2_with fail
              have nb0 := World.new_ne wr _ c0
              have nb1 := World.new_ne wr _ c1
              have nb2 := World.new_ne wr _ c2
              go_region_held3 (fun w' => w'.cell? ⟨w.heap.size + 1, 0, none⟩ = some (.int .i64 (pY s 10)) ∧ w'.cell? ⟨w.heap.size + 1, 1, none⟩ = some (.int .i64 (pM s 10)) ∧ w'.cell? ⟨w.heap.size + 1, 2, none⟩ = some (.int .i64 (pD s 10))) (go_keep) (fail)
              go_wp2_with fail
              refine (refDay_yes _ _ _ _ _ HD.out).mono ?_
              rintro e w3 ⟨rfl, hb3⟩
              have hbk := ((hb0.out.alloc (.cells #[.int .i64 (pY s 10), .int .i64 (pM s 10), .int .i64 (pD s 10)] 23)).dN 1).below hb3 (by simp; omega)
              have R0 := hbk.cell 0
              have R1 := hbk.cell 1
              have R2 := hbk.cell 2
              have G0 := hbk.free 0
              have G1 := hbk.free 1
              have G2 := hbk.free 2
              have D0 := ((Bk.new wr 23 #[.int .i64 (pY s 10), .int .i64 (pM s 10), .int .i64 (pD s 10)]).dN 1).below hb3 (by simp)
              have e0 := D0.cell 0
              have e1 := D0.cell 1
              have e2 := D0.cell 2
              have HB3 := Lib.hid ((below_dN (hb.out.alloc (Nat.le_of_lt (by omega)) (.cells #[.int .i64 (pY s 10), .int .i64 (pM s 10), .int .i64 (pD s 10)] 23)) 1).trans (hb3.mono (by simp; omega)))
              have lt3 := D0.lt
              clear hbk hb3 D0
              go_wp2_with fail
              exact bodyPost_ret (v := .tuple #[.agg #[.int .i64 (pY s 10), .int .i64 (pM s 10), .int .i64 (pD s 10)], .int .i64 0]) (by simp [results, Tryd.results19, go_sem, R0, R1, R2]) rfl (reads_date GD.out HV.out (((HB3.out.setCell (by simp) _).setCell (by simp) _).setCell (by simp) _))
            · have HV := Lib.hid hv
              clear hv
              go_wp2_with fail
              have nb0 := World.new_ne wr _ c0
              have nb1 := World.new_ne wr _ c1
              have nb2 := World.new_ne wr _ c2
              go_region_held3 (fun w' => w'.cell? ⟨w.heap.size + 1, 0, none⟩ = some (.int .i64 (pY s 10)) ∧ w'.cell? ⟨w.heap.size + 1, 1, none⟩ = some (.int .i64 (pM s 10)) ∧ w'.cell? ⟨w.heap.size + 1, 2, none⟩ = some (.int .i64 (pD s 10))) (go_keep) (fail)
              go_wp2_with fail
              refine (refDay_no _ _ _ _ HV.out).mono ?_
              rintro e w3 ⟨rfl, hb3⟩
              have hbk := ((hb0.out.alloc (.cells #[.int .i64 (pY s 10), .int .i64 (pM s 10), .int .i64 (pD s 10)] 23)).dN 1).below hb3 (by simp; omega)
              have R0 := hbk.cell 0
              have R1 := hbk.cell 1
              have R2 := hbk.cell 2
              have G0 := hbk.free 0
              have G1 := hbk.free 1
              have G2 := hbk.free 2
              have D0 := ((Bk.new wr 23 #[.int .i64 (pY s 10), .int .i64 (pM s 10), .int .i64 (pD s 10)]).dN 1).below hb3 (by simp)
              have e0 := D0.cell 0
              have e1 := D0.cell 1
              have e2 := D0.cell 2
              have HB3 := Lib.hid ((below_dN (hb.out.alloc (Nat.le_of_lt (by omega)) (.cells #[.int .i64 (pY s 10), .int .i64 (pM s 10), .int .i64 (pD s 10)] 23)) 1).trans (hb3.mono (by simp; omega)))
              have lt3 := D0.lt
              clear hbk hb3 D0
              go_wp2_with fail
              exact bodyPost_ret (v := .tuple #[.agg #[.int .i64 0, .int .i64 0, .int .i64 0], .int .i64 2]) (by simp [results, Tryd.results19, go_sem, R0, R1, R2]) rfl (reads_none GD.out HV.out (((HB3.out.setCell (by simp) _).setCell (by simp) _).setCell (by simp) _))
  · have HS : Hid (¬ Good s) := fun hg => hs hg.1
    have hne : ((s.size : Int) == 10) = false := by simp; omega
    go_enter Tryd.func19, Tryd.ntmps19
    go_wp2
    exact bodyPost_ret (v := .tuple #[.agg #[.int .i64 0, .int .i64 0, .int .i64 0], .int .i64 11]) (by simp [results, Tryd.results19, go_sem]) rfl (reads_bad HS.out ((Below.refl _ _).alloc (Nat.le_refl _) _))
end Go.Proofs.YtaanmikdhhdeiaaDoor
