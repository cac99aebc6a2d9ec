/-
  The law GeoFits returns true, for every number, every three places and every number, and leaves what was there as it was. No conditions but the arguments' readings.
-/
import Derived.Test.YtgaonfeljijebaaGeoK
import Derived.Deep.DeepCutAuto
import Derived.Test.YtgaonfeljijebaaArr
import Derived.Deep.RegionHeld3
namespace Go.Proofs.Ytgaonfeljijebaa.geoFitsWalk
open Go.ChangeShapes Go.WideShapes Go.ChangeAt Go.RowKit
set_option linter.unusedVariables false

set_option maxRecDepth 100000 in
set_option maxHeartbeats 20000000 in
theorem walk (a0 : Int) (s1a s1b s1c s1d s1e s1f : Int) (a2 : Int) (w : World) (w0 : (Lit.int .u8 a0).wf = true) (ws1a : Fits s1a) (ws1b : Fits s1b) (ws1c : Fits s1c) (ws1d : Fits s1d) (ws1e : Fits s1e) (ws1f : Fits s1f) (w2 : (Lit.int .i64 a2).wf = true) :
    Calls Try.prog 10 #[.int .u8 a0, .agg #[.int .i64 s1a, .int .i64 s1b, .int .i64 s1c, .int .i64 s1d, .int .i64 s1e, .int .i64 s1f], .int .i64 a2] w fun e w' => e = .returned (.bool true) ∧ Below w.heap.size w w' := by
  have h0 : 0 ≤ a0 ∧ a0 ≤ 255 := by
    have h := w0
    simp [Lit.wf, IntKind.min, IntKind.max, IntKind.signed, IntKind.bits] at h
    omega
  obtain ⟨h00, h01⟩ := h0
  obtain ⟨k, hk⟩ := Int.eq_ofNat_of_zero_le (show 0 ≤ a0 % 12 by omega)
  have hk12 : k < 12 := by omega
  obtain ⟨N, hN⟩ : ∃ N, Hid (cellsN k = N) := ⟨_, rfl⟩
  have hS : (2 * (k : Int) + 1) * (2 * (k : Int) + 1) = (N : Int) := by rw [← hN.out]; push_cast; rfl
  have hN529 : N ≤ 529 := by rw [← hN.out]; exact Nat.mul_le_mul (show 2 * k + 1 ≤ 23 by omega) (show 2 * k + 1 ≤ 23 by omega)
  obtain ⟨i0, hi, hz0, hz1, hz2⟩ := info_parts Try.info4
  have a2b : a2 ≤ 9223372036854775807 := by
    have h := w2
    simp [Lit.wf, IntKind.min, IntKind.max, IntKind.signed, IntKind.bits] at h
    omega
  have a2a : -9223372036854775808 ≤ a2 := by
    have h := w2
    simp [Lit.wf, IntKind.min, IntKind.max, IntKind.signed, IntKind.bits] at h
    omega
  clear w0 w2
  go_enter Try.func10, Try.ntmps10
  go_wp2_with fail
  refine (awake13 _).mono ?_
  rintro e w1 ⟨rfl, b1⟩
  have z0 : w1.cell? ⟨w.heap.size, 0, none⟩ = some (.int .i64 s1a) := (b1.cell (p := ⟨w.heap.size, 0, none⟩) (by simp)).trans (by first | rfl | simp)
  have z1 : w1.cell? ⟨w.heap.size, 1, none⟩ = some (.int .i64 s1b) := (b1.cell (p := ⟨w.heap.size, 1, none⟩) (by simp)).trans (by first | rfl | simp)
  have z2 : w1.cell? ⟨w.heap.size, 2, none⟩ = some (.int .i64 s1c) := (b1.cell (p := ⟨w.heap.size, 2, none⟩) (by simp)).trans (by first | rfl | simp)
  have z3 : w1.cell? ⟨w.heap.size, 3, none⟩ = some (.int .i64 s1d) := (b1.cell (p := ⟨w.heap.size, 3, none⟩) (by simp)).trans (by first | rfl | simp)
  have z4 : w1.cell? ⟨w.heap.size, 4, none⟩ = some (.int .i64 s1e) := (b1.cell (p := ⟨w.heap.size, 4, none⟩) (by simp)).trans (by first | rfl | simp)
  have z5 : w1.cell? ⟨w.heap.size, 5, none⟩ = some (.int .i64 s1f) := (b1.cell (p := ⟨w.heap.size, 5, none⟩) (by simp)).trans (by first | rfl | simp)
  have bw : Below w.heap.size w w1 := ((Below.refl _ _).alloc (Nat.le_refl _) _).trans (b1.mono (by simp))
  have hs : w.heap.size < w1.heap.size := Nat.lt_of_lt_of_le (by simp) b1.size
  clear b1
  go_wp2_with (at_make; refine wpList_make_full _ rfl _ _ 67 rfl w1.heap.size 4 i0 (.bool false) 1 Try.underlying67 hi hz0 hz1 .i64 .i64 _ _ N rfl rfl rfl rfl (by rw [hz2]; omega) (by unfold maxLen; omega) (Nat.le_refl _) ?_; intro w3 hown hgrow; have HW := Lib.hid hown; have hbG := (Below.refl w1.heap.size w1).grown hgrow (Nat.le_refl _) (fun k hk => by cases hk); clear hown hgrow)
  have hM : Hid (Met k w1.heap.size [] w3) := by
    have h1 := HW.out
    rw [Nat.mul_one] at h1
    rw [show (Value.bool false).cells = #[Value.bool false] from rfl, toList_madeCells_one, ← hN.out] at h1
    exact met_made h1
  clear HW
  go_loopw [9] (fun v9 wr => ∃ i : Nat, i ≤ k + 1 ∧ v9 = .int .i64 i ∧ Hid (Met k w1.heap.size (before k i) wr) ∧ Below w1.heap.size w1 wr) (fun v9 _ => k + 1 - (intOf v9).toNat)
  case atStart => exact ⟨0, by omega, rfl, hM.out, hbG⟩
  case round =>
    clear hM hbG
    obtain ⟨i, hi, rfl, hM, hb⟩ := hrel
    have hsz := hb.size
    by_cases hlt : i < k + 1
    · have hik : i ≤ k := by omega
      obtain ⟨rs, hrs⟩ : ∃ rs, Hid (ringL i = rs) := ⟨_, rfl⟩
      have hlen : Hid (rs.length ≤ 32768) := by show _ ≤ _; rw [← hrs.out]; exact ring_len (by omega)
      go_wp2_with fail
      refine (goRing_any (z := (i : Int)) rfl (by omega) hrs.out).mono ?_
      rintro e w4 ⟨AR, NR, cR, rfl, rR, b4⟩
      have hM4 : Hid (Met k w1.heap.size (before k i) w4) := hM.out.below b4
      have hb4 : Below w1.heap.size w1 w4 := hb.trans (b4.mono hsz)
      have hNR : NR ≤ 32768 := by have := rR.1; have := hlen.out; omega
      have HRN := Lib.hid rR.1
      clear b4 hb hM hsz
      go_wp2_with fail
      go_loopw [49] (fun v49 wr => ∃ j : Nat, j ≤ NR ∧ v49 = .int .i64 j ∧ Hid (Met k w1.heap.size (before k i ++ (rs.take j).map (place k)) wr) ∧ Rd two 2 wr AR NR rs ∧ Below w1.heap.size w1 wr) (fun v49 _ => NR - (intOf v49).toNat)
      case atStart => exact ⟨0, Nat.zero_le _, rfl, by show Met _ _ _ _; simpa using hM4.out, rR, hb4⟩
      case round =>
        clear hM4 rR hb4
        obtain ⟨j, hj, rfl, hM, rR, hb⟩ := hrel
        have hsz := hb.size
        by_cases hlj : j < NR
        · obtain ⟨x, y, b, off, hA, hx, hd0, hd1⟩ := rR.at2 hlj
          subst hA
          have hmem : (x, y) ∈ ringL i := by rw [hrs.out]; exact mem_of_at hx.out
          have hfar := Lib.hid (ring_far (by omega) hmem)
          obtain ⟨x0, x1, y0, y1⟩ := far_bd hfar.out
          have x0 : -(i : Int) ≤ x := x0
          have x1 : x ≤ (i : Int) := x1
          have y0 : -(i : Int) ≤ y := y0
          have y1 : y ≤ (i : Int) := y1
          obtain ⟨a0', a1', hpl, hpN⟩ := place_int (k := k) (c := (x, y)) (by show -(k : Int) ≤ x; omega) (by show x ≤ (k : Int); omega) (by show -(k : Int) ≤ y; omega) (by show y ≤ (k : Int); omega)
          have hnew := Lib.hid (place_new hk12 hik (by rw [hrs.out]; exact hx.out))
          rw [hrs.out] at hnew
          have htk := Lib.hid (take_succ_of hx.out)
          obtain ⟨p, hp⟩ : ∃ p, Hid (place k (x, y) = p) := ⟨_, rfl⟩
          rw [hp.out] at hpl hpN hnew
          have hpN' : p < N := by rw [← hN.out]; exact hpN
          obtain ⟨PR, hPR⟩ := Int.eq_ofNat_of_zero_le a0'
          replace hPR : (x + (k : Int)) * (2 * (k : Int) + 1) = (PR : Int) := hPR
          replace hpl : (p : Int) = (x + (k : Int)) * (2 * (k : Int) + 1) + y + k := hpl
          rw [hPR] at hpl
          have hidx : (PR : Int) + y + (k : Int) = (p : Int) := hpl.symm
          have hPRb : (PR : Int) ≤ 4096 := by omega
          have hne : b ≠ w1.heap.size := met_ne hM.out hd0
          clear a0' a1' hpl hmem
          go_wp2_with fail
          refine (refFar_is (by omega) (by omega) (by omega) (by omega) hfar.out).mono ?_
          rintro e w5 ⟨rfl, b5⟩
          have c0 : w5.cell? ⟨wr.heap.size, 0, none⟩ = some (.int .i64 x) := (b5.cell (p := ⟨wr.heap.size, 0, none⟩) (by simp)).trans (by first | rfl | simp)
          have c1 : w5.cell? ⟨wr.heap.size, 1, none⟩ = some (.int .i64 y) := (b5.cell (p := ⟨wr.heap.size, 1, none⟩) (by simp)).trans (by first | rfl | simp)
          have hM5 : Hid (Met k w1.heap.size (before k i ++ (rs.take j).map (place k)) w5) := (hM.out.alloc _).below b5
          have rR5 : Rd two 2 w5 (some ⟨b, off, none⟩) NR rs := (rR.alloc _).below b5 (Nat.le_refl _)
          have hb5 : Below w1.heap.size w1 w5 := (hb.alloc hsz _).trans (b5.mono (by simp; omega))
          have m0 : w5.cell? ⟨w1.heap.size, p, none⟩ = some (.bool false) := by rw [hM5.out.cell (by rw [hN.out]; exact hpN'), decide_eq_false hnew.out]
          have m1 : w5.frozen? ⟨w1.heap.size, p, none⟩ = false := hM5.out.free p
          have hMp : Hid (Met k w1.heap.size (before k i ++ (rs.take (j + 1)).map (place k)) (w5.setCell ⟨w1.heap.size, p, none⟩ (.bool true))) := by
            show Met _ _ _ _
            rw [htk.out, List.map_append, ← List.append_assoc]
            have := hM5.out.put (p := p) (by rw [hN.out]; exact hpN')
            rw [show List.map (place k) [(x, y)] = [p] by rw [← hp.out]; rfl]
            exact this
          have rRp : Rd two 2 (w5.setCell ⟨w1.heap.size, p, none⟩ (.bool true)) (some ⟨b, off, none⟩) NR rs := rR5.far _ _ (fun b' off' he => by
            injection he with he; injection he with he; rw [← he]; exact hne)
          have hbp : Below w1.heap.size w1 (w5.setCell ⟨w1.heap.size, p, none⟩ (.bool true)) := hb5.setCell (p := ⟨w1.heap.size, p, none⟩) (Nat.le_refl _) _
          clear b5 hM5 rR5 hb5 hM rR hb hd0 hd1
          go_wp2
          go_roundw
          case rel => exact ⟨j + 1, by omega, by go_num, hMp.out, rRp, hbp⟩
          case measure => simp [intOf]; omega
        · have hjn : j = NR := by omega
          have hMe : Hid (Met k w1.heap.size (before k (i + 1)) wr) := by
            show Met _ _ _ _
            have := hM.out
            rw [hjn, HRN.out, List.take_length, ← hrs.out] at this
            exact this
          go_wp2_with fail
          go_roundw
          case rel => exact ⟨i + 1, by omega, by go_num, hMe.out, hb⟩
          case measure => simp [intOf]; omega
    · have hik : i = k + 1 := by omega
      rw [hik] at hM
      have z0 := (hb.cell (p := ⟨w.heap.size, 0, none⟩) hs).trans z0
      clear hlt hi
      go_wp2_with fail
      go_loopw [93] (fun v93 wr => ∃ j : Nat, j ≤ N ∧ v93 = .int .i64 j ∧ Hid (Met k w1.heap.size (before k (k + 1)) wr) ∧ Below w1.heap.size w1 wr) (fun v93 _ => N - (intOf v93).toNat)
      case atStart => exact ⟨0, Nat.zero_le _, rfl, hM.out, hb⟩
      case round =>
        clear hM hb z0
        obtain ⟨j, hj, rfl, hM, hb⟩ := hrel
        have hsz := hb.size
        by_cases hlj : j < N
        · have m0 : wr.cell? ⟨w1.heap.size, j, none⟩ = some (.bool true) := by rw [hM.out.cell (by rw [hN.out]; exact hlj), decide_eq_true (before_all hk12 (by rw [hN.out]; exact hlj))]
          go_wp2
          go_roundw
          case rel => exact ⟨j + 1, by omega, by go_num, hM.out, hb⟩
          case measure => simp [intOf]; omega
        · obtain ⟨rt, hrt⟩ := root_ex a2
          have z0' := (hb.cell (p := ⟨w.heap.size, 0, none⟩) hs).trans z0
          have z1' := (hb.cell (p := ⟨w.heap.size, 1, none⟩) hs).trans z1
          have z2' := (hb.cell (p := ⟨w.heap.size, 2, none⟩) hs).trans z2
          have z3' := (hb.cell (p := ⟨w.heap.size, 3, none⟩) hs).trans z3
          have z4' := (hb.cell (p := ⟨w.heap.size, 4, none⟩) hs).trans z4
          have z5' := (hb.cell (p := ⟨w.heap.size, 5, none⟩) hs).trans z5
          have HRT := Lib.hid hrt
          have bwr : Below w.heap.size w wr := bw.trans (hb.mono (by omega))
          have hswr : w.heap.size < wr.heap.size := by omega
          clear z0 z1 z2 z3 z4 z5 hrt hM hb bw hS hk
          by_cases hpos : 0 < a2
          · obtain ⟨r1, rb, q1, q2⟩ := root_facts hpos a2b HRT.out
            have dq1 : decide (a2 / rt < rt) = false := decide_eq_false (by omega)
            have dq2 : decide (rt + 1 ≤ a2 / (rt + 1)) = false := decide_eq_false q2
            go_wp2_with fail
            refine (goRoot _ _ _ a2b HRT.out).mono ?_
            rintro e w6 ⟨rfl, rfl⟩
            go_wp2_with fail
            go_cut [17, 18, 19] (fun p1 p2 p3 wx => ∃ B1 B2 B3 : Nat, p1 = .pointer (some ⟨B1, 0, none⟩) ∧ p2 = .pointer (some ⟨B2, 0, none⟩) ∧ p3 = .pointer (some ⟨B3, 0, none⟩) ∧ wx.cell? ⟨B1, 0, none⟩ = some (.int .i64 s1a) ∧ wx.cell? ⟨B1, 1, none⟩ = some (.int .i64 s1b) ∧ wx.cell? ⟨B2, 0, none⟩ = some (.int .i64 s1c) ∧ wx.cell? ⟨B2, 1, none⟩ = some (.int .i64 s1d) ∧ wx.cell? ⟨B3, 0, none⟩ = some (.int .i64 s1e) ∧ wx.cell? ⟨B3, 1, none⟩ = some (.int .i64 s1f) ∧ Below wr.heap.size wr wx)
            case first =>
              go_region_held3 (fun w' => w'.cell? ⟨w.heap.size, 0, none⟩ = some (.int .i64 s1a) ∧ w'.cell? ⟨w.heap.size, 1, none⟩ = some (.int .i64 s1b) ∧ w'.cell? ⟨w.heap.size, 2, none⟩ = some (.int .i64 s1c) ∧ w'.cell? ⟨w.heap.size, 3, none⟩ = some (.int .i64 s1d) ∧ w'.cell? ⟨w.heap.size, 4, none⟩ = some (.int .i64 s1e) ∧ w'.cell? ⟨w.heap.size, 5, none⟩ = some (.int .i64 s1f)) 
                ((refine ⟨?_, ?_, ?_, ?_, ?_, ?_⟩ <;> (refine keep_at (w := wr) ?_ (by assumption); repeat (first | exact Below.refl _ _ | refine Below.drew ?_ | refine Below.alloc ?_ (by first | (simp; done) | (simp; omega)) _ | refine Below.setCell ?_ (by first | (simp; done) | (simp; omega)) _))))
                (fail)
              all_goals
                go_wp2
                go_meet
                case rel => exact ⟨_, _, _, rfl, rfl, rfl, (by first | rfl | (simp; done) | (go_simp; done)), (by first | rfl | (simp; done) | (go_simp; done)), (by first | rfl | (simp; done) | (go_simp; done)), (by first | rfl | (simp; done) | (go_simp; done)), (by first | rfl | (simp; done) | (go_simp; done)), (by first | rfl | (simp; done) | (go_simp; done)), (by repeat (first | exact Below.refl _ _ | refine Below.drew ?_ | refine Below.alloc ?_ (by first | (simp; done) | (simp; omega)) _ | refine Below.setCell ?_ (by first | (simp; done) | (simp; omega)) _))⟩
            case rest =>
              obtain ⟨B1, B2, B3, rfl, rfl, rfl, k0, k1, k2, k3, k4, k5, hbc⟩ := hcut
              have hszc := hbc.size
              have bwc : Below w.heap.size w wc := bwr.trans (hbc.mono (by omega))
              obtain ⟨q, hq⟩ : ∃ q, Hid (sqr s1a s1b s1c s1d = q) := ⟨_, rfl⟩
              obtain ⟨sd, hsd⟩ : ∃ q, Hid (sid s1a s1b s1c s1d s1e s1f = q) := ⟨_, rfl⟩
              have hsdb := sid_bd s1a s1b s1c s1d s1e s1f
              rw [hsd.out] at hsdb
              obtain ⟨sd0, sd1⟩ := hsdb
              have hq2 : Hid (sqr s1c s1d s1a s1b = q) := (sqr_turn s1a s1b s1c s1d).trans hq.out
              have hsd2 : sid s1c s1d s1a s1b s1e s1f = -sd := by rw [sid_turn, hsd.out]
              have hsd3 : sid s1a s1b s1c s1d s1a s1b = 0 := sid_back _ _ _ _
              have hsd1 : sid s1a s1b s1c s1d s1e s1f = sd := hsd.out
              obtain ⟨SD, hSD⟩ : ∃ SD : Int → Int → Int → Int → Int → Int → Int, Hid (∀ a b c d e f, sid a b c d e f = SD a b c d e f) := ⟨_, fun _ _ _ _ _ _ => rfl⟩
              rw [hSD.out] at hsd1 hsd2 hsd3
              go_wp2_with fail
              refine (goSqr_is hq.out).mono ?_
              rintro e wd ⟨rfl, hbd⟩
              have k0 := (hbd.cell (p := ⟨B1, 0, none⟩) (lt_of_cell k0)).trans k0
              have k1 := (hbd.cell (p := ⟨B1, 1, none⟩) (lt_of_cell k1)).trans k1
              have k2 := (hbd.cell (p := ⟨B2, 0, none⟩) (lt_of_cell k2)).trans k2
              have k3 := (hbd.cell (p := ⟨B2, 1, none⟩) (lt_of_cell k3)).trans k3
              have k4 := (hbd.cell (p := ⟨B3, 0, none⟩) (lt_of_cell k4)).trans k4
              have k5 := (hbd.cell (p := ⟨B3, 1, none⟩) (lt_of_cell k5)).trans k5
              have hszd := hbd.size
              have bwd : Below w.heap.size w wd := bwc.trans (hbd.mono (by omega))
              have j0 : ∀ t : Later wd, t.w.cell? ⟨B1, 0, none⟩ = some (.int .i64 s1a) := fun t => Later.cell k0 t
              have j1 : ∀ t : Later wd, t.w.cell? ⟨B1, 1, none⟩ = some (.int .i64 s1b) := fun t => Later.cell k1 t
              have j2 : ∀ t : Later wd, t.w.cell? ⟨B2, 0, none⟩ = some (.int .i64 s1c) := fun t => Later.cell k2 t
              have j3 : ∀ t : Later wd, t.w.cell? ⟨B2, 1, none⟩ = some (.int .i64 s1d) := fun t => Later.cell k3 t
              have j4 : ∀ t : Later wd, t.w.cell? ⟨B3, 0, none⟩ = some (.int .i64 s1e) := fun t => Later.cell k4 t
              have j5 : ∀ t : Later wd, t.w.cell? ⟨B3, 1, none⟩ = some (.int .i64 s1f) := fun t => Later.cell k5 t
              go_wp2_with fail
              refine wp_region_later (by kernel_rfl) (by kernel_rfl) ?_
              repeat (go_big_quiet_step (first
                | (go_at_call 41; exact calls_later (goSqr_is hq2.out))
                | (go_at_call 43; exact calls_later (goSid_is (hSD.out _ _ _ _ _ _)))))
              refine wpQuiet_nil ?_
              rintro we ⟨t, rfl⟩
              have hbe := t.below
              have i0' := j0 t
              have i1' := j1 t
              have i2' := j2 t
              have i3' := j3 t
              generalize t.w = we at hbe i0' i1' i2' i3' ⊢
              clear j0 j1 j2 j3 j4 j5 t k0 k1 k2 k3 k4 k5
              have bwe : Below w.heap.size w we := bwd.trans (hbe.mono (by omega))
              rcases hA : plc s1a s1b with _ | _
              · have HA := Lib.hid hA
                obtain rfl : q = 0 := by rw [← hq.out]; exact sqr_none (.inl hA)
                clear hA
                go_wp2_with fail
                refine (goPlc_is HA.out).mono ?_
                rintro e wf ⟨rfl, rfl⟩
                go_wp2_with fail
                go_ret
                exact ⟨rfl, bwe⟩
              · rcases hB : plc s1c s1d with _ | _
                · have HA := Lib.hid hA
                  have HB := Lib.hid hB
                  obtain rfl : q = 0 := by rw [← hq.out]; exact sqr_none (.inr hB)
                  clear hA hB
                  obtain ⟨PL, hPL⟩ : ∃ PL : Int → Int → Bool, Hid (∀ a b, plc a b = PL a b) := ⟨_, fun _ _ => rfl⟩
                  have hA' : PL s1a s1b = true := by rw [← hPL.out]; exact HA.out
                  have hB' := HB.out
                  rw [hPL.out] at hB'
                  go_wp2_with (go_at_call 39; refine (goPlc_is (hPL.out _ _)).mono ?_; rintro e wf ⟨rfl, rfl⟩)
                  go_ret
                  exact ⟨rfl, bwe⟩
                · have HA := Lib.hid hA
                  have HB := Lib.hid hB
                  obtain ⟨X0, X1, Y0, Y1, P0, P1, P2, P3⟩ := both_facts hA hB
                  rw [hq.out] at P0 P1 P2 P3
                  obtain ⟨a0_, a1_, b0_, b1_⟩ := plc_iff.1 hA
                  obtain ⟨c0_, c1_, d0_, d1_⟩ := plc_iff.1 hB
                  obtain ⟨X, hX⟩ : ∃ X, max (s1a - s1c) (s1c - s1a) = X := ⟨_, rfl⟩
                  obtain ⟨Y, hY⟩ : ∃ Y, max (s1b - s1d) (s1d - s1b) = Y := ⟨_, rfl⟩
                  rw [hX] at X0 X1 P0 P1
                  rw [hY] at Y0 Y1 P0 P1
                  have dA : decide (q ≤ (X + Y) * (X + Y)) = true := decide_eq_true P0
                  have dB : decide ((X + Y) * (X + Y) ≤ 2 * q) = true := decide_eq_true P1
                  clear hA hB
                  obtain ⟨PL, hPL⟩ : ∃ PL : Int → Int → Bool, Hid (∀ a b, plc a b = PL a b) := ⟨_, fun _ _ => rfl⟩
                  have hA' : PL s1a s1b = true := by rw [← hPL.out]; exact HA.out
                  have hB' := HB.out
                  rw [hPL.out] at hB'
                  go_wp2_with (go_at_call 39; refine (goPlc_is (hPL.out _ _)).mono ?_; rintro e wf ⟨rfl, rfl⟩)
                  go_ret
                  exact ⟨ret_bool (by first | rfl | (simp; done) | (simp; omega)), bwe⟩
          · obtain rfl : rt = 0 := by
              rcases HRT.out with h | h
              · exact h.2
              · exact absurd h.1 hpos
            go_wp2_with fail
            refine (goRoot _ _ _ a2b HRT.out).mono ?_
            rintro e w6 ⟨rfl, rfl⟩
            go_wp2_with fail
            go_cut [17, 18, 19] (fun p1 p2 p3 wx => ∃ B1 B2 B3 : Nat, p1 = .pointer (some ⟨B1, 0, none⟩) ∧ p2 = .pointer (some ⟨B2, 0, none⟩) ∧ p3 = .pointer (some ⟨B3, 0, none⟩) ∧ wx.cell? ⟨B1, 0, none⟩ = some (.int .i64 s1a) ∧ wx.cell? ⟨B1, 1, none⟩ = some (.int .i64 s1b) ∧ wx.cell? ⟨B2, 0, none⟩ = some (.int .i64 s1c) ∧ wx.cell? ⟨B2, 1, none⟩ = some (.int .i64 s1d) ∧ wx.cell? ⟨B3, 0, none⟩ = some (.int .i64 s1e) ∧ wx.cell? ⟨B3, 1, none⟩ = some (.int .i64 s1f) ∧ Below wr.heap.size wr wx)
            case first =>
              go_region_held3 (fun w' => w'.cell? ⟨w.heap.size, 0, none⟩ = some (.int .i64 s1a) ∧ w'.cell? ⟨w.heap.size, 1, none⟩ = some (.int .i64 s1b) ∧ w'.cell? ⟨w.heap.size, 2, none⟩ = some (.int .i64 s1c) ∧ w'.cell? ⟨w.heap.size, 3, none⟩ = some (.int .i64 s1d) ∧ w'.cell? ⟨w.heap.size, 4, none⟩ = some (.int .i64 s1e) ∧ w'.cell? ⟨w.heap.size, 5, none⟩ = some (.int .i64 s1f)) 
                ((refine ⟨?_, ?_, ?_, ?_, ?_, ?_⟩ <;> (refine keep_at (w := wr) ?_ (by assumption); repeat (first | exact Below.refl _ _ | refine Below.drew ?_ | refine Below.alloc ?_ (by first | (simp; done) | (simp; omega)) _ | refine Below.setCell ?_ (by first | (simp; done) | (simp; omega)) _))))
                (fail)
              all_goals
                go_wp2
                go_meet
                case rel => exact ⟨_, _, _, rfl, rfl, rfl, (by first | rfl | (simp; done) | (go_simp; done)), (by first | rfl | (simp; done) | (go_simp; done)), (by first | rfl | (simp; done) | (go_simp; done)), (by first | rfl | (simp; done) | (go_simp; done)), (by first | rfl | (simp; done) | (go_simp; done)), (by first | rfl | (simp; done) | (go_simp; done)), (by repeat (first | exact Below.refl _ _ | refine Below.drew ?_ | refine Below.alloc ?_ (by first | (simp; done) | (simp; omega)) _ | refine Below.setCell ?_ (by first | (simp; done) | (simp; omega)) _))⟩
            case rest =>
              obtain ⟨B1, B2, B3, rfl, rfl, rfl, k0, k1, k2, k3, k4, k5, hbc⟩ := hcut
              have hszc := hbc.size
              have bwc : Below w.heap.size w wc := bwr.trans (hbc.mono (by omega))
              obtain ⟨q, hq⟩ : ∃ q, Hid (sqr s1a s1b s1c s1d = q) := ⟨_, rfl⟩
              obtain ⟨sd, hsd⟩ : ∃ q, Hid (sid s1a s1b s1c s1d s1e s1f = q) := ⟨_, rfl⟩
              have hsdb := sid_bd s1a s1b s1c s1d s1e s1f
              rw [hsd.out] at hsdb
              obtain ⟨sd0, sd1⟩ := hsdb
              have hq2 : Hid (sqr s1c s1d s1a s1b = q) := (sqr_turn s1a s1b s1c s1d).trans hq.out
              have hsd2 : sid s1c s1d s1a s1b s1e s1f = -sd := by rw [sid_turn, hsd.out]
              have hsd3 : sid s1a s1b s1c s1d s1a s1b = 0 := sid_back _ _ _ _
              have hsd1 : sid s1a s1b s1c s1d s1e s1f = sd := hsd.out
              obtain ⟨SD, hSD⟩ : ∃ SD : Int → Int → Int → Int → Int → Int → Int, Hid (∀ a b c d e f, sid a b c d e f = SD a b c d e f) := ⟨_, fun _ _ _ _ _ _ => rfl⟩
              rw [hSD.out] at hsd1 hsd2 hsd3
              go_wp2_with fail
              refine (goSqr_is hq.out).mono ?_
              rintro e wd ⟨rfl, hbd⟩
              have k0 := (hbd.cell (p := ⟨B1, 0, none⟩) (lt_of_cell k0)).trans k0
              have k1 := (hbd.cell (p := ⟨B1, 1, none⟩) (lt_of_cell k1)).trans k1
              have k2 := (hbd.cell (p := ⟨B2, 0, none⟩) (lt_of_cell k2)).trans k2
              have k3 := (hbd.cell (p := ⟨B2, 1, none⟩) (lt_of_cell k3)).trans k3
              have k4 := (hbd.cell (p := ⟨B3, 0, none⟩) (lt_of_cell k4)).trans k4
              have k5 := (hbd.cell (p := ⟨B3, 1, none⟩) (lt_of_cell k5)).trans k5
              have hszd := hbd.size
              have bwd : Below w.heap.size w wd := bwc.trans (hbd.mono (by omega))
              have j0 : ∀ t : Later wd, t.w.cell? ⟨B1, 0, none⟩ = some (.int .i64 s1a) := fun t => Later.cell k0 t
              have j1 : ∀ t : Later wd, t.w.cell? ⟨B1, 1, none⟩ = some (.int .i64 s1b) := fun t => Later.cell k1 t
              have j2 : ∀ t : Later wd, t.w.cell? ⟨B2, 0, none⟩ = some (.int .i64 s1c) := fun t => Later.cell k2 t
              have j3 : ∀ t : Later wd, t.w.cell? ⟨B2, 1, none⟩ = some (.int .i64 s1d) := fun t => Later.cell k3 t
              have j4 : ∀ t : Later wd, t.w.cell? ⟨B3, 0, none⟩ = some (.int .i64 s1e) := fun t => Later.cell k4 t
              have j5 : ∀ t : Later wd, t.w.cell? ⟨B3, 1, none⟩ = some (.int .i64 s1f) := fun t => Later.cell k5 t
              go_wp2_with fail
              refine wp_region_later (by kernel_rfl) (by kernel_rfl) ?_
              repeat (go_big_quiet_step (first
                | (go_at_call 41; exact calls_later (goSqr_is hq2.out))
                | (go_at_call 43; exact calls_later (goSid_is (hSD.out _ _ _ _ _ _)))))
              refine wpQuiet_nil ?_
              rintro we ⟨t, rfl⟩
              have hbe := t.below
              have i0' := j0 t
              have i1' := j1 t
              have i2' := j2 t
              have i3' := j3 t
              generalize t.w = we at hbe i0' i1' i2' i3' ⊢
              clear j0 j1 j2 j3 j4 j5 t k0 k1 k2 k3 k4 k5
              have bwe : Below w.heap.size w we := bwd.trans (hbe.mono (by omega))
              rcases hA : plc s1a s1b with _ | _
              · have HA := Lib.hid hA
                obtain rfl : q = 0 := by rw [← hq.out]; exact sqr_none (.inl hA)
                clear hA
                go_wp2_with fail
                refine (goPlc_is HA.out).mono ?_
                rintro e wf ⟨rfl, rfl⟩
                go_wp2_with fail
                go_ret
                exact ⟨rfl, bwe⟩
              · rcases hB : plc s1c s1d with _ | _
                · have HA := Lib.hid hA
                  have HB := Lib.hid hB
                  obtain rfl : q = 0 := by rw [← hq.out]; exact sqr_none (.inr hB)
                  clear hA hB
                  obtain ⟨PL, hPL⟩ : ∃ PL : Int → Int → Bool, Hid (∀ a b, plc a b = PL a b) := ⟨_, fun _ _ => rfl⟩
                  have hA' : PL s1a s1b = true := by rw [← hPL.out]; exact HA.out
                  have hB' := HB.out
                  rw [hPL.out] at hB'
                  go_wp2_with (go_at_call 39; refine (goPlc_is (hPL.out _ _)).mono ?_; rintro e wf ⟨rfl, rfl⟩)
                  go_ret
                  exact ⟨rfl, bwe⟩
                · have HA := Lib.hid hA
                  have HB := Lib.hid hB
                  obtain ⟨X0, X1, Y0, Y1, P0, P1, P2, P3⟩ := both_facts hA hB
                  rw [hq.out] at P0 P1 P2 P3
                  obtain ⟨a0_, a1_, b0_, b1_⟩ := plc_iff.1 hA
                  obtain ⟨c0_, c1_, d0_, d1_⟩ := plc_iff.1 hB
                  obtain ⟨X, hX⟩ : ∃ X, max (s1a - s1c) (s1c - s1a) = X := ⟨_, rfl⟩
                  obtain ⟨Y, hY⟩ : ∃ Y, max (s1b - s1d) (s1d - s1b) = Y := ⟨_, rfl⟩
                  rw [hX] at X0 X1 P0 P1
                  rw [hY] at Y0 Y1 P0 P1
                  have dA : decide (q ≤ (X + Y) * (X + Y)) = true := decide_eq_true P0
                  have dB : decide ((X + Y) * (X + Y) ≤ 2 * q) = true := decide_eq_true P1
                  clear hA hB
                  obtain ⟨PL, hPL⟩ : ∃ PL : Int → Int → Bool, Hid (∀ a b, plc a b = PL a b) := ⟨_, fun _ _ => rfl⟩
                  have hA' : PL s1a s1b = true := by rw [← hPL.out]; exact HA.out
                  have hB' := HB.out
                  rw [hPL.out] at hB'
                  go_wp2_with (go_at_call 39; refine (goPlc_is (hPL.out _ _)).mono ?_; rintro e wf ⟨rfl, rfl⟩)
                  go_ret
                  exact ⟨ret_bool (by first | rfl | (simp; done) | (simp; omega)), bwe⟩
end Go.Proofs.Ytgaonfeljijebaa.geoFitsWalk
