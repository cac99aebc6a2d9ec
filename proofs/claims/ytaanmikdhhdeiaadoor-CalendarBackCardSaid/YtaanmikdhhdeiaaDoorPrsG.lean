/-
  calendar.Parse: what a text is read as. Condition (Tab): the variable calendar.days reads as its text says.
-/
import Derived.Test.YtaanmikdhhdeiaaDoorPrsP
import Derived.Test.YtaanmikdhhdeiaaDoorCalK
import Derived.StillTailTactics
namespace Go.Proofs.YtaanmikdhhdeiaaDoor
open Go.ChangeShapes Go.WideShapes Go.ChangeAt Go.RowKit
set_option linter.unusedVariables false

/-- What a text is read as: its date and no error, or none and why. -/
def IsRead (s : ByteArray) (y m d e : Int) : Prop :=
  (¬ Good s ∧ y = 0 ∧ m = 0 ∧ d = 0 ∧ e = 11) ∨ (Good s ∧ ¬ Vld (pY s 10) (pM s 10) (pD s 10) ∧ y = 0 ∧ m = 0 ∧ d = 0 ∧ e = 2) ∨ (Good s ∧ Vld (pY s 10) (pM s 10) (pD s 10) ∧ y = pY s 10 ∧ m = pM s 10 ∧ d = pD s 10 ∧ e = 0)
def Reads (s : ByteArray) (w : World) (e : Ending) (w' : World) : Prop := ∃ y m d c : Int, e = .returned (.tuple #[.agg #[.int .i64 y, .int .i64 m, .int .i64 d], .int .i64 c]) ∧ IsRead s y m d c ∧ Below w.heap.size w w'
theorem reads_bad {s : ByteArray} {w w' : World} (h : ¬ Good s) (hb : Below w.heap.size w w') : Reads s w (.returned (.tuple #[.agg #[.int .i64 0, .int .i64 0, .int .i64 0], .int .i64 11])) w' := ⟨0, 0, 0, 11, rfl, .inl ⟨h, rfl, rfl, rfl, rfl⟩, hb⟩
theorem reads_none {s : ByteArray} {w w' : World} (h : Good s) (hv : ¬ Vld (pY s 10) (pM s 10) (pD s 10)) (hb : Below w.heap.size w w') : Reads s w (.returned (.tuple #[.agg #[.int .i64 0, .int .i64 0, .int .i64 0], .int .i64 2])) w' := ⟨0, 0, 0, 2, rfl, .inr (.inl ⟨h, hv, rfl, rfl, rfl, rfl⟩), hb⟩
theorem reads_date {s : ByteArray} {w w' : World} (h : Good s) (hv : Vld (pY s 10) (pM s 10) (pD s 10)) (hb : Below w.heap.size w w') : Reads s w (.returned (.tuple #[.agg #[.int .i64 (pY s 10), .int .i64 (pM s 10), .int .i64 (pD s 10)], .int .i64 0])) w' := ⟨_, _, _, 0, rfl, .inr (.inr ⟨h, hv, rfl, rfl, rfl, rfl⟩), hb⟩
/-- Which number byte k belongs to. -/
def plI (k : Nat) : Int := (place k : Nat)
theorem pl_0 {k : Nat} (h : k < 5) : plI k = 0 := by unfold plI place; rw [if_pos h]; rfl
theorem pl_1 {k : Nat} (h : 5 ≤ k) (h' : k < 8) : plI k = 1 := by unfold plI place; rw [if_neg (by omega), if_pos h']; rfl
theorem pl_2 {k : Nat} (h : 8 ≤ k) : plI k = 2 := by unfold plI place; rw [if_neg (by omega), if_neg (by omega)]; rfl
/-- The numbers, as far as the first k bytes tell them. -/
def Nums (s : ByteArray) (k : Nat) (a b c : Int) : Prop := a = pY s k ∧ b = pM s k ∧ c = pD s k
theorem nums_dash {s : ByteArray} {k : Nat} {a b c : Int} (h : Nums s k a b c) (hk : k = 4 ∨ k = 7) : Nums s (k + 1) a b c :=
  ⟨h.1.trans (pN_out (by omega)).symm, h.2.1.trans (pN_out (by omega)).symm, h.2.2.trans (pN_out (by omega)).symm⟩
theorem nums_0 {s : ByteArray} {k : Nat} {a b c : Int} (h : Nums s k a b c) (hk : k < 4) : Nums s (k + 1) (10 * a + (bt s k - 48)) b c :=
  ⟨by rw [h.1]; exact (pN_in (by omega) hk).symm, h.2.1.trans (pN_out (by omega)).symm, h.2.2.trans (pN_out (by omega)).symm⟩
theorem nums_1 {s : ByteArray} {k : Nat} {a b c : Int} (h : Nums s k a b c) (hk : 4 < k) (hk' : k < 7) : Nums s (k + 1) a (10 * b + (bt s k - 48)) c :=
  ⟨h.1.trans (pN_out (by omega)).symm, by rw [h.2.1]; exact (pN_in (by omega) hk').symm, h.2.2.trans (pN_out (by omega)).symm⟩
theorem nums_2 {s : ByteArray} {k : Nat} {a b c : Int} (h : Nums s k a b c) (hk : 7 < k) (hk' : k < 10) : Nums s (k + 1) a b (10 * c + (bt s k - 48)) :=
  ⟨h.1.trans (pN_out (by omega)).symm, h.2.1.trans (pN_out (by omega)).symm, by rw [h.2.2]; exact (pN_in (by omega) hk').symm⟩
theorem nums_bd {s : ByteArray} {k : Nat} {a b c : Int} (h : Nums s k a b c) (hok : OkTo s k) : 0 ≤ a ∧ a ≤ 9999 ∧ 0 ≤ b ∧ b ≤ 9999 ∧ 0 ≤ c ∧ c ≤ 9999 := by
  have h1 := pY_bd hok
  have h2 := pM_bd hok
  have h3 := pD_bd hok
  rw [h.1, h.2.1, h.2.2]
  omega
theorem u8_in (x : Int) (h : 0 ≤ x ∧ x ≤ 255) : IntKind.u8.wrap x = x := by
  unfold IntKind.wrap
  simp [IntKind.bits, IntKind.signed]
  omega
set_option maxHeartbeats 4000000 in
theorem goParse (s : ByteArray) (w : World) (hT : Tab w) : Calls Tryd.prog 18 #[.string s] w (Reads s w) := by
  have HT := Lib.hid hT
  clear hT
  by_cases hs : s.size = 10
  · have HS := Lib.hid hs
    have h10 : s.size ≤ 10 := by omega
    have h10' : 10 ≤ s.size := by omega
    go_enter Tryd.func18, Tryd.ntmps18
    go_wp2
    go_loopw [5, 17] (fun a i wr => ∃ (k : Nat) (V0 V1 V2 : Int), k ≤ 10 ∧ i = .int .i64 k ∧ a = .int .i64 (plI k) ∧ Hid (OkTo s k) ∧ Hid (Nums s k V0 V1 V2) ∧ Hid (Bk wr w.heap.size 23 #[.int .i64 0, .int .i64 0, .int .i64 0]) ∧ Hid (Bk wr (w.heap.size + 1) 48 #[.int .i64 V0, .int .i64 V1, .int .i64 V2]) ∧ Hid (Below w.heap.size w wr)) (fun _ i _ => 10 - (intOf i).toNat)
    case atStart => exact ⟨0, 0, 0, 0, by omega, rfl, rfl, okTo_zero s, ⟨rfl, rfl, rfl⟩, (Bk.new _ _ _).alloc _, alloc_new2 _ _ _, ((Below.refl _ _).alloc (Nat.le_refl _) _).alloc (by simp) _⟩
    case round =>
      obtain ⟨k, V0, V1, V2, hk, rfl, rfl, hok, hnm, hb0, hb1, hb⟩ := hrel
      have r0 := hb0.out.cell 0
      have r1 := hb0.out.cell 1
      have r2 := hb0.out.cell 2
      have g0 := hb0.out.free 0
      have g1 := hb0.out.free 1
      have g2 := hb0.out.free 2
      have c0 := hb1.out.cell 0
      have c1 := hb1.out.cell 1
      have c2 := hb1.out.cell 2
      have f0 := hb1.out.free 0
      have f1 := hb1.out.free 1
      have f2 := hb1.out.free 2
      have bd := Lib.hid (nums_bd hnm.out hok.out)
      have v00 := bd.out.1
      have v01 := bd.out.2.1
      have v10 := bd.out.2.2.1
      have v11 := bd.out.2.2.2.1
      have v20 := bd.out.2.2.2.2.1
      have v21 := bd.out.2.2.2.2.2
      by_cases hlt : k < 10
      · have ks : k < s.size := by omega
        have BT := Lib.hid (bt_at ks)
        by_cases h4 : k = 4
        · have b4 : ((k : Int) == 4) = true := by simp; omega
          have PL : plI k = 0 := pl_0 (by omega)
          have PN := Lib.hid (pl_0 (k := k) (by omega))
          rw [PL]
          clear PL
          by_cases hd : s[k].toNat = 45
          · have d1 : ((s[k].toNat : Int) == 45) = true := by simp; omega
            have G : Hid (OkTo s (k + 1)) := okTo_succ hok.out ((ok_dash (.inl h4)).2 (by rw [← BT.out]; omega))
            have GN := Lib.hid (nums_dash hnm.out (.inl h4))
            have P1 : Hid (plI (k + 1) = 1) := by show _ = _; subst h4; rfl
            clear h4 hd
            go_wp2
            go_roundw
            case rel => exact ⟨k + 1, V0, V1, V2, by omega, by go_num, by rw [P1.out], G.out, GN.out, hb0, hb1, hb⟩
            case measure => simp [intOf]; omega
          · have d1 : ((s[k].toNat : Int) == 45) = false := by simp; omega
            have G : Hid (¬ Good s) := good_no hlt (fun h => by rw [ok_dash (.inl h4), ← BT.out] at h; omega)
            clear h4 hd
            go_wp2
            exact bodyPost_ret (v := .tuple #[.agg #[.int .i64 0, .int .i64 0, .int .i64 0], .int .i64 11]) (by simp [results, Tryd.results18, go_sem, r0, r1, r2]) rfl (reads_bad G.out (((hb.out.setCell (by simp) _).setCell (by simp) _).setCell (by simp) _))
        · have b4 : ((k : Int) == 4) = false := by simp; omega
          by_cases h7 : k = 7
          · have b7 : ((k : Int) == 7) = true := by simp; omega
            have PL : plI k = 1 := pl_1 (by omega) (by omega)
            rw [PL]
            clear PL
            by_cases hd : s[k].toNat = 45
            · have d1 : ((s[k].toNat : Int) == 45) = true := by simp; omega
              have G : Hid (OkTo s (k + 1)) := okTo_succ hok.out ((ok_dash (.inr h7)).2 (by rw [← BT.out]; omega))
              have GN := Lib.hid (nums_dash hnm.out (.inr h7))
              have P1 : Hid (plI (k + 1) = 2) := by show _ = _; subst h7; rfl
              clear h4 h7 hd
              go_wp2
              go_roundw
              case rel => exact ⟨k + 1, V0, V1, V2, by omega, by go_num, by rw [P1.out], G.out, GN.out, hb0, hb1, hb⟩
              case measure => simp [intOf]; omega
            · have d1 : ((s[k].toNat : Int) == 45) = false := by simp; omega
              have G : Hid (¬ Good s) := good_no hlt (fun h => by rw [ok_dash (.inr h7), ← BT.out] at h; omega)
              clear h4 h7 hd
              go_wp2
              exact bodyPost_ret (v := .tuple #[.agg #[.int .i64 0, .int .i64 0, .int .i64 0], .int .i64 11]) (by simp [results, Tryd.results18, go_sem, r0, r1, r2]) rfl (reads_bad G.out (((hb.out.setCell (by simp) _).setCell (by simp) _).setCell (by simp) _))
          · have b7 : ((k : Int) == 7) = false := by simp; omega
            have ND : Hid (¬(k = 4 ∨ k = 7)) := by show ¬ _; omega
            by_cases h48 : 48 ≤ (s[k].toNat : Int)
            · by_cases h57 : (s[k].toNat : Int) ≤ 57
              · have G : Hid (OkTo s (k + 1)) := okTo_succ hok.out ((ok_digit ND.out).2 (by rw [← BT.out]; omega))
                rcases (show k < 4 ∨ (4 < k ∧ k < 7) ∨ 7 < k by omega) with hc | ⟨hc, hc'⟩ | hc
                · have PL : plI k = 0 := pl_0 (by omega)
                  have GN := Lib.hid (nums_0 hnm.out hc)
                  rw [← BT.out] at GN
                  have P1 : Hid (plI (k + 1) = 0) := pl_0 (by omega)
                  rw [PL]
                  clear PL h4 h7
                  have x1 : IntKind.u8.wrap ((s[k].toNat : Int) - 48) = (s[k].toNat : Int) - 48 := u8_in _ (by omega)
                  have x2 : IntKind.i64.wrap (10 * V0) = 10 * V0 := IntWalk.i64_in _ (by omega)
                  have x3 : IntKind.i64.wrap (10 * V0 + ((s[k].toNat : Int) - 48)) = 10 * V0 + ((s[k].toNat : Int) - 48) := IntWalk.i64_in _ (by omega)
                  go_wp2
                  go_still_tail 12, (by kernel_rfl)
                  clear x1 x2 x3
                  change wpList _ _ _ _ _ wr.drew
                  go_wp2
                  go_roundw
                  case rel => exact ⟨k + 1, _, V1, V2, by omega, by go_num, by rw [P1.out], G.out, GN.out, hb0.out.far (by simp) _, hb1.out.put 0 _, below_dN (hb.out.setCell (p := ⟨w.heap.size + 1, 0, none⟩) (by simp) _) 1⟩
                  case measure => simp [intOf]; omega
                · have PL : plI k = 1 := pl_1 (by omega) (by omega)
                  have GN := Lib.hid (nums_1 hnm.out hc hc')
                  rw [← BT.out] at GN
                  have P1 : Hid (plI (k + 1) = 1) := pl_1 (by omega) (by omega)
                  rw [PL]
                  clear PL h4 h7
                  have x1 : IntKind.u8.wrap ((s[k].toNat : Int) - 48) = (s[k].toNat : Int) - 48 := u8_in _ (by omega)
                  have x2 : IntKind.i64.wrap (10 * V1) = 10 * V1 := IntWalk.i64_in _ (by omega)
                  have x3 : IntKind.i64.wrap (10 * V1 + ((s[k].toNat : Int) - 48)) = 10 * V1 + ((s[k].toNat : Int) - 48) := IntWalk.i64_in _ (by omega)
                  go_wp2
                  go_still_tail 12, (by kernel_rfl)
                  clear x1 x2 x3
                  change wpList _ _ _ _ _ wr.drew
                  go_wp2
                  go_roundw
                  case rel => exact ⟨k + 1, V0, _, V2, by omega, by go_num, by rw [P1.out], G.out, GN.out, hb0.out.far (by simp) _, hb1.out.put 1 _, below_dN (hb.out.setCell (p := ⟨w.heap.size + 1, 1, none⟩) (by simp) _) 1⟩
                  case measure => simp [intOf]; omega
                · have PL : plI k = 2 := pl_2 (by omega)
                  have GN := Lib.hid (nums_2 hnm.out hc hlt)
                  rw [← BT.out] at GN
                  have P1 : Hid (plI (k + 1) = 2) := pl_2 (by omega)
                  rw [PL]
                  clear PL h4 h7
                  have x1 : IntKind.u8.wrap ((s[k].toNat : Int) - 48) = (s[k].toNat : Int) - 48 := u8_in _ (by omega)
                  have x2 : IntKind.i64.wrap (10 * V2) = 10 * V2 := IntWalk.i64_in _ (by omega)
                  have x3 : IntKind.i64.wrap (10 * V2 + ((s[k].toNat : Int) - 48)) = 10 * V2 + ((s[k].toNat : Int) - 48) := IntWalk.i64_in _ (by omega)
                  go_wp2
                  go_still_tail 12, (by kernel_rfl)
                  clear x1 x2 x3
                  change wpList _ _ _ _ _ wr.drew
                  go_wp2
                  go_roundw
                  case rel => exact ⟨k + 1, V0, V1, _, by omega, by go_num, by rw [P1.out], G.out, GN.out, hb0.out.far (by simp) _, hb1.out.put 2 _, below_dN (hb.out.setCell (p := ⟨w.heap.size + 1, 2, none⟩) (by simp) _) 1⟩
                  case measure => simp [intOf]; omega
              · have G : Hid (¬ Good s) := good_no hlt (fun h => by rw [ok_digit ND.out, ← BT.out] at h; omega)
                clear h4 h7
                go_wp2
                exact bodyPost_ret (v := .tuple #[.agg #[.int .i64 0, .int .i64 0, .int .i64 0], .int .i64 11]) (by simp [results, Tryd.results18, go_sem, r0, r1, r2]) rfl (reads_bad G.out (((hb.out.setCell (by simp) _).setCell (by simp) _).setCell (by simp) _))
            · have G : Hid (¬ Good s) := good_no hlt (fun h => by rw [ok_digit ND.out, ← BT.out] at h; omega)
              clear h4 h7
              go_wp2
              exact bodyPost_ret (v := .tuple #[.agg #[.int .i64 0, .int .i64 0, .int .i64 0], .int .i64 11]) (by simp [results, Tryd.results18, go_sem, r0, r1, r2]) rfl (reads_bad G.out (((hb.out.setCell (by simp) _).setCell (by simp) _).setCell (by simp) _))
      · obtain rfl : k = 10 := by omega
        have GD : Hid (Good s) := ⟨HS.out, hok.out⟩
        have HTr := Lib.hid (HT.out.below hb.out HT.out.1)
        have lt1 := hb1.out.lt
        obtain ⟨rfl, rfl, rfl⟩ := hnm.out
        clear hnm bd
        by_cases hv : Vld (pY s 10) (pM s 10) (pD s 10)
        · have HV := Lib.hid hv
          have HD := Lib.hid (vld_date hv)
          clear hv
          go_wp2_with fail
          refine (goDay_yes _ _ _ _ _ (HTr.out.alloc _) HD.out).mono ?_
          rintro e w3 ⟨rfl, hb3⟩
          have hbk := (hb0.out.alloc (.cells #[.int .i64 (pY s 10), .int .i64 (pM s 10), .int .i64 (pD s 10)] 23)).below hb3 (by simp; omega)
          have R0 := hbk.cell 0
          have R1 := hbk.cell 1
          have R2 := hbk.cell 2
          have G0 := hbk.free 0
          have G1 := hbk.free 1
          have G2 := hbk.free 2
          have D0 := (Bk.new wr 23 #[.int .i64 (pY s 10), .int .i64 (pM s 10), .int .i64 (pD s 10)]).below hb3 (by simp)
          have e0 := D0.cell 0
          have e1 := D0.cell 1
          have e2 := D0.cell 2
          have HB3 := Lib.hid ((hb.out.alloc (Nat.le_of_lt (by omega)) (.cells #[.int .i64 (pY s 10), .int .i64 (pM s 10), .int .i64 (pD s 10)] 23)).trans (hb3.mono (by simp; omega)))
          have lt3 := D0.lt
          clear hbk hb3 D0
          go_wp2_with fail
          exact bodyPost_ret (v := .tuple #[.agg #[.int .i64 (pY s 10), .int .i64 (pM s 10), .int .i64 (pD s 10)], .int .i64 0]) (by simp [results, Tryd.results18, go_sem, R0, R1, R2]) rfl (reads_date GD.out HV.out (((HB3.out.setCell (by simp) _).setCell (by simp) _).setCell (by simp) _))
        · have HV := Lib.hid hv
          clear hv
          go_wp2_with fail
          refine (goDay_no _ _ _ _ (HTr.out.alloc _) HV.out).mono ?_
          rintro e w3 ⟨rfl, hb3⟩
          have hbk := (hb0.out.alloc (.cells #[.int .i64 (pY s 10), .int .i64 (pM s 10), .int .i64 (pD s 10)] 23)).below hb3 (by simp; omega)
          have R0 := hbk.cell 0
          have R1 := hbk.cell 1
          have R2 := hbk.cell 2
          have G0 := hbk.free 0
          have G1 := hbk.free 1
          have G2 := hbk.free 2
          have D0 := (Bk.new wr 23 #[.int .i64 (pY s 10), .int .i64 (pM s 10), .int .i64 (pD s 10)]).below hb3 (by simp)
          have e0 := D0.cell 0
          have e1 := D0.cell 1
          have e2 := D0.cell 2
          have HB3 := Lib.hid ((hb.out.alloc (Nat.le_of_lt (by omega)) (.cells #[.int .i64 (pY s 10), .int .i64 (pM s 10), .int .i64 (pD s 10)] 23)).trans (hb3.mono (by simp; omega)))
          have lt3 := D0.lt
          clear hbk hb3 D0
          go_wp2_with fail
          exact bodyPost_ret (v := .tuple #[.agg #[.int .i64 0, .int .i64 0, .int .i64 0], .int .i64 2]) (by simp [results, Tryd.results18, go_sem, R0, R1, R2]) rfl (reads_none GD.out HV.out (((HB3.out.setCell (by simp) _).setCell (by simp) _).setCell (by simp) _))
  · have HS : Hid (¬ Good s) := fun hg => hs hg.1
    have hne : ((s.size : Int) == 10) = false := by simp; omega
    go_enter Tryd.func18, Tryd.ntmps18
    go_wp2
    exact bodyPost_ret (v := .tuple #[.agg #[.int .i64 0, .int .i64 0, .int .i64 0], .int .i64 11]) (by simp [results, Tryd.results18, go_sem]) rfl (reads_bad HS.out ((Below.refl _ _).alloc (Nat.le_refl _) _))
end Go.Proofs.YtaanmikdhhdeiaaDoor
