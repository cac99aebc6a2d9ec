/-
  ArmorBack, walked: it returns true, whatever the bytes and the sign that is turned. Conditions: the arguments' readings.
-/
import Derived.Test.YtaanmikdhhdeiaaArmorReadsWalk
import Derived.Test.YtaanmikdhhdeiaaLater
import Derived.Laws.BytesArg
import Derived.Deep.RegionWith
namespace Go.Proofs.Ytaanmikdhhdeiaa
open Go.ChangeShapes Go.WideShapes Go.ChangeAt Go.RowKit
set_option linter.unusedVariables false

theorem byt_strN {l : List Nat} (h : Small 256 l) : byt (strN l) = l := by
  unfold byt strN
  simp only [List.map_map]
  conv => rhs; rw [← List.map_id l]
  refine List.map_congr_left fun x hx => ?_
  have := h x hx
  simp [UInt8.toNat_ofNat']
  omega
theorem smallOf_succ {l : List Nat} {k x : Nat} (hx : l[k]? = some x) : smallOf (l.take (k + 1)) = smallOf (l.take k) ++ (if x = 45 then [] else [low x]) := by
  rw [take_succ_of hx, smallOf_app]
  congr 1
  unfold smallOf
  by_cases h : x = 45
  · subst h; rfl
  · rw [List.filter_cons, if_pos (bne_iff_ne.2 h), if_neg h]; rfl
theorem byt_app (a b : ByteArray) : byt (a ++ b) = byt a ++ byt b := by simp [byt]
theorem byt_extract (s : ByteArray) (i j : Nat) : byt (s.extract i j) = ((byt s).take j).drop i := by
  simp [byt, List.map_drop, List.map_take, List.drop_take]
/-- One byte of a text, turned. -/
theorem byt_turned {s : ByteArray} {i d : Nat} (hi : i < s.size) (hd : d < 256) : byt (s.extract 0 i ++ strN [d] ++ s.extract (i + 1) s.size) = (byt s).set i d := by
  rw [byt_app, byt_app, byt_extract, byt_extract, byt_strN (fun x hx => by rw [List.mem_singleton.1 hx]; exact hd), List.drop_zero, List.take_of_length_le (show (byt s).length ≤ s.size by rw [byt_len]; exact Nat.le_refl _), List.set_eq_take_append_cons_drop, if_pos (by rw [byt_len]; exact hi), List.append_assoc]
  rfl
theorem conv_row (W : World) (g : Nat) (z : Int) (h : W.cell? ⟨g, 0, none⟩ = some (.int .u8 z)) : (convert 22 9 (.slice (some ⟨g, 0, none⟩) 1 1)).run Try.prog W = .ok (.string (strN [z.toNat])) W := by
  have h := run_convert_bytes_arg (P := Try.prog) W 22 5 Try.underlying22 Try.underlying5 g 0 1 1 [z] rfl (fun i hi => by
    obtain rfl : i = 0 := by omega
    rw [Nat.zero_add, h]; rfl) 9 Try.underlying9
  rw [h]; rfl
theorem conv_one (w : World) (z : Int) : (convert 22 9 (.slice (some ⟨w.heap.size, 0, none⟩) 1 1)).run Try.prog (w.alloc (.cells #[.int .u8 z] 5)) = .ok (.string (strN [z.toNat])) (w.alloc (.cells #[.int .u8 z] 5)) :=
  conv_row _ _ z ((Bk.new w 5 #[.int .u8 z]).cell 0)
theorem conv_one_drew (w : World) (z : Int) : (convert 22 9 (.slice (some ⟨w.heap.size, 0, none⟩) 1 1)).run Try.prog (w.alloc (.cells #[.int .u8 z] 5)).drew = .ok (.string (strN [z.toNat])) (w.alloc (.cells #[.int .u8 z] 5)).drew :=
  conv_row _ _ z ((Bk.new w 5 #[.int .u8 z]).cell 0)
theorem sgl (x : Nat) (hx : x < 32) (h : x < ({ data := #[48, 49, 50, 51, 52, 53, 54, 55, 56, 57, 97, 98, 99, 100, 101, 102, 103, 104, 106, 107, 109, 110, 112, 113, 114, 115, 116, 118, 119, 120, 121, 122] } : ByteArray).size) : (({ data := #[48, 49, 50, 51, 52, 53, 54, 55, 56, 57, 97, 98, 99, 100, 101, 102, 103, 104, 106, 107, 109, 110, 112, 113, 114, 115, 116, 118, 119, 120, 121, 122] } : ByteArray)[x]'h).toNat = low (signs.getD x 0) := by
  have key : ∀ y : Fin 32, (({ data := #[48, 49, 50, 51, 52, 53, 54, 55, 56, 57, 97, 98, 99, 100, 101, 102, 103, 104, 106, 107, 109, 110, 112, 113, 114, 115, 116, 118, 119, 120, 121, 122] } : ByteArray)[y.val]'(y.isLt)).toNat = low (signs.getD y.val 0) := by decide
  exact key ⟨x, h⟩
def sameB (D E : Nat) : Bool := ((D == 48) || (D == 122)) && ((E == 48) || (E == 122))
theorem same_yes {D E : Nat} (h : (D = 48 ∨ D = 122) ∧ (E = 48 ∨ E = 122)) : sameB D E = true := by simp [sameB]; omega
theorem same_no {D E : Nat} (h : ¬((D = 48 ∨ D = 122) ∧ (E = 48 ∨ E = 122))) : sameB D E = false := by
  rw [Bool.eq_false_iff]
  intro e
  simp [sameB] at e
  omega
theorem goSame31 (D E : Nat) (w : World) : Calls Try.prog 14 #[.int .u8 (D : Int), .int .u8 (E : Int)] w fun e w' => e = .returned (.bool (sameB D E)) ∧ w = w' := by
  have S : Hid (∀ b : Bool, sameB D E = b → Ending.returned (.bool b) = .returned (.bool (sameB D E))) := fun b h => by rw [h]
  have k : ∀ (n m : Nat), n = m → ((n : Int) == (m : Int)) = true := fun n m h => by simp [h]
  have k' : ∀ (n m : Nat), n ≠ m → ((n : Int) == (m : Int)) = false := fun n m h => by simp; omega
  by_cases d1 : D = 48
  · have D1 : ((D : Int) == 48) = true := k D 48 d1
    by_cases e1 : E = 48
    · have E1 : ((E : Int) == 48) = true := k E 48 e1
      have G := Lib.hid (same_yes ⟨.inl d1, .inl e1⟩)
      clear d1 e1 k k'
      go_enter Try.func14, Try.ntmps14
      go_wp2
      go_ret
      exact ⟨S.out _ G.out, rfl⟩
    · have E1 : ((E : Int) == 48) = false := k' E 48 e1
      by_cases e2 : E = 122
      · have E2 : ((E : Int) == 122) = true := k E 122 e2
        have G := Lib.hid (same_yes ⟨.inl d1, .inr e2⟩)
        clear d1 e1 e2 k k'
        go_enter Try.func14, Try.ntmps14
        go_wp2
        go_ret
        exact ⟨S.out _ G.out, rfl⟩
      · have E2 : ((E : Int) == 122) = false := k' E 122 e2
        have G := Lib.hid (same_no (D := D) (E := E) (by omega))
        clear d1 e1 e2 k k'
        go_enter Try.func14, Try.ntmps14
        go_wp2
        go_ret
        exact ⟨S.out _ G.out, rfl⟩
  · have D1 : ((D : Int) == 48) = false := k' D 48 d1
    by_cases d2 : D = 122
    · have D2 : ((D : Int) == 122) = true := k D 122 d2
      by_cases e1 : E = 48
      · have E1 : ((E : Int) == 48) = true := k E 48 e1
        have G := Lib.hid (same_yes ⟨.inr d2, .inl e1⟩)
        clear d1 e1 d2 k k'
        go_enter Try.func14, Try.ntmps14
        go_wp2
        go_ret
        exact ⟨S.out _ G.out, rfl⟩
      · have E1 : ((E : Int) == 48) = false := k' E 48 e1
        by_cases e2 : E = 122
        · have E2 : ((E : Int) == 122) = true := k E 122 e2
          have G := Lib.hid (same_yes ⟨.inr d2, .inr e2⟩)
          clear d1 d2 e1 e2 k k'
          go_enter Try.func14, Try.ntmps14
          go_wp2
          go_ret
          exact ⟨S.out _ G.out, rfl⟩
        · have E2 : ((E : Int) == 122) = false := k' E 122 e2
          have G := Lib.hid (same_no (D := D) (E := E) (by omega))
          clear d1 d2 e1 e2 k k'
          go_enter Try.func14, Try.ntmps14
          go_wp2
          go_ret
          exact ⟨S.out _ G.out, rfl⟩
    · have D2 : ((D : Int) == 122) = false := k' D 122 d2
      have G := Lib.hid (same_no (D := D) (E := E) (by omega))
      clear d1 d2 k k'
      go_enter Try.func14, Try.ntmps14
      go_wp2
      go_ret
      exact ⟨S.out _ G.out, rfl⟩
theorem goBytes_sum {s : ByteArray} (h : bytesOf (byt s) = ([], 0, 12)) (w : World) (hs : s.size ≤ 2000) : Calls Try.prog 11 #[.string s] w fun e w' => ∃ A c, e = .returned (.tuple #[.slice A 0 c, .int .i64 0, .int .i64 12]) ∧ Below w.heap.size w w' := by
  refine (goBytes s w hs).mono ?_
  rintro e w' ⟨A, N, c, rfl, hr, hb⟩
  rw [h] at hr
  obtain rfl : N = 0 := hr.1
  exact ⟨A, c, by rw [h]; rfl, hb⟩
theorem byte_nat {z : Int} (h : (Lit.int .u8 z).wf = true) : ∃ a : Nat, z = a := by
  obtain ⟨h1, h2⟩ := wf_byte h
  exact ⟨z.toNat, by omega⟩
namespace armorBackWalk
set_option maxRecDepth 100000 in
set_option maxHeartbeats 2000000 in
theorem walk (A0 : Option Addr) (n0 c0 : Nat) (l0 : List Nat) (s1a s1b : Int) (w : World) (rd0 : RdK .u8 w A0 n0 l0) (ft0 : Small 256 l0) (ge0 : n0 ≤ c0) (mx0 : c0 ≤ maxLen) (ws1a : (Lit.int .u8 s1a).wf = true) (ws1b : (Lit.int .u8 s1b).wf = true) :
    Calls Try.prog 5 #[.slice A0 n0 c0, .agg #[.int .u8 s1a, .int .u8 s1b]] w fun e w' => e = .returned (.bool true) ∧ Below w.heap.size w w' := by
  unfold maxLen at mx0
  obtain ⟨a, rfl⟩ := byte_nat ws1a
  obtain ⟨b, rfl⟩ := byte_nat ws1b
  have a256 := (wf_byte ws1a).2
  have b256 := (wf_byte ws1b).2
  clear ws1a ws1b
  by_cases h6 : 300 < n0
  · go_enter Try.func5, Try.ntmps5
    go_wp2_with fail
    refine (goAwake _).mono ?_
    rintro e w1 ⟨rfl, hb1⟩
    have HB1 := Lib.hid (below_boxed hb1)
    clear hb1
    go_wp2_with fail
    go_ret
    exact ⟨rfl, HB1.out⟩
  · have n6 : n0 ≤ 300 := by omega
    have RD := Lib.hid rd0
    have FT := Lib.hid ft0
    clear rd0 h6
    go_enter Try.func5, Try.ntmps5
    go_wp2_with fail
    refine (goAwake _).mono ?_
    rintro e w1 ⟨rfl, hb1⟩
    have BK1 : Hid (Bk w1 w.heap.size 37 #[.int .u8 (a : Int), .int .u8 (b : Int)]) := (Bk.new w 37 #[.int .u8 (a : Int), .int .u8 (b : Int)]).below hb1 (by simp)
    have HB1 := Lib.hid (below_boxed hb1)
    have R1 := Lib.hid (RD.out.below HB1.out (Nat.le_refl _))
    clear hb1
    go_wp2_with fail
    refine (goText _ _ _ _ _ R1.out (by omega) FT.out).mono ?_
    rintro e w2 ⟨rfl, hb2⟩
    have BK2 := Lib.hid (BK1.out.below hb2 BK1.out.lt)
    have HB2 := Lib.hid (HB1.out.trans (hb2.mono HB1.out.size))
    have R2 := Lib.hid (R1.out.below hb2 (Nat.le_refl _))
    clear hb2
    have TB : Hid (byt (strN (textOf l0)) = textOf l0) := byt_strN (text_small (all_lt l0) (Nat.le_refl _))
    have TL : Hid ((textOf l0).length ≤ 2 * ((8 * n0 + 4) / 5 + 1)) := by
      have h1 := textTo_len (fivesOf l0 ++ [chk (fivesOf l0)]) (fivesOf l0 ++ [chk (fivesOf l0)]).length
      rw [List.length_append, fivesOf_len, ← RD.out.1] at h1
      show (textTo _ _).length ≤ _
      rw [List.length_append, fivesOf_len, ← RD.out.1]
      exact h1
    have TP : Hid (0 < (textOf l0).length) := by
      have h1 := bytes_text FT.out
      rcases Nat.eq_zero_or_pos (textOf l0).length with h2 | h2
      · rw [List.eq_nil_of_length_eq_zero h2] at h1
        have h3 : bytesOf [] = ([], 0, 10) := by decide
        rw [h3] at h1
        cases h1
      · exact h2
    obtain ⟨s, hs⟩ : ∃ s, strN (textOf l0) = s := ⟨_, rfl⟩
    rw [hs] at TB
    have SZ : Hid (s.size = (textOf l0).length) := by show _ = _; rw [← hs, strN_size]
    have sp : 0 < s.size := by rw [SZ.out]; exact TP.out
    have sz : s.size ≤ 1000 := by rw [SZ.out]; have := TL.out; omega
    have s0 : ((s.size : Int) == 0) = false := beq_eq_false_iff_ne.2 (by omega)
    have BL := Lib.hid (byt_small s)
    rw [hs]
    clear hs
    go_wp2_with fail
    have hsz2 := HB2.out.size
    go_loopw [7, 40] (fun v i wr => ∃ (k : Nat) (S : ByteArray), k ≤ s.size ∧ i = .int .i64 k ∧ v = .string S ∧ Hid (S = strN (smallOf ((byt s).take k))) ∧ Hid (Below w2.heap.size w2 wr)) (fun _ i _ => s.size - (intOf i).toNat)
    case atStart => exact ⟨0, ⟨#[]⟩, Nat.zero_le _, rfl, rfl, rfl, Below.refl _ _⟩
    case round =>
      obtain ⟨k, S, hk, rfl, rfl, hS, hb⟩ := hrel
      have hbs := hb.out.size
      have SS : S.size ≤ 1000 := by
        rw [hS.out, strN_size]
        unfold smallOf
        rw [List.length_map]
        have h1 := List.length_filter_le (· != 45) ((byt s).take k)
        rw [List.length_take] at h1
        omega
      by_cases hlt : k < s.size
      · have HX := Lib.hid (byt_at hlt)
        obtain ⟨x, hx⟩ : ∃ x, (s[k]'hlt).toNat = x := ⟨_, rfl⟩
        rw [hx] at HX
        have X256 : x < 256 := BL.out.at HX.out
        have SX := Lib.hid (smallOf_succ HX.out)
        by_cases h45 : x = 45
        · have b45 : ((x : Int) == 45) = true := by simp; omega
          have SE : Hid (S = strN (smallOf ((byt s).take (k + 1)))) := by show _ = _; rw [SX.out, if_pos h45, List.append_nil]; exact hS.out
          clear h45
          go_wp2_with fail
          go_roundw
          case rel => exact ⟨k + 1, S, by omega, by go_num, rfl, SE.out, hb.out⟩
          case measure => simp [intOf]; omega
        · have b45 : ((x : Int) == 45) = false := by simp; omega
          by_cases hx65 : 65 ≤ x
          · by_cases hx90 : x ≤ 90
            · obtain ⟨C, hC⟩ : ∃ C, strN [x + 32] = C := ⟨_, rfl⟩
              have C1 : C.size = 1 := by rw [← hC, strN_size]; rfl
              have SE : Hid (S ++ C = strN (smallOf ((byt s).take (k + 1)))) := by show _ = _; rw [SX.out, if_neg h45, low, if_pos ⟨hx65, hx90⟩, strN_app, ← hS.out, hC]
              have kc := conv_one wr ((x : Int) + 32)
              rw [show ((x : Int) + 32 : Int).toNat = x + 32 by omega, hC] at kc
              have q1 : 65 ≤ (x : Int) := by omega
              have q2 : (x : Int) ≤ 90 := by omega
              clear hx65 hx90
              clear h45 hC
              go_wp2_with fail
              go_roundw
              case rel => exact ⟨k + 1, S ++ C, by omega, by go_num, rfl, SE.out, hb.out.alloc hbs _⟩
              case measure => simp [intOf]; omega
            · obtain ⟨C, hC⟩ : ∃ C, strN [x] = C := ⟨_, rfl⟩
              have C1 : C.size = 1 := by rw [← hC, strN_size]; rfl
              have SE : Hid (S ++ C = strN (smallOf ((byt s).take (k + 1)))) := by show _ = _; rw [SX.out, if_neg h45, low, if_neg (by omega), strN_app, ← hS.out, hC]
              have kc := conv_one wr ((x : Int))
              rw [show ((x : Int) : Int).toNat = x by omega, hC] at kc
              have q1 : 65 ≤ (x : Int) := by omega
              have q2 : 90 < (x : Int) := by omega
              clear hx65 hx90
              clear h45 hC
              go_wp2_with fail
              go_roundw
              case rel => exact ⟨k + 1, S ++ C, by omega, by go_num, rfl, SE.out, hb.out.alloc hbs _⟩
              case measure => simp [intOf]; omega
          · obtain ⟨C, hC⟩ : ∃ C, strN [x] = C := ⟨_, rfl⟩
            have C1 : C.size = 1 := by rw [← hC, strN_size]; rfl
            have SE : Hid (S ++ C = strN (smallOf ((byt s).take (k + 1)))) := by show _ = _; rw [SX.out, if_neg h45, low, if_neg (by omega), strN_app, ← hS.out, hC]
            have kc := conv_one wr ((x : Int))
            rw [show ((x : Int) : Int).toNat = x by omega, hC] at kc
            have q1 : (x : Int) < 65 := by omega
            clear hx65
            clear h45 hC
            go_wp2_with fail
            go_roundw
            case rel => exact ⟨k + 1, S ++ C, by omega, by go_num, rfl, SE.out, hb.out.alloc hbs _⟩
            case measure => simp [intOf]; omega
      · obtain rfl : k = s.size := by omega
        have TK : (byt s).take s.size = byt s := by rw [← byt_len]; exact List.take_length
        have SM : Hid (S = strN (smallB l0)) := by show _ = _; rw [hS.out, TK, TB.out, small_is]
        have SB : Hid (byt S = smallB l0) := by
          show _ = _
          rw [SM.out]
          exact byt_strN (fun c hc => by
            unfold smallB at hc
            obtain ⟨x, hx, rfl⟩ := List.mem_map.1 hc
            have := low_lt x (all_lt l0 x hx)
            omega)
        have SL : Hid (S.size = (8 * n0 + 4) / 5 + 1) := by show _ = _; rw [SM.out, strN_size, smallB_len, ← RD.out.1]
        have HBr := Lib.hid (HB2.out.trans (hb.out.mono HB2.out.size))
        have BKr := Lib.hid (BK2.out.below hb.out BK2.out.lt)
        have Rr := Lib.hid (RD.out.below HBr.out (Nat.le_refl _))
        have BT : Hid (bytesOf (byt s) = (l0, 0, 0)) := by show _ = _; rw [TB.out]; exact bytes_text FT.out
        have BM : Hid (bytesOf (byt S) = (l0, 0, 0)) := by show _ = _; rw [SB.out]; exact bytes_small FT.out
        clear TK hS hb hbs BK1 BK2 HB1 HB2 R1 R2
        go_wp2_with fail
        refine (goBytes s _ (by omega)).mono ?_
        rintro e w3 ⟨A3, N3, c3, rfl, hr3, hb3⟩
        rw [BT.out]
        rw [BT.out] at hr3
        have HB3 := Lib.hid (HBr.out.trans (hb3.mono HBr.out.size))
        have BK3 := Lib.hid (BKr.out.below hb3 BKr.out.lt)
        have R3 := Lib.hid hr3
        clear hb3 hr3
        go_wp2_with fail
        refine (goBytes S _ (by have := SL.out; omega)).mono ?_
        rintro e w4 ⟨A4, N4, c4, rfl, hr4, hb4⟩
        rw [BM.out]
        rw [BM.out] at hr4
        have HB4 := Lib.hid (HB3.out.trans (hb4.mono HB3.out.size))
        have BK4 := Lib.hid (BK3.out.below hb4 BK3.out.lt)
        have R34 := Lib.hid (R3.out.below hb4 (Nat.le_refl _))
        have R4 := Lib.hid hr4
        have R04 := Lib.hid (RD.out.below HB4.out (Nat.le_refl _))
        obtain rfl : N3 = n0 := by rw [R3.out.1, RD.out.1]
        obtain rfl : N4 = N3 := by rw [R4.out.1, RD.out.1]
        clear hb4 hr4
        go_wp2_with fail
        refine (refSame _ _ _ _ _ _ _ R34.out R04.out (by omega)).mono ?_
        rintro e w5 ⟨rfl, hb5⟩
        have HB5 := Lib.hid (HB4.out.trans (hb5.mono HB4.out.size))
        have BK5 := Lib.hid (BK4.out.below hb5 BK4.out.lt)
        have R45 := Lib.hid (R4.out.below hb5 (Nat.le_refl _))
        have R05 := Lib.hid (RD.out.below HB5.out (Nat.le_refl _))
        clear hb5
        have bl : ((S.size : Int) != (8 * (N4 : Int) + 4) / 5 + 1) = false := by
          rw [bne_eq_false_iff_eq]
          have := SL.out
          omega
        go_wp2_with fail
        refine (refSame _ _ _ _ _ _ _ R45.out R05.out (by omega)).mono ?_
        rintro e w6 ⟨rfl, hb6⟩
        have HB6 := Lib.hid (HB5.out.trans (hb6.mono HB5.out.size))
        have BK6 := Lib.hid (BK5.out.below hb6 BK5.out.lt)
        clear hb6
        by_cases h30 : 30 < S.size
        · go_wp2_with fail
          go_ret
          exact ⟨rfl, HB6.out⟩
        obtain ⟨L, hL⟩ : ∃ L, fivesOf l0 ++ [chk (fivesOf l0)] = L := ⟨_, rfl⟩
        have HX' := Lib.hid hL.symm
        have LS : Hid (∀ x ∈ L, x < 32) := by show ∀ x ∈ L, _; rw [← hL]; exact all_lt l0
        have SMm : Hid (byt S = L.map (fun x => low (signs.getD x 0))) := by show _ = _; rw [SB.out, ← hL]; rfl
        have S0 : 0 < S.size := by have := SL.out; omega
        obtain ⟨I, hI⟩ : ∃ I, a % S.size = I := ⟨_, rfl⟩
        have Ilt : I < S.size := by rw [← hI]; exact Nat.mod_lt _ S0
        have hIc : (a : Int) % (S.size : Int) = (I : Int) := by rw [← hI]; exact (Int.natCast_emod a S.size).symm
        obtain ⟨Y, hY⟩ : ∃ Y, b % 32 = Y := ⟨_, rfl⟩
        have Ylt : Y < 32 := by omega
        have hYc : (b : Int) % 32 = (Y : Int) := by omega
        have HI := Lib.hid (byt_at Ilt)
        obtain ⟨E, hE⟩ : ∃ E, (S[I]'Ilt).toNat = E := ⟨_, rfl⟩
        rw [hE] at HI
        obtain ⟨X, HX, EX⟩ : ∃ X, Hid (L[I]? = some X) ∧ Hid (low (signs.getD X 0) = E) := by
          have h1 := HI.out
          rw [SMm.out, List.getElem?_map] at h1
          rcases h2 : L[I]? with _ | X
          · rw [h2] at h1; cases h1
          · rw [h2] at h1
            exact ⟨X, rfl, by injection h1⟩
        have X32 : X < 32 := LS.out X (List.mem_of_getElem? HX.out)
        have EB : E < 256 := (byt_small S).at HI.out
        have hD0 := sgl Y Ylt
        obtain ⟨D, hD⟩ : ∃ D, low (signs.getD Y 0) = D := ⟨_, rfl⟩
        rw [hD] at hD0
        have HD := Lib.hid hD
        have DB := low_lt Y Ylt
        rw [hD] at DB
        have c0' : w6.cell? ⟨w.heap.size, 0, none⟩ = some (.int .u8 (a : Int)) := BK6.out.cell 0
        have c1' : w6.cell? ⟨w.heap.size, 1, none⟩ = some (.int .u8 (b : Int)) := BK6.out.cell 1
        have K0 : ((S.size : Int) == 0) = false := beq_eq_false_iff_ne.2 (by omega)
        clear hI hY hL hD
        by_cases hDE : D = E
        · have bd : ((D : Int) == (E : Int)) = true := by simp; omega
          go_wp2_with fail
          go_ret
          exact ⟨rfl, HB6.out⟩
        have bd : ((D : Int) == (E : Int)) = false := by simp; omega
        have XY : Hid (X ≠ Y) := fun e => hDE (by rw [← HD.out, ← EX.out, e])
        by_cases hz : (D = 48 ∨ D = 122) ∧ (E = 48 ∨ E = 122)
        · have hz' := Lib.hid (same_yes hz)
          clear hz hDE
          go_wp2_with fail
          refine (goSame31 D E _).mono ?_
          rintro e w7 ⟨rfl, rfl⟩
          rw [hz'.out]
          go_wp2_with fail
          go_ret
          exact ⟨rfl, HB6.out⟩
        have hz' := Lib.hid (same_no hz)
        have N1 : Hid (¬(X = 0 ∧ Y = 31)) := fun ⟨e1, e2⟩ => hz ⟨.inr (by rw [← HD.out, e2]; decide), .inl (by rw [← EX.out, e1]; decide)⟩
        have N2 : Hid (¬(X = 31 ∧ Y = 0)) := fun ⟨e1, e2⟩ => hz ⟨.inl (by rw [← HD.out, e2]; decide), .inr (by rw [← EX.out, e1]; decide)⟩
        clear hz hDE
        go_wp2_with fail
        refine (goSame31 D E _).mono ?_
        rintro e w7 ⟨rfl, rfl⟩
        rw [hz'.out]
        go_wp2_with fail
        have BZ : Hid (bytesOf (byt (S.extract 0 I ++ strN [D] ++ S.extract (I + 1) S.size)) = ([], 0, 12)) := by
          show _ = _
          rw [byt_turned Ilt (show D < 256 by omega), SB.out, ← HD.out]
          refine bytes_turned (by rw [← SB.out, byt_len]; omega) (HX'.out ▸ HX.out) Ylt XY.out N1.out N2.out
        obtain ⟨P1, hP1⟩ : ∃ P1, S.extract 0 I = P1 := ⟨_, rfl⟩
        obtain ⟨P2, hP2⟩ : ∃ P2, S.extract (I + 1) S.size = P2 := ⟨_, rfl⟩
        have L1 : P1.size = I := by rw [← hP1, ByteArray.size_extract]; omega
        have L2 : P2.size = S.size - (I + 1) := by rw [← hP2, ByteArray.size_extract]; omega
        obtain ⟨C, hC⟩ : ∃ C, strN [D] = C := ⟨_, rfl⟩
        have LC : C.size = 1 := by rw [← hC, strN_size]; rfl
        have kc := fun w : World => conv_one w (D : Int)
        simp only [Int.toNat_natCast, hC] at kc
        have kd := fun w : World => conv_one_drew w (D : Int)
        simp only [Int.toNat_natCast, hC] at kd
        rw [hP1, hP2, hC] at BZ
        clear hC
        have I1 : (I : Int) ≤ (S.size : Int) := by omega
        have I2 : (I : Int) + 1 ≤ (S.size : Int) := by omega
        obtain ⟨J, hJ⟩ : ∃ J, I + 1 = J := ⟨_, rfl⟩
        have I3 : (I : Int) + 1 = (J : Int) := by omega
        have I4 : (J : Int) ≤ (S.size : Int) := by omega
        have WJ : IntKind.i64.wrap (J : Int) = (J : Int) := IntWalk.i64_in _ (by omega)
        rw [hJ] at hP2
        clear I2 hJ
        go_region_with (go_at_call 11; refine (goBytes_sum BZ.out _ (by rw [ByteArray.size_append, ByteArray.size_append]; omega)).mono ?_; rintro e w8 ⟨A8, c8, rfl, hb8⟩; have HB8 := Lib.hid (hb8.mono (show w6.heap.size ≤ _ by simp)); clear hb8)
        go_wp2_with fail
        go_ret
        exact ⟨rfl, HB6.out.trans ((((Below.refl w6.heap.size w6).alloc (Nat.le_refl _) _).drew.trans HB8.out).mono HB6.out.size)⟩
end armorBackWalk
end Go.Proofs.Ytaanmikdhhdeiaa
