/-
  The reference's Bytes: what a text is read as. Conditions: at most 2000 bytes.
-/
import Derived.Test.YtaanmikdhhdeiaaArmR
namespace Go.Proofs.Ytaanmikdhhdeiaa
open Go.ChangeShapes Go.WideShapes Go.ChangeAt Go.RowKit
set_option linter.unusedVariables false

theorem chkR_is {A : Option Addr} {n c K : Nat} {f : List Nat} {w : World} (hK : chk f = K) (h : RdK .u8 w A n f) (hm : n ≤ 1000000) (hs : Small 256 f) : Calls Try.prog 10 #[.slice A n c] w fun e w' => e = .returned (.int .i64 (K : Nat)) ∧ w = w' := by rw [← hK]; exact refChk A n c f w h hm hs
theorem own_cap0 {w : World} {base n c : Nat} {A : Option Addr} {t : TypeId} {size : Nat} {xs : List Value} (h : w.ownsRow base t size (.slice A n c) n xs) : n ≤ c ∧ c ≤ maxLen := by
  rcases h.2 with ⟨h', h0⟩ | ⟨g', cap', cur, h', hb, hg, hnc, hcm, _⟩
  · simp only [Value.slice.injEq] at h'
    obtain ⟨rfl, rfl, rfl⟩ := h'
    exact ⟨Nat.le_refl _, Nat.zero_le _⟩
  · simp only [Value.slice.injEq] at h'
    obtain ⟨rfl, _, rfl⟩ := h'
    exact ⟨hnc, hcm⟩
set_option maxHeartbeats 4000000 in
theorem refBytes (s : ByteArray) (w : World) (hs : s.size ≤ 2000) : Calls Try.prog 12 #[.string s] w (GivesB s w) := by
  obtain ⟨i0, hi, hz0, hz1, hz2⟩ := info_parts Try.info5
  have BS := Lib.hid (byt_small s)
  have BL := Lib.hid (byt_len s)
  go_enter Try.func12, Try.ntmps12
  go_wp2
  go_loopw [5, 6] (fun v i wr => ∃ (pos : Nat), pos ≤ s.size ∧ i = .int .i64 pos ∧ Hid (GoodTo (byt s) pos) ∧ Hid (wr.ownsRow w.heap.size 5 1 v (readOf ((byt s).take pos)).length (ints .u8 (readOf ((byt s).take pos)))) ∧ Hid (Below w.heap.size w wr)) (fun _ i _ => s.size - (intOf i).toNat)
  case atStart => exact ⟨0, by omega, rfl, fun c hc => by simp at hc, World.ownsRow_nil _ _ _ _, Below.refl _ _⟩
  case round =>
    obtain ⟨pos, hp, rfl, hg, hO, hb⟩ := hrel
    have sz := hb.out.size
    by_cases hlt : pos < s.size
    · have HX := Lib.hid (byt_at hlt)
      obtain ⟨x, hx⟩ : ∃ x, (s[pos]'hlt).toNat = x := ⟨_, rfl⟩
      rw [hx] at HX
      have X256 : x < 256 := BS.out.at HX.out
      by_cases h45 : x = 45
      · have b45 : ((x : Int) == 45) = true := by simp; omega
        have GX : Hid (GoodTo (byt s) (pos + 1)) := goodTo_succ hg.out HX.out (.inl h45)
        have RX : Hid (readOf ((byt s).take (pos + 1)) = readOf ((byt s).take pos)) := read_dash (by rw [← h45]; exact HX.out)
        clear h45
        go_wp2
        go_roundw
        case rel => exact ⟨pos + 1, by omega, by go_num, GX, by rw [RX.out]; exact hO, hb⟩
        case measure => simp [intOf]; omega
      · have b45 : ((x : Int) == 45) = false := by simp; omega
        by_cases hf : five x < 32
        · have GX : Hid (GoodTo (byt s) (pos + 1)) := goodTo_succ hg.out HX.out (.inr hf)
          have RX : Hid (readOf ((byt s).take (pos + 1)) = readOf ((byt s).take pos) ++ [five x]) := read_sign HX.out h45
          have SG := Lib.hid (sgn_pos hf)
          obtain ⟨F, hF⟩ : ∃ F, five x = F := ⟨_, rfl⟩
          rw [hF] at RX SG hf
          have F2 : (F : Int) % 256 = F := by omega
          have RL : Hid ((readOf ((byt s).take pos)).length ≤ 2000) := by
            have h1 := readOf_le ((byt s).take pos)
            rw [List.length_take] at h1
            show _ ≤ _
            omega
          clear hF h45
          go_wp2_with fail
          refine (refSign x _ X256).mono ?_
          rintro e w3 ⟨rfl, rfl⟩
          rw [SG.out]
          go_wp2_with (at_builtin; refine wpList_append_own _ rfl _ _ 22 rfl w.heap.size 5 i0 _ 1 1 Try.underlying22 hi hz0 hz1 hz2 rfl (by omega) _ _ _ rfl (hO.out.alloc _) ⟨wr.heap.size, 0, none⟩ 1 1 [.int .u8 (F : Int)] rfl rfl (World.news_of_block (cs := #[.int .u8 (F : Int)]) (t := 5) (fr := (0, 0)) (heap_alloc_new wr _)) (by simp [Value.oneCell']) (by have := RL.out; unfold maxLen; omega) (by have := RL.out; omega) (by simp; omega) ?_; intro v' w4 hown' hgrow _; have HO4 := Lib.hid (own_ints hown'); have HB4 := Lib.hid ((hb.out.alloc sz _).grown hgrow (by simp; omega) (fun j hj => (hO.out.lt j hj).1)); clear hown' hgrow)
          go_roundw
          case rel =>
            refine ⟨pos + 1, by omega, by go_num, GX, ?_, HB4⟩
            rw [RX.out, List.length_append]
            exact HO4
          case measure => simp [intOf]; omega
        · have WR : Hid (bytesOf (byt s) = ([], pos + 1, 11)) := bytes_wrong hg.out HX.out h45 hf
          have SG := Lib.hid (sgn_neg hf)
          clear hf h45
          go_wp2_with fail
          refine (refSign x _ X256).mono ?_
          rintro e w3 ⟨rfl, rfl⟩
          rw [SG.out]
          go_wp2_with fail
          go_ret3
          exact gives_none WR.out hb.out
    · obtain rfl : pos = s.size := by omega
      have TK : (byt s).take s.size = byt s := by rw [← BL.out]; exact List.take_length
      rw [TK] at hO
      have GA : Hid (GoodTo (byt s) (byt s).length) := by show GoodTo _ _; rw [BL.out]; exact hg.out
      have RS : Hid (Small 32 (readOf (byt s))) := readOf_small (fun c hc => GA.out c (by rw [List.take_length]; exact hc))
      have RLn : Hid ((readOf (byt s)).length ≤ 2000) := by have := readOf_le (byt s); have := BL.out; show _ ≤ _; omega
      clear TK
      obtain ⟨f, hf⟩ : ∃ f, readOf (byt s) = f := ⟨_, rfl⟩
      rw [hf] at hO RS RLn
      have RF := Lib.hid hf
      clear hf
      rcases f.eq_nil_or_concat with rfl | ⟨g, c, rfl⟩
      · have WR : Hid (bytesOf (byt s) = ([], 0, 10)) := bytes_empty GA.out RF.out
        obtain ⟨A0, c0, rfl⟩ := own_any hO.out
        go_wp2_with fail
        go_ret3
        exact gives_none WR.out hb.out
      · rw [List.concat_eq_append] at hO RS RLn RF
        obtain ⟨N, hN⟩ : ∃ N, g.length = N := ⟨_, rfl⟩
        have HN := Lib.hid hN
        have e1 : (g ++ [c]).length = N + 1 := by rw [List.length_append, hN]; rfl
        rw [e1] at hO RLn
        clear e1 hN
        obtain ⟨g0, c0, rfl⟩ := own_form hO.out (by omega)
        obtain ⟨nc, cm, gb, gl⟩ := own_cap hO.out
        have NB : N ≤ 2000 := by have := RLn.out; omega
        unfold maxLen at cm
        have HR := Lib.hid (rd_of_own hO.out)
        have HRg : Hid (RdK .u8 wr (some ⟨g0, 0, none⟩) N g) := by
          have h1 := HR.out.take (m := N) (by omega)
          rw [show (g ++ [c]).take N = g by rw [← HN.out]; simp] at h1
          exact h1
        have hcc : wr.cell? ⟨g0, N, none⟩ = some (.int .u8 (c : Int)) := by
          obtain ⟨b', off', hA, hlt', hc⟩ := HR.out.2 N c (by rw [← HN.out]; simp)
          cases hA
          rw [Nat.zero_add] at hc
          exact hc
        have GS : Hid (Small 32 g) := fun y hy => RS.out y (List.mem_append_left _ hy)
        have GS2 : Hid (Small 256 g) := fun y hy => by have := GS.out y hy; omega
        have C32 : c < 32 := RS.out c (by simp)
        have BE := Lib.hid (bytes_end GA.out RF.out)
        obtain ⟨K, hK⟩ : ∃ K, chk g = K := ⟨_, rfl⟩
        have HK := Lib.hid hK
        have n0 : (0 : Int) ≤ N := by omega
        have n1 : (N : Int) ≤ c0 := by omega
        have n2 : (N : Int) < (N : Int) + 1 := by omega
        have nz : ((N : Int) + 1 == 0) = false := by simp; omega
        clear hK RS RF
        by_cases hKc : K = c
        · subst hKc
          have bk : ((K : Int) != (K : Int)) = false := by simp
          have CK : Hid (¬ chk g ≠ K) := by rw [HK.out]; exact fun h => h rfl
          go_wp2_with fail
          go_quiet ((go_at_call 10; exact quiet_same (chkR_is HK.out (HRg.out.drewN _) (by omega) GS2.out)))
          go_wp2_with fail
          obtain ⟨wo, hwo⟩ : ∃ wo, wo = wr.drewN nq := ⟨_, rfl⟩
          have HRo : Hid (RdK .u8 wo (some ⟨g0, 0, none⟩) N g) := by rw [hwo]; exact HRg.out.drewN nq
          have HBo : Hid (Below w.heap.size w wo) := by rw [hwo]; exact below_dN hb.out nq
          rw [← hwo]
          clear hwo hcc HR HRg
          refine (refBits _ _ _ 5 g _ HRo.out (by omega) GS2.out (by omega) (by omega)).mono ?_
          rintro e w1 ⟨v1, rfl, hown1, hb1⟩
          have LL : Hid ((bitsL 5 g).length = 5 * N) := by show _ = _; rw [bitsL_len, HN.out]
          have AB : Hid (AreBits (bitsL 5 g)) := bitsL_are _ _
          obtain ⟨L, hL⟩ : ∃ L, bitsL 5 g = L := ⟨_, rfl⟩
          rw [hL] at hown1 LL AB BE
          obtain ⟨J, M, hJM, hM8⟩ : ∃ J M, 5 * N = 8 * J + M ∧ M < 8 := ⟨5 * N / 8, 5 * N % 8, by omega, by omega⟩
          rw [hJM] at LL
          have HJM := Lib.hid hJM
          have JB : 8 * J + M ≤ 10000 := by omega
          rw [LL.out] at hown1
          clear hJM
          obtain ⟨A1, c1, rfl⟩ := own_any hown1
          have CP : 8 * J + M ≤ c1 ∧ c1 ≤ maxLen := own_cap0 hown1
          have cp1 := CP.1
          have cp2 := CP.2
          unfold maxLen at cp2
          clear CP
          have HC1 := Lib.hid (rd_of_own hown1)
          have HO1 := Lib.hid hown1
          have HB1 := Lib.hid (HBo.out.trans (hb1.mono HBo.out.size))
          clear hown1 hb1 hL
          go_wp2_with fail
          refine (refNums _ _ _ 8 L _ HC1.out (by omega) AB.out (by omega) (by omega)).mono ?_
          rintro e w2 ⟨v2, rfl, hown2, hb2⟩
          have NL : Hid ((numsOf 8 L).length = J) := by show _ = _; rw [numsOf, numsTo_len, LL.out]; omega
          rw [NL.out] at hown2
          obtain ⟨A2, c2, rfl⟩ := own_any hown2
          have HR2 := Lib.hid (rd_of_own hown2)
          have HB2 := Lib.hid (HB1.out.trans (hb2.mono HB1.out.size))
          have HC2 := Lib.hid (HC1.out.below hb2 (Nat.le_refl _))
          clear hown2 hb2
          have RL : Hid ((restOf 8 L).length = M) := by show _ = _; rw [restOf_len, LL.out]; omega
          have RD : Hid (restOf 8 L = L.drop (8 * J)) := by show _ = _; unfold restOf; rw [LL.out, show (8 * J + M) / 8 = J by omega]
          have lm : (M : Int) < 8 := by omega
          by_cases h5 : 5 ≤ M
          · have m5 : 5 ≤ (M : Int) := by omega
            have hc : ¬ c1 = 8 * J := by omega
            have hc' : ¬ 8 * J = c1 := by omega
            have WR : Hid (bytesOf (byt s) = ([], 0, 13)) := by show _ = _; rw [BE.out, if_neg CK.out, RL.out, if_pos (.inr h5)]
            clear h5
            go_wp2_with fail
            all_goals
              go_ret3
              exact gives_none WR.out HB2.out
          · have m5 : (M : Int) < 5 := by omega
            have hM : M < 5 := by omega
            by_cases hM0 : M = 0
            · subst hM0
              have WR : Hid (bytesOf (byt s) = (numsOf 8 L, 0, 0)) := by
                show _ = _
                have e0 : restOf 8 L = [] := List.eq_nil_of_length_eq_zero RL.out
                rw [BE.out, if_neg CK.out, e0, if_neg (by simp [val])]
              by_cases hc : c1 = 8 * J
              · have hc' : 8 * J = c1 := hc.symm
                subst hc
                clear hc'
                go_wp2_with fail
                go_loop [12] (fun i => i = .int .i64 0) (fun i => 0)
                case atStart => exact rfl
                case round =>
                  obtain rfl := hrel
                  go_wp2_with fail
                  go_ret3
                  exact ⟨_, _, _, by rw [WR.out]; rfl, by rw [WR.out]; exact HR2.out, HB2.out⟩
              · have hc' : ¬ 8 * J = c1 := by omega
                go_wp2_with fail
                go_loop [12] (fun i => i = .int .i64 0) (fun i => 0)
                case atStart => exact rfl
                case round =>
                  obtain rfl := hrel
                  go_wp2_with fail
                  go_ret3
                  exact ⟨_, _, _, by rw [WR.out]; rfl, by rw [WR.out]; exact HR2.out, HB2.out⟩
            · have hc : ¬ c1 = 8 * J := by omega
              have hc' : ¬ 8 * J = c1 := by omega
              obtain ⟨g1, c3, he⟩ := own_form HO1.out (by omega)
              simp only [Value.slice.injEq] at he
              obtain ⟨rfl, _, rfl⟩ := he
              have HD : Hid (RdK .i64 w2 (some ⟨g1, 0 + 8 * J, none⟩) (8 * J + M - 8 * J) (restOf 8 L)) := by
                rw [RD.out]
                exact HC2.out.drop (by omega)
              rw [show 8 * J + M - 8 * J = M by omega] at HD
              rw [Nat.zero_add] at HD
              have M5 := m5
              go_wp2_with fail
              go_loop [12] (fun i => ∃ k : Nat, k ≤ M ∧ i = .int .i64 k ∧ Hid (∀ j, j < k → (restOf 8 L)[j]? = some 0)) (fun i => M - (intOf i).toNat)
              case atStart => exact ⟨0, by omega, rfl, fun j hj => by omega⟩
              case round =>
                obtain ⟨k, hk, rfl, hz⟩ := hrel
                by_cases hlk : k < M
                · obtain ⟨x, b, off, hA, hx, hcx⟩ := HD.out.at hlk
                  simp only [Option.some.injEq, Addr.mk.injEq, and_true] at hA
                  obtain ⟨rfl, rfl⟩ := hA
                  have k0 : (k : Int) < M := by omega
                  by_cases hx0 : x = 0
                  · subst hx0
                    have ZX : Hid (∀ j, j < k + 1 → (restOf 8 L)[j]? = some 0) := fun j hj => by
                      rcases Nat.lt_or_ge j k with h1 | h1
                      · exact hz.out j h1
                      · obtain rfl : j = k := by omega
                        exact hx.out
                    go_wp2_with fail
                    go_round
                    case rel => exact ⟨k + 1, by omega, by go_num, ZX.out⟩
                    case measure => simp [intOf]; omega
                  · have bx : ((x : Int) != 0) = true := by simp; omega
                    have WR : Hid (bytesOf (byt s) = ([], 0, 13)) := by
                      show _ = _
                      rw [BE.out, if_neg CK.out, if_pos (.inl fun h0 => hx0 ((val_zero_iff _).1 h0 x (List.mem_of_getElem? hx.out)))]
                    clear hx0
                    go_wp2_with fail
                    go_ret3
                    exact gives_none WR.out HB2.out
                · obtain rfl : k = M := by omega
                  have WR : Hid (bytesOf (byt s) = (numsOf 8 L, 0, 0)) := by
                    show _ = _
                    have e0 : val (restOf 8 L) = 0 := (val_zero_iff _).2 fun x hx => by
                      obtain ⟨j, hj⟩ := List.mem_iff_getElem?.1 hx
                      have hlt := (List.getElem?_eq_some_iff.1 hj).1
                      rw [RL.out] at hlt
                      rw [hz.out j hlt] at hj
                      cases hj
                      rfl
                    rw [BE.out, if_neg CK.out, e0, RL.out, if_neg (by omega)]
                  go_wp2_with fail
                  go_ret3
                  exact ⟨_, _, _, by rw [WR.out]; rfl, by rw [WR.out]; exact HR2.out, HB2.out⟩
        · have CK : Hid (chk g ≠ c) := by rw [HK.out]; exact hKc
          have bk : ((K : Int) != (c : Int)) = true := by simp; omega
          have WR : Hid (bytesOf (byt s) = ([], 0, 12)) := by show _ = _; rw [BE.out, if_pos CK.out]
          clear hKc
          go_wp2_with fail
          go_quiet ((go_at_call 10; exact quiet_same (chkR_is HK.out (HRg.out.drewN _) (by omega) GS2.out)))
          go_wp2_with fail
          go_ret3
          exact gives_none WR.out (below_dN hb.out nq)
end Go.Proofs.Ytaanmikdhhdeiaa
