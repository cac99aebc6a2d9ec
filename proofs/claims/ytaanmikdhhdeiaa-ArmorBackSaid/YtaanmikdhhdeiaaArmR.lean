/-
  armor.Bytes: what a text is read as. Conditions: at most 2000 bytes.
-/
import Derived.Test.YtaanmikdhhdeiaaArmV
import Derived.Outline
namespace Go.Proofs.Ytaanmikdhhdeiaa
open Go.ChangeShapes Go.WideShapes Go.ChangeAt Go.RowKit
set_option linter.unusedVariables false

/-- A call hands back bytes, a place and an error: what the text s is read as. -/
def GivesB (s : ByteArray) (w : World) (e : Ending) (w' : World) : Prop :=
  ∃ A N c, e = .returned (.tuple #[.slice A N c, .int .i64 ((bytesOf (byt s)).2.1 : Nat), .int .i64 ((bytesOf (byt s)).2.2 : Nat)]) ∧ RdK .u8 w' A N (bytesOf (byt s)).1 ∧ Below w.heap.size w w'
theorem gives_none {s : ByteArray} {w w' : World} {p q : Nat} (h : bytesOf (byt s) = ([], p, q)) (hb : Below w.heap.size w w') : GivesB s w (.returned (.tuple #[.slice none 0 0, .int .i64 (p : Nat), .int .i64 (q : Nat)])) w' :=
  ⟨none, 0, 0, by rw [h], by rw [h]; exact RdK.nil _ _ _, hb⟩
theorem iter_kept {w w' : World} {k B : Nat} {o : Obj} (h : w.heap[k]? = some o) (hb : Below B w w') (hk : k < B) : w'.heap[k]? = some o := (hb.block k hk).trans h
theorem iter_grown {w w' : World} {k : Nat} {s : ByteArray} {pos : Nat} {o : Obj} {row : Option Nat} (h : w.heap[k]? = some (.stringIter s pos)) (hg : (w.alloc o).grownBy w' row) (hne : some k ≠ row) : w'.heap[k]? = some (.stringIter s pos) := by
  have hlt := (Array.getElem?_eq_some_iff.1 h).1
  rw [hg.block k (by rw [World.size_alloc]; omega) hne]
  exact (heap_alloc_old w o hlt).trans h
theorem own_below {w w' : World} {base n : Nat} {t : TypeId} {size : Nat} {v : Value} {xs : List Value} (h : w.ownsRow base t size v n xs) (hb : Below w.heap.size w w') : w'.ownsRow base t size v n xs :=
  h.kept (row := none) ⟨hb.os, hb.tape, hb.output, hb.size, fun i hi _ => hb.block i hi⟩ (by
    rcases hv : v.ownBlock with _ | g
    · exact .inl rfl
    · exact .inr (by simp))
theorem chk_is {A : Option Addr} {n c K : Nat} {f : List Nat} {w : World} (hK : chk f = K) (h : RdK .u8 w A n f) (hm : n ≤ 1000000) (hs : Small 256 f) : Calls Try.prog 9 #[.slice A n c] w fun e w' => e = .returned (.int .u8 (K : Nat)) ∧ w = w' := by rw [← hK]; exact goChk A n c f w h hm hs
theorem or_32 {B x : Nat} (hB : B < 128) (hx : x < 32) : bits .or .u64 ((B : Int) * 32) (x : Int) = ((B * 32 + x : Nat) : Int) := by
  rw [bits_join .u64 12 (by decide) wraps12 5 _ _ (by omega) (by omega) (by omega) (by omega) (by omega) (by omega)]
  omega
set_option maxHeartbeats 4000000 in
theorem goBytes (s : ByteArray) (w : World) (hs : s.size ≤ 2000) : Calls Try.prog 11 #[.string s] w (GivesB s w) := by
  obtain ⟨i0, hi, hz0, hz1, hz2⟩ := info_parts Try.info5
  have BS := Lib.hid (byt_small s)
  have BL := Lib.hid (byt_len s)
  go_enter Try.func11, Try.ntmps11
  go_wp2
  go_loopw [5] (fun v wr => ∃ (pos : Nat), pos ≤ s.size ∧ Hid (GoodTo (byt s) pos) ∧ Hid (wr.heap[w.heap.size]? = some (.stringIter s pos)) ∧ Hid (wr.ownsRow (w.heap.size + 1) 5 1 v (readOf ((byt s).take pos)).length (ints .u8 (readOf ((byt s).take pos)))) ∧ Hid (Below w.heap.size w wr)) (fun _ wr => s.size - wr.iterPos w.heap.size)
  case atStart => exact ⟨0, by omega, fun c hc => by simp at hc, World.iter_heap w s 0, World.ownsRow_nil _ _ _ _, (Below.refl _ _).alloc (Nat.le_refl _) _⟩
  case round =>
    obtain ⟨pos, hp, hg, hit, hO, hb⟩ := hrel
    have LT := Lib.hid (Array.getElem?_eq_some_iff.1 hit.out).1
    by_cases hlt : pos < s.size
    · have HX := Lib.hid (byt_at hlt)
      obtain ⟨x, hx⟩ : ∃ x, (s[pos]'hlt).toNat = x := ⟨_, rfl⟩
      rw [hx] at HX
      have X256 : x < 256 := BS.out.at HX.out
      by_cases ha : x < 128
      · have hnx : ∀ ty, (Instr.next (.pointer (some ⟨w.heap.size, 0, none⟩)) true ty).run Try.prog wr = .ok (.tuple #[.bool true, .int .i64 pos, .int .i32 (x : Nat)]) (wr.iterAt w.heap.size s (pos + 1)) := fun ty => by rw [Lib.run_next_ascii_at wr w.heap.size s pos ty hit.out hlt (by omega), hx]
        have HI2 := Lib.hid (Lib.iterAt_heap wr w.heap.size s pos (pos + 1) hit.out)
        have HO2 := Lib.hid (own_iterAt hO.out (Nat.lt_succ_self _) s (pos + 1))
        have HB2 := Lib.hid (Lib.below_iterAt hb.out (Nat.le_refl _) s (pos + 1))
        have SZ2 : Hid ((wr.iterAt w.heap.size s (pos + 1)).heap.size = wr.heap.size) := Lib.iterAt_size _ _ _ _
        have IP : Hid (wr.iterPos w.heap.size = pos) := by show _ = _; unfold World.iterPos; rw [hit.out]
        clear hx
        by_cases h45 : x = 45
        · have b45 : ((x : Int) == 45) = true := by simp; omega
          have GX : Hid (GoodTo (byt s) (pos + 1)) := goodTo_succ hg.out HX.out (.inl h45)
          have RX : Hid (readOf ((byt s).take (pos + 1)) = readOf ((byt s).take pos)) := read_dash (by rw [← h45]; exact HX.out)
          clear h45
          go_wp2
          go_roundw
          case rel => exact ⟨pos + 1, by omega, GX, HI2, by rw [RX.out]; exact HO2, HB2⟩
          case measure =>
            have e : (wr.iterAt w.heap.size s (pos + 1)).iterPos w.heap.size = pos + 1 := by unfold World.iterPos; rw [HI2.out]
            rw [IP.out, e]; omega
        · have b45 : ((x : Int) == 45) = false := by simp; omega
          by_cases hf : five x < 32
          · have GX : Hid (GoodTo (byt s) (pos + 1)) := goodTo_succ hg.out HX.out (.inr hf)
            have RX : Hid (readOf ((byt s).take (pos + 1)) = readOf ((byt s).take pos) ++ [five x]) := read_sign HX.out h45
            have SG := Lib.hid (sgn_pos hf)
            obtain ⟨F, hF⟩ : ∃ F, five x = F := ⟨_, rfl⟩
            rw [hF] at RX SG hf
            have F2 : (F : Int) % 256 = F := by omega
            have RL : Hid ((readOf ((byt s).take pos)).length ≤ 2000) := by
              have h1 := readOf_le ((byt s).take pos)
              rw [List.length_take] at h1
              show _ ≤ _
              omega
            clear hF h45
            go_wp2_with fail
            refine (goSign x _ (by omega)).mono ?_
            rintro e w3 ⟨rfl, hb3⟩
            rw [SG.out]
            have HI3 := Lib.hid (iter_kept HI2.out hb3 (by rw [SZ2.out]; exact LT.out))
            have HO3 := Lib.hid (own_below HO2.out hb3)
            have HB3 := Lib.hid (HB2.out.trans (hb3.mono HB2.out.size))
            have SZ3 : Hid (w.heap.size + 1 ≤ w3.heap.size) := by have := hb3.size; have := SZ2.out; have := LT.out; show _ ≤ _; omega
            clear hb3
            go_wp2_with (at_builtin; refine wpList_append_own _ rfl _ _ 22 rfl (w.heap.size + 1) 5 i0 _ 1 1 Try.underlying22 hi hz0 hz1 hz2 rfl (by omega) _ _ _ rfl (HO3.out.alloc _) ⟨w3.heap.size, 0, none⟩ 1 1 [.int .u8 (F : Int)] rfl rfl (World.news_of_block (cs := #[.int .u8 (F : Int)]) (t := 5) (fr := (0, 0)) (heap_alloc_new w3 _)) (by simp [Value.oneCell']) (by have := RL.out; unfold maxLen; omega) (by have := RL.out; omega) (by have := SZ3.out; simp; omega) ?_; intro v' w4 hown' hgrow _; have HO4 := Lib.hid (own_ints hown'); have HB4 := Lib.hid ((HB3.out.alloc HB3.out.size _).grown hgrow (by have := HB3.out.size; simp; omega) (fun j hj => Nat.le_of_succ_le (HO3.out.lt j hj).1)); have HI4 := Lib.hid (iter_grown HI3.out hgrow (fun e => by have := (HO3.out.lt _ e.symm).1; omega)); clear hown' hgrow)
            go_roundw
            case rel =>
              refine ⟨pos + 1, by omega, GX, HI4, ?_, HB4⟩
              rw [RX.out, List.length_append]
              exact HO4
            case measure =>
              have e : w4.iterPos w.heap.size = pos + 1 := by unfold World.iterPos; rw [HI4.out]
              rw [IP.out, e]; omega
          · have WR : Hid (bytesOf (byt s) = ([], pos + 1, 11)) := bytes_wrong hg.out HX.out h45 hf
            have SG := Lib.hid (sgn_neg hf)
            clear hf h45
            go_wp2_with fail
            refine (goSign x _ (by omega)).mono ?_
            rintro e w3 ⟨rfl, hb3⟩
            rw [SG.out]
            have HB3 := Lib.hid (HB2.out.trans (hb3.mono HB2.out.size))
            clear hb3
            go_wp2_with fail
            go_ret3
            exact gives_none WR.out HB3.out
      · obtain ⟨hr, hw⟩ := decode_high s pos hlt (by rw [hx]; omega)
        have hle := decode_le s pos
        obtain ⟨R, hR⟩ : ∃ R, (Utf8.decode s pos).1 = R := ⟨_, rfl⟩
        obtain ⟨D, hD⟩ : ∃ D, (Utf8.decode s pos).2 = D := ⟨_, rfl⟩
        rw [hR] at hr hle
        have hnx : ∀ ty, (Instr.next (.pointer (some ⟨w.heap.size, 0, none⟩)) true ty).run Try.prog wr = .ok (.tuple #[.bool true, .int .i64 pos, .int .i32 (R : Nat)]) (wr.iterAt w.heap.size s (pos + D)) := fun ty => by rw [Lib.run_next_any_at wr w.heap.size s pos ty hit.out hlt, hR, hD]
        have HB2 := Lib.hid (Lib.below_iterAt hb.out (Nat.le_refl _) s (pos + D))
        have WR : Hid (bytesOf (byt s) = ([], pos + 1, 11)) := bytes_wrong hg.out HX.out (by omega) (five_high (by omega))
        have SG := Lib.hid (sgn_neg (five_high hr))
        have b45 : ((R : Int) == 45) = false := by simp; omega
        clear hx hR hD hw
        go_wp2_with fail
        refine (goSign R _ hle).mono ?_
        rintro e w3 ⟨rfl, hb3⟩
        rw [SG.out]
        have HB3 := Lib.hid (HB2.out.trans (hb3.mono HB2.out.size))
        clear hb3
        go_wp2_with fail
        go_ret3
        exact gives_none WR.out HB3.out
    · obtain rfl : pos = s.size := by omega
      have hnx : ∀ ty, (Instr.next (.pointer (some ⟨w.heap.size, 0, none⟩)) true ty).run Try.prog wr = .ok (.tuple #[.bool false]) wr := fun ty => Lib.run_next_end_at wr w.heap.size s s.size ty hit.out hlt
      have TK : (byt s).take s.size = byt s := by rw [← BL.out]; exact List.take_length
      rw [TK] at hO
      have GA : Hid (GoodTo (byt s) (byt s).length) := by show GoodTo _ _; rw [BL.out]; exact hg.out
      have RS : Hid (Small 32 (readOf (byt s))) := readOf_small (fun c hc => GA.out c (by rw [List.take_length]; exact hc))
      have RLn : Hid ((readOf (byt s)).length ≤ 2000) := by have := readOf_le (byt s); have := BL.out; show _ ≤ _; omega
      clear TK hit
      obtain ⟨f, hf⟩ : ∃ f, readOf (byt s) = f := ⟨_, rfl⟩
      rw [hf] at hO RS RLn
      have RF := Lib.hid hf
      clear hf
      rcases f.eq_nil_or_concat with rfl | ⟨g, c, rfl⟩
      · have WR : Hid (bytesOf (byt s) = ([], 0, 10)) := bytes_empty GA.out RF.out
        obtain ⟨A0, c0, rfl⟩ := own_any hO.out
        go_wp2_with fail
        go_ret3
        exact gives_none WR.out hb.out
      · rw [List.concat_eq_append] at hO RS RLn RF
        obtain ⟨N, hN⟩ : ∃ N, g.length = N := ⟨_, rfl⟩
        have HN := Lib.hid hN
        have e1 : (g ++ [c]).length = N + 1 := by rw [List.length_append, hN]; rfl
        rw [e1] at hO RLn
        clear e1 hN
        obtain ⟨g0, c0, rfl⟩ := own_form hO.out (by omega)
        obtain ⟨nc, cm, gb, gl⟩ := own_cap hO.out
        have NB : N ≤ 2000 := by have := RLn.out; omega
        unfold maxLen at cm
        have HR := Lib.hid (rd_of_own hO.out)
        have HRg : Hid (RdK .u8 wr (some ⟨g0, 0, none⟩) N g) := by
          have h1 := HR.out.take (m := N) (by omega)
          rw [show (g ++ [c]).take N = g by rw [← HN.out]; simp] at h1
          exact h1
        have hcc : wr.cell? ⟨g0, N, none⟩ = some (.int .u8 (c : Int)) := by
          obtain ⟨b', off', hA, hlt', hc⟩ := HR.out.2 N c (by rw [← HN.out]; simp)
          cases hA
          rw [Nat.zero_add] at hc
          exact hc
        have GS : Hid (Small 32 g) := fun y hy => RS.out y (List.mem_append_left _ hy)
        have GS2 : Hid (Small 256 g) := fun y hy => by have := GS.out y hy; omega
        have C32 : c < 32 := RS.out c (by simp)
        have BE := Lib.hid (bytes_end GA.out RF.out)
        obtain ⟨K, hK⟩ : ∃ K, chk g = K := ⟨_, rfl⟩
        have HK := Lib.hid hK
        have n0 : (0 : Int) ≤ N := by omega
        have n1 : (N : Int) ≤ c0 := by omega
        have n2 : (N : Int) < (N : Int) + 1 := by omega
        have nz : ((N : Int) + 1 == 0) = false := by simp; omega
        clear hK RS RF
        by_cases hKc : K = c
        · subst hKc
          have bk : ((K : Int) != (K : Int)) = false := by simp
          have CK : Hid (¬ chk g ≠ K) := by rw [HK.out]; exact fun h => h rfl
          go_wp2_with fail
          go_quiet ((go_at_call 9; exact quiet_same (chk_is HK.out (HRg.out.drewN _) (by omega) GS2.out)))
          go_wp2_with fail
          obtain ⟨wo, hwo⟩ : ∃ wo, wo = wr.drewN nq := ⟨_, rfl⟩
          have HRo : Hid (RdK .u8 wo (some ⟨g0, 0, none⟩) N g) := by rw [hwo]; exact HRg.out.drewN nq
          have HBo : Hid (Below w.heap.size w wo) := by rw [hwo]; exact below_dN hb.out nq
          rw [← hwo]
          clear hwo hcc HR HRg
          go_loopw [10, 11, 12, 56] (fun v b m i w2 => ∃ (k B M : Nat), k ≤ N ∧ i = .int .i64 k ∧ b = .int .u64 B ∧ m = .int .u64 M ∧ B < 128 ∧ M ≤ 7 ∧ Hid (M = 5 * k % 8) ∧ Hid (B = val (restOf 8 (bitsL 5 (g.take k)))) ∧ Hid (w2.ownsRow wo.heap.size 5 1 v (5 * k / 8) (ints .u8 (numsTo 8 (bitsL 5 (g.take k)) (5 * k / 8)))) ∧ Hid (Below wo.heap.size wo w2)) (fun _ _ _ i _ => N - (intOf i).toNat)
          case atStart => exact ⟨0, 0, 0, by omega, rfl, rfl, rfl, by omega, by omega, rfl, (by show _ = _; simp [bitsL, restOf, val]), World.ownsRow_nil _ _ _ _, Below.refl _ _⟩
          case round =>
            clear hO hb bk
            obtain ⟨k, B, M, hk, rfl, rfl, rfl, hB, hM, hMk, hBv, hO, hb⟩ := hrel
            have sz := hb.out.size
            by_cases hlk : k < N
            · obtain ⟨x, bb, off, hA, hx, hcx⟩ := (HRo.out.below hb.out (Nat.le_refl _)).at hlk
              cases hA
              rw [Nat.zero_add] at hcx
              have x1 : x < 32 := GS.out.at hx.out
              obtain ⟨C, hC⟩ : ∃ C, B * 32 + x = C := ⟨_, rfl⟩
              have C1 : C < 4096 := by omega
              have CV : Hid (C = val ((bitsL 5 (g.take (k + 1))).drop (8 * (5 * k / 8)))) := by show _ = _; rw [rest_more hx.out x1, ← hBv.out, ← hC]
              have LL : Hid ((bitsL 5 (g.take (k + 1))).length = 5 * (k + 1)) := by show _ = _; rw [bitsL_len, List.length_take, Nat.min_eq_left (by have := HN.out; omega)]
              have ho : bits .or .u64 ((B : Int) * 32) (x : Int) = (C : Int) := by rw [or_32 hB x1, hC]
              have MK := hMk.out
              by_cases h8 : 3 ≤ M
              · obtain ⟨M', hM'⟩ : ∃ M', M = M' + 3 := ⟨M - 3, by omega⟩
                have JE : Hid (5 * (k + 1) / 8 = 5 * k / 8 + 1 ∧ M' = 5 * (k + 1) % 8 ∧ 8 * (5 * k / 8 + 1) + M' = 5 * (k + 1)) := by show _ ∧ _ ∧ _; omega
                obtain ⟨D, hD⟩ : ∃ D, C / 2 ^ M' % 256 = D := ⟨_, rfl⟩
                have hd : (C : Int) / 2 ^ M' % 256 = (D : Int) := by rw [← hD]; simp
                have DV : Hid (D = numAt 8 (bitsL 5 (g.take (k + 1))) (5 * k / 8)) := by
                  show _ = _
                  rw [← hD, CV.out]
                  exact num_out (bitsL_are _ _) (Nat.le_refl _) (by rw [LL.out]; have := JE.out; omega) (by rw [LL.out]; have := JE.out; omega)
                obtain ⟨E, hE⟩ : ∃ E, C % 2 ^ M' = E := ⟨_, rfl⟩
                have ha : bits .and .u64 (C : Int) (IntKind.u64.wrap (IntKind.u64.wrap (2 ^ M') - 1)) = (E : Int) := by rw [mask_is (by omega), and_mask C1 (by omega), hE]
                have E1 : E < 128 := by
                  have : (2 : Nat) ^ M' ≤ 2 ^ 4 := Nat.pow_le_pow_right (by omega) (by omega)
                  have h2 := Nat.mod_lt C (show 0 < 2 ^ M' from Nat.pow_pos (by omega))
                  omega
                have EV : Hid (E = val (restOf 8 (bitsL 5 (g.take (k + 1))))) := by
                  show _ = _
                  have h1 := rest_out (m := 8) (l := bitsL 5 (g.take (k + 1))) (bitsL_are _ _) (j := 5 * k / 8) (k := 5 * k / 8 + 1) (by omega) (by rw [LL.out]; have := JE.out; omega)
                  rw [LL.out, ← CV.out, show 5 * (k + 1) - 8 * (5 * k / 8 + 1) = M' by have := JE.out; omega, hE] at h1
                  rw [h1]
                  unfold restOf
                  rw [LL.out, JE.out.1]
                have NM := Lib.hid (numsTo_more (m := 8) (w := 5) hx.out (j := 5 * k / 8) (by omega))
                have m4 : M' ≤ 4 := by omega
                have m8 : 8 ≤ (M : Int) + 5 := by omega
                have m3 : (M : Int) + 5 - 8 = (M' : Int) := by omega
                clear hC hD hE MK h8 hM'
                go_wp2_with (at_builtin; refine wpList_append_own _ rfl _ _ 22 rfl wo.heap.size 5 i0 _ 1 1 Try.underlying22 hi hz0 hz1 hz2 rfl (by omega) _ _ _ rfl (hO.out.alloc _) ⟨wr.heap.size, 0, none⟩ 1 1 [.int .u8 (D : Int)] rfl rfl (World.news_of_block (cs := #[.int .u8 (D : Int)]) (t := 5) (fr := (0, 0)) (heap_alloc_new wr _)) (by simp [Value.oneCell']) (by unfold maxLen; omega) (by omega) (by simp; omega) ?_; intro v' w1 hown' hgrow _; have HO1 := Lib.hid (own_ints hown'); have hb3 := Lib.hid ((hb.out.alloc sz _).grown hgrow (by simp; omega) (fun j hj => (hO.out.lt j hj).1)); clear hown' hgrow)
                go_roundw
                case rel =>
                  refine ⟨k + 1, E, M', by omega, by go_num, rfl, rfl, E1, by omega, JE.out.2.1, EV, ?_, hb3⟩
                  show World.ownsRow _ _ _ _ _ _ _
                  rw [JE.out.1, numsTo_succ, NM.out, ← DV.out]
                  exact HO1.out
                case measure => simp [intOf]; omega
              · have JE : Hid (5 * (k + 1) / 8 = 5 * k / 8 ∧ M + 5 = 5 * (k + 1) % 8) := by show _ ∧ _; omega
                have CV2 : Hid (C = val (restOf 8 (bitsL 5 (g.take (k + 1))))) := by
                  show _ = _
                  rw [CV.out]
                  unfold restOf
                  rw [LL.out, JE.out.1]
                have C2 : C < 128 := by
                  have h1 := val_lt _ (restOf_are (m := 8) (bitsL_are 5 (g.take (k + 1))))
                  rw [← CV2.out, restOf_len, LL.out, ← JE.out.2] at h1
                  have : (2 : Nat) ^ (M + 5) ≤ 2 ^ 7 := Nat.pow_le_pow_right (by omega) (by omega)
                  omega
                have NM := Lib.hid (numsTo_more (m := 8) (w := 5) hx.out (j := 5 * k / 8) (by omega))
                have m8 : (M : Int) + 5 < 8 := by omega
                clear hC MK
                go_wp2
                go_roundw
                case rel =>
                  refine ⟨k + 1, C, M + 5, by omega, by go_num, rfl, by go_num, C2, by omega, JE.out.2, CV2, ?_, hb⟩
                  show World.ownsRow _ _ _ _ _ _ _
                  rw [JE.out.1, NM.out]
                  exact hO.out
                case measure => simp [intOf]; omega
            · obtain rfl : k = N := by omega
              have TG : g.take k = g := by rw [← HN.out]; exact List.take_length
              rw [TG] at hBv hO
              have LL : Hid ((bitsL 5 g).length = 5 * k) := by show _ = _; rw [bitsL_len, HN.out]
              have RL : Hid ((restOf 8 (bitsL 5 g)).length = M) := by show _ = _; rw [restOf_len, LL.out, hMk.out]
              have HBe := Lib.hid (HBo.out.trans (hb.out.mono HBo.out.size))
              by_cases hbad : B ≠ 0 ∨ 5 ≤ M
              · have WR : Hid (bytesOf (byt s) = ([], 0, 13)) := by
                  show _ = _
                  rw [BE.out, if_neg CK.out, ← hBv.out, RL.out, if_pos hbad]
                rcases hbad with h0 | h5
                · have b0 : ((B : Int) != 0) = true := by simp; omega
                  clear h0
                  go_wp2
                  go_ret3
                  exact gives_none WR.out HBe.out
                · have m5 : 5 ≤ (M : Int) := by omega
                  clear h5
                  by_cases h0 : B = 0
                  · have b0 : ((B : Int) != 0) = false := by simp; omega
                    clear h0
                    go_wp2
                    go_ret3
                    exact gives_none WR.out HBe.out
                  · have b0 : ((B : Int) != 0) = true := by simp; omega
                    clear h0
                    go_wp2
                    go_ret3
                    exact gives_none WR.out HBe.out
              · have b0 : ((B : Int) != 0) = false := by simp; omega
                have m5 : (M : Int) < 5 := by omega
                have WR : Hid (bytesOf (byt s) = (numsTo 8 (bitsL 5 g) (5 * k / 8), 0, 0)) := by
                  show _ = _
                  rw [BE.out, if_neg CK.out, ← hBv.out, RL.out, if_neg hbad, numsOf, LL.out]
                clear hbad
                obtain ⟨Az, cz, rfl⟩ := own_any hO.out
                have RZ := Lib.hid (rd_of_own hO.out)
                go_wp2
                go_ret3
                exact ⟨_, _, _, by rw [WR.out]; rfl, by rw [WR.out]; exact RZ.out, HBe.out⟩
        · have CK : Hid (chk g ≠ c) := by rw [HK.out]; exact hKc
          have bk : ((K : Int) != (c : Int)) = true := by simp; omega
          have WR : Hid (bytesOf (byt s) = ([], 0, 12)) := by show _ = _; rw [BE.out, if_pos CK.out]
          clear hKc
          go_wp2_with fail
          go_quiet ((go_at_call 9; exact quiet_same (chk_is HK.out (HRg.out.drewN _) (by omega) GS2.out)))
          go_wp2_with fail
          go_ret3
          exact gives_none WR.out (below_dN hb.out nq)
end Go.Proofs.Ytaanmikdhhdeiaa
