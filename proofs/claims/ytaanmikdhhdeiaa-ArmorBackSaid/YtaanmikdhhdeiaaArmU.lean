/-
  The reference's Text hands back textOf. Conditions: the argument's reading; at most 1000 bytes.
-/
import Derived.Test.YtaanmikdhhdeiaaArmT
namespace Go.Proofs.Ytaanmikdhhdeiaa
open Go.ChangeShapes Go.WideShapes Go.ChangeAt Go.RowKit
set_option linter.unusedVariables false

theorem ret_str {a b : ByteArray} (h : a = b) : Ending.returned (.string a) = .returned (.string b) := by rw [h]
theorem quiet_same {P : Program} {f : FuncId} {args : Array Value} {w : World} {n : Nat} {v : Value}
    (h : Calls P f args (w.drewN n) fun e w'' => e = .returned v ∧ w.drewN n = w'') : Calls P f args (w.drewN n) fun e w'' => e = .returned v ∧ ∃ m, w'' = w.drewN m :=
  h.mono fun _ _ ⟨he, hm⟩ => ⟨he, n, hm.symm⟩
theorem strN_app (a b : List Nat) : strN (a ++ b) = strN a ++ strN b := by
  apply ByteArray.ext
  apply Array.toList_inj.1
  simp [strN]
theorem strN_size (a : List Nat) : (strN a).size = a.length := by
  have : (strN a).data.toList.length = a.length := by simp [strN]
  simpa using this
theorem refSigns (w : World) : Calls Try.prog 20 #[] w fun e w' => e = .returned (.string { data := #[48, 49, 50, 51, 52, 53, 54, 55, 56, 57, 65, 66, 67, 68, 69, 70, 71, 72, 74, 75, 77, 78, 80, 81, 82, 83, 84, 86, 87, 88, 89, 90] }) ∧ w = w' := by
  go_enter Try.func20, Try.ntmps20
  go_wp2
  go_ret
  exact ⟨rfl, rfl⟩
theorem sg1 (x : Nat) (h : x < 32) : ({ data := #[48, 49, 50, 51, 52, 53, 54, 55, 56, 57, 65, 66, 67, 68, 69, 70, 71, 72, 74, 75, 77, 78, 80, 81, 82, 83, 84, 86, 87, 88, 89, 90] } : ByteArray).extract x (x + 1) = strN [signs.getD x 0] := by
  have key : ∀ y : Fin 32, ({ data := #[48, 49, 50, 51, 52, 53, 54, 55, 56, 57, 65, 66, 67, 68, 69, 70, 71, 72, 74, 75, 77, 78, 80, 81, 82, 83, 84, 86, 87, 88, 89, 90] } : ByteArray).extract y.val (y.val + 1) = strN [signs.getD y.val 0] := by decide
  exact key ⟨x, h⟩
theorem pad_is {L : List Nat} {z : Nat} (h : (L.length + z) % 5 = 0) (hz : z ≤ (5 - L.length % 5) % 5) : L ++ List.replicate z 0 = padOf 5 L := by
  have e : z = (5 - L.length % 5) % 5 := by omega
  rw [e]; rfl
set_option maxHeartbeats 1000000 in
theorem refText (A : Option Addr) (n c : Nat) (l : List Nat) (w : World) (h : RdK .u8 w A n l) (hm : n ≤ 1000) (hs : Small 256 l) : Calls Try.prog 8 #[.slice A n c] w fun e w' => e = .returned (.string (strN (textOf l))) ∧ Below w.heap.size w w' := by
  obtain ⟨i0, hi, hz0, hz1, hz2⟩ := info_parts Try.info5
  obtain ⟨j0, hj, hy0, hy1, hy2⟩ := info_parts Try.info3
  have HL := Lib.hid (show n = l.length from h.1)
  have FL := Lib.hid (fivesOf_len l)
  have F32 : Hid (Small 32 (fivesOf l)) := fivesOf_lt l
  go_enter Try.func8, Try.ntmps8
  go_wp2_with fail
  refine (refBits A n c 8 l _ h (by omega) hs (by omega) (by omega)).mono ?_
  rintro e w1 ⟨v1, rfl, hown1, hb1⟩
  have HLB : Hid ((bitsL 8 l).length = 8 * n) := by show _ = _; rw [bitsL_len, ← HL.out]
  obtain ⟨L, hL⟩ : ∃ L, bitsL 8 l = L := ⟨_, rfl⟩
  have FE : Hid (fivesOf l = numsOf 5 (padOf 5 L)) := by show _ = _; rw [fivesOf, hL]
  have AB : Hid (AreBits L) := by show AreBits _; rw [← hL]; exact bitsL_are _ _
  rw [hL] at hown1 HLB
  have HO1 := Lib.hid hown1
  have HB1 := Lib.hid hb1
  clear hown1 hb1 hL
  go_wp2_with fail
  go_loopw [3] (fun v wr => ∃ (z : Nat), z ≤ (5 - 8 * n % 5) % 5 ∧ Hid (wr.ownsRow w.heap.size 3 1 v (8 * n + z) (ints .i64 (L ++ List.replicate z 0))) ∧ Hid (Below w.heap.size w wr)) (fun v _ => match v with | .slice _ m _ => (5 - m % 5) % 5 | _ => 0)
  case atStart => exact ⟨0, by omega, by rw [List.replicate_zero, List.append_nil, Nat.add_zero, ← HLB.out]; exact HO1, HB1⟩
  case round =>
    obtain ⟨z, hz, hO, hb⟩ := hrel
    have sz := hb.out.size
    obtain ⟨M, hM⟩ : ∃ M, 8 * n + z = M := ⟨_, rfl⟩
    rw [hM] at hO
    obtain ⟨Az, cz, rfl⟩ := own_any hO.out
    have MB : M ≤ 9000 := by omega
    have HM := Lib.hid hM
    clear hM
    by_cases h5 : M % 5 = 0
    · have b5 : ((M : Int) % 5 != 0) = false := by simp; omega
      have PE : Hid (L ++ List.replicate z 0 = padOf 5 L) := pad_is (by rw [HLB.out, HM.out]; exact h5) (by rw [HLB.out]; exact hz)
      rw [PE.out] at hO
      have ABP : Hid (AreBits (padOf 5 L)) := padOf_are AB.out
      go_wp2_with fail
      refine (refNums _ _ _ 5 (padOf 5 L) _ (rd_of_own hO.out) (by omega) ABP.out (by omega) (by omega)).mono ?_
      rintro e w2 ⟨v2, rfl, hown2, hb2⟩
      rw [← FE.out] at hown2
      obtain ⟨F, hF⟩ : ∃ F, fivesOf l = F := ⟨_, rfl⟩
      have TE : Hid (textOf l = textTo (F ++ [chk F]) (F.length + 1)) := by show _ = _; rw [← hF]; unfold textOf; simp
      rw [hF] at hown2 F32 FL
      have FN : F.length ≤ 2000 := by have := FL.out; have := HL.out; omega
      obtain ⟨A2, c2, rfl⟩ := own_any hown2
      have HO2 := Lib.hid hown2
      have HB2 := Lib.hid (hb.out.trans (hb2.mono sz))
      have HZ2 := Lib.hid (Nat.le_trans sz hb2.size)
      have HZ3 := Lib.hid hb2.size
      have SZ1 := Lib.hid sz
      clear hown2 hb2 hF sz
      go_wp2_with fail
      refine (refChk _ _ _ F _ (rd_of_own HO2.out) (by omega) (fun x hx => by have := F32.out x hx; omega)).mono ?_
      rintro e w3 ⟨rfl, rfl⟩
      have CL := chk_lt F
      obtain ⟨K, hK⟩ : ∃ K, chk F = K := ⟨_, rfl⟩
      rw [hK] at CL TE
      rw [hK]
      have K2 : (K : Int) % 256 = K := by omega
      clear hK
      go_wp2_with (at_builtin; refine wpList_append_own _ rfl _ _ 22 rfl wr.heap.size 5 i0 _ 1 1 Try.underlying22 hi hz0 hz1 hz2 rfl (by omega) _ _ _ rfl (HO2.out.alloc _) ⟨w2.heap.size, 0, none⟩ 1 1 [.int .u8 (K : Int)] rfl rfl (World.news_of_block (cs := #[.int .u8 (K : Int)]) (t := 5) (fr := (0, 0)) (heap_alloc_new w2 _)) (by simp [Value.oneCell']) (by unfold maxLen; omega) (by omega) (by have := HZ3.out; simp; omega) ?_; intro v' w3 hown' hgrow _; obtain ⟨N, hN⟩ : ∃ N, F.length + 1 = N := ⟨_, rfl⟩; rw [hN] at hown'; have HN := Lib.hid hN; have NB : N ≤ 3000 := (by omega); have NB0 : 0 < N := (by omega); clear hN; obtain ⟨g3, c3, rfl⟩ := own_form hown' NB0; have HO3 := Lib.hid (own_ints hown'); have HB3 := Lib.hid ((HB2.out.alloc HZ2.out _).grown hgrow (by have := HZ2.out; simp; omega) (fun j hj => Nat.le_trans SZ1.out (HO2.out.lt j hj).1)); clear hown' hgrow)
      have F32' : Hid (Small 32 (F ++ [K])) := by
        show Small _ _
        intro x hx
        rcases List.mem_append.1 hx with hx | hx
        · exact F32.out x hx
        · rw [List.mem_singleton.1 hx]; omega
      have FL' : Hid ((F ++ [K]).length = N) := by show _ = _; rw [← HN.out]; simp
      obtain ⟨G, hG⟩ : ∃ G, F ++ [K] = G := ⟨_, rfl⟩
      rw [hG] at HO3 F32' FL' TE
      rw [HN.out] at TE
      clear hG
      obtain ⟨wo, rfl⟩ : ∃ wo : World, wo = wr := ⟨_, rfl⟩
      go_loopw [5, 6] (fun v i wr => ∃ (k : Nat) (s : ByteArray) (q : Nat), k ≤ N ∧ i = .int .i64 k ∧ v = .string s ∧ Hid (s = strN (textTo G k)) ∧ Hid (wr = w3.drewN q)) (fun _ i _ => N - (intOf i).toNat)
      case atStart => exact ⟨0, _, 0, by omega, rfl, rfl, rfl, rfl⟩
      case round =>
        obtain ⟨k, s, q, hk, rfl, rfl, hS, hw⟩ := hrel
        have HR3 : Hid (RdK .u8 wr (some ⟨g3, 0, none⟩) N G) := by rw [hw.out]; exact (rd_of_own HO3.out).drewN q
        have TL := Lib.hid (textTo_len G k)
        have SS : s.size ≤ 2 * k := by rw [hS.out, strN_size]; exact TL.out
        by_cases hlt : k < N
        · obtain ⟨x, hx⟩ : ∃ x, Hid (G[k]? = some x) := ⟨_, List.getElem?_eq_getElem (by rw [FL'.out]; exact hlt)⟩
          have hcx : wr.cell? ⟨g3, k, none⟩ = some (.int .u8 (x : Int)) := by
            obtain ⟨b', off', hA, hlt', hc⟩ := HR3.out.2 k x hx.out
            cases hA
            rw [Nat.zero_add] at hc
            exact hc
          have x1 : x < 32 := F32'.out x (List.mem_of_getElem? hx.out)
          have TS := Lib.hid (text_succ G k x hx.out)
          have H1 : ¬ 9223372036854775807 < s.size + (min (x + 1) 32 - x) := by omega
          have H2 : ¬ 9223372036854775807 < s.size + 1 + (min (x + 1) 32 - x) := by omega
          by_cases hp : 0 < k
          · by_cases h4 : k % 4 = 0
            · have b4 : ((k : Int) % 4 == 0) = true := by simp; omega
              go_wp2_with fail
              have WX : Hid (IntKind.i64.wrap ((x : Int) + 1) = (x : Int) + 1) := IntWalk.i64_in _ (by omega)
              have k0 : (0 : Int) ≤ k := by omega
              have k1 : (k : Int) < N := by omega
              have xa : (0 : Int) ≤ x := by omega
              have xb : (x : Int) ≤ (x : Int) + 1 := by omega
              have xc : (x : Int) + 1 ≤ 32 := by omega
              have xd : (0 : Int) ≤ (x : Int) + 1 := by omega
              have xe : ((x : Int) + 1).toNat = x + 1 := by omega
              have wx := WX.out
              go_quiet ((go_at_call 20; exact quiet_same (refSigns _)))
              clear wx xa xb xc xd xe
              go_wp2_with fail
              go_roundw
              case rel =>
                refine ⟨k + 1, _, q + nq, by omega, by go_num, rfl, ?_, by show _ = _; rw [hw.out, World.drewN_drewN]⟩
                show _ = _
                rw [sg1 x x1, TS.out, if_pos ⟨hp, h4⟩, strN_app, strN_app, ← hS.out]
                rfl
              case measure => simp [intOf]; omega
            · have b4 : ((k : Int) % 4 == 0) = false := by simp; omega
              go_wp2_with fail
              have WX : Hid (IntKind.i64.wrap ((x : Int) + 1) = (x : Int) + 1) := IntWalk.i64_in _ (by omega)
              have k0 : (0 : Int) ≤ k := by omega
              have k1 : (k : Int) < N := by omega
              have xa : (0 : Int) ≤ x := by omega
              have xb : (x : Int) ≤ (x : Int) + 1 := by omega
              have xc : (x : Int) + 1 ≤ 32 := by omega
              have xd : (0 : Int) ≤ (x : Int) + 1 := by omega
              have xe : ((x : Int) + 1).toNat = x + 1 := by omega
              have wx := WX.out
              go_quiet ((go_at_call 20; exact quiet_same (refSigns _)))
              clear wx xa xb xc xd xe
              go_wp2_with fail
              go_roundw
              case rel =>
                refine ⟨k + 1, _, q + nq, by omega, by go_num, rfl, ?_, by show _ = _; rw [hw.out, World.drewN_drewN]⟩
                show _ = _
                rw [sg1 x x1, TS.out, if_neg (by omega), List.append_nil, strN_app, ← hS.out]
              case measure => simp [intOf]; omega
          · have hp0 : (k : Int) ≤ 0 := by omega
            go_wp2_with fail
            have WX : Hid (IntKind.i64.wrap ((x : Int) + 1) = (x : Int) + 1) := IntWalk.i64_in _ (by omega)
            have k0 : (0 : Int) ≤ k := by omega
            have k1 : (k : Int) < N := by omega
            have xa : (0 : Int) ≤ x := by omega
            have xb : (x : Int) ≤ (x : Int) + 1 := by omega
            have xc : (x : Int) + 1 ≤ 32 := by omega
            have xd : (0 : Int) ≤ (x : Int) + 1 := by omega
            have xe : ((x : Int) + 1).toNat = x + 1 := by omega
            have wx := WX.out
            go_quiet ((go_at_call 20; exact quiet_same (refSigns _)))
            clear wx xa xb xc xd xe
            go_wp2_with fail
            go_roundw
            case rel =>
              refine ⟨k + 1, _, q + nq, by omega, by go_num, rfl, ?_, by show _ = _; rw [hw.out, World.drewN_drewN]⟩
              show _ = _
              rw [sg1 x x1, TS.out, if_neg (by omega), List.append_nil, strN_app, ← hS.out]
            case measure => simp [intOf]; omega
        · obtain rfl : k = N := by omega
          go_wp2_with fail
          go_ret
          exact ⟨ret_str (by rw [hS.out, TE.out]), by rw [hw.out]; exact below_dN HB3.out q⟩
    · have b5 : ((M : Int) % 5 != 0) = true := by simp; omega
      go_wp2_with (at_builtin; refine wpList_append_own _ rfl _ _ 48 rfl w.heap.size 3 j0 _ 1 8 Try.underlying48 hj hy0 hy1 hy2 rfl (by omega) _ _ _ rfl (hO.out.alloc _) ⟨wr.heap.size, 0, none⟩ 1 1 [.int .i64 0] rfl rfl (World.news_of_block (cs := #[.int .i64 0]) (t := 3) (fr := (0, 0)) (heap_alloc_new wr _)) (by simp [Value.oneCell']) (by unfold maxLen; omega) (by omega) (by simp; omega) ?_; intro v' w1 hown' hgrow _; obtain ⟨g3, c3, rfl⟩ := own_form hown' (by omega); have HO1 := Lib.hid hown'; have hb3 := Lib.hid ((hb.out.alloc sz _).grown hgrow (by simp; omega) (fun j hj => (hO.out.lt j hj).1)); clear hown' hgrow)
      go_roundw
      case rel =>
        refine ⟨z + 1, by have := HM.out; omega, ?_, hb3⟩
        show World.ownsRow _ _ _ _ _ _ _
        rw [← Nat.add_assoc, HM.out, List.replicate_succ', ← List.append_assoc, ints_app]
        exact HO1.out
      case measure => show (5 - (M + 1) % 5) % 5 < (5 - M % 5) % 5; omega
end Go.Proofs.Ytaanmikdhhdeiaa
