/-
  armor.Text hands back textOf. Conditions: the argument's reading; at most 1000 bytes.
-/
import Derived.Test.YtaanmikdhhdeiaaArmG
import Derived.Test.YtaanmikdhhdeiaaArmW
namespace Go.Proofs.Ytaanmikdhhdeiaa
open Go.ChangeShapes Go.WideShapes Go.ChangeAt Go.RowKit
set_option linter.unusedVariables false

def strN (l : List Nat) : ByteArray := ⟨(l.map UInt8.ofNat).toArray⟩
theorem byteCells_of : ∀ {l : List Nat}, Small 256 l → ints .u8 l = Lib.byteCells (l.map UInt8.ofNat) := by
  intro l h
  unfold ints Lib.byteCells
  rw [List.map_map]
  refine List.map_congr_left fun x hx => ?_
  have hx' := h x hx
  simp [UInt8.toNat_ofNat']
  omega
theorem text_small {f : List Nat} (h : Small 32 f) {k : Nat} (hk : k ≤ f.length) : Small 256 (textTo f k) := fun c hc => by
  rcases text_good h k hk c hc with h | h
  · omega
  · omega
theorem textTo_len (f : List Nat) : ∀ k, (textTo f k).length ≤ 2 * k
  | 0 => by simp [textTo]
  | k + 1 => by
    have := textTo_len f k
    rw [textTo, List.length_append, List.length_append]
    split <;> simp <;> omega
theorem own_ints {w : World} {base n : Nat} {v : Value} {xs : List Nat} {x : Nat} (h : w.ownsRow base 5 1 v n (ints .u8 xs ++ [.int .u8 (x : Int)])) : w.ownsRow base 5 1 v n (ints .u8 (xs ++ [x])) := by rw [ints_app]; exact h
theorem rd_of_own {k : IntKind} {w : World} {base e n : Nat} {A : Option Addr} {c : Nat} {l : List Nat} (h : w.ownsRow base e 1 (.slice A n c) n (ints k l)) : RdK k w A n l := by
  obtain ⟨A', c', e1, hr, _⟩ := RdK.own h
  cases e1
  exact hr
theorem text_succ (f : List Nat) (k x : Nat) (h : f[k]? = some x) : textTo f (k + 1) = textTo f k ++ (if 0 < k ∧ k % 4 = 0 then [45] else []) ++ [signs.getD x 0] := by
  rw [textTo, List.getD_eq_getElem?_getD (l := f), h, Option.getD_some]
theorem sg (x : Nat) (h : x < ({ data := #[48, 49, 50, 51, 52, 53, 54, 55, 56, 57, 65, 66, 67, 68, 69, 70, 71, 72, 74, 75, 77, 78, 80, 81, 82, 83, 84, 86, 87, 88, 89, 90] } : ByteArray).size) : (({ data := #[48, 49, 50, 51, 52, 53, 54, 55, 56, 57, 65, 66, 67, 68, 69, 70, 71, 72, 74, 75, 77, 78, 80, 81, 82, 83, 84, 86, 87, 88, 89, 90] } : ByteArray)[x]).toNat = signs.getD x 0 := by
  have key : ∀ y : Fin 32, (({ data := #[48, 49, 50, 51, 52, 53, 54, 55, 56, 57, 65, 66, 67, 68, 69, 70, 71, 72, 74, 75, 77, 78, 80, 81, 82, 83, 84, 86, 87, 88, 89, 90] } : ByteArray)[y.val]'(y.isLt)).toNat = signs.getD y.val 0 := by decide
  exact key ⟨x, h⟩
set_option maxHeartbeats 1000000 in
theorem goText (A : Option Addr) (n c : Nat) (l : List Nat) (w : World) (h : RdK .u8 w A n l) (hm : n ≤ 1000) (hs : Small 256 l) : Calls Try.prog 7 #[.slice A n c] w fun e w' => e = .returned (.tuple #[.string (strN (textOf l)), .int .i64 0]) ∧ Below w.heap.size w w' := by
  obtain ⟨i0, hi, hz0, hz1, hz2⟩ := info_parts Try.info5
  have HL := Lib.hid (show n = l.length from h.1)
  have FL := Lib.hid (fivesOf_len l)
  have F32 : Hid (Small 32 (fivesOf l)) := fivesOf_lt l
  go_enter Try.func7, Try.ntmps7
  go_wp2_with fail
  refine (goFives A n c l _ h hm hs).mono ?_
  rintro e w1 ⟨v1, rfl, hown1, hb1⟩
  obtain ⟨A1, c1, rfl, hr1, hc1, hc1'⟩ := RdK.own hown1
  have HO1 := Lib.hid hown1
  have HR1 := Lib.hid hr1
  have HB1 := Lib.hid hb1
  have HZ1 := Lib.hid hb1.size
  obtain ⟨F, hF⟩ : ∃ F, fivesOf l = F := ⟨_, rfl⟩
  have TE : Hid (textOf l = textTo (F ++ [chk F]) (F.length + 1)) := by show _ = _; rw [← hF]; unfold textOf; simp
  rw [hF] at HO1 HR1 F32 FL
  rw [hF]
  have FN : F.length ≤ 2000 := by have := FL.out; have := HL.out; omega
  clear hown1 hr1 hb1 hF
  go_wp2_with fail
  refine (goChk _ _ _ F _ HR1.out (by omega) (fun x hx => by have := F32.out x hx; omega)).mono ?_
  rintro e w2 ⟨rfl, rfl⟩
  have CL := Lib.hid (chk_lt F)
  obtain ⟨K, hK⟩ : ∃ K, chk F = K := ⟨_, rfl⟩
  rw [hK] at CL TE
  rw [hK]
  clear hK
  go_wp2_with (at_builtin; go_loud (refine wpList_append_own _ rfl _ _ 22 rfl w.heap.size 5 i0 _ 1 1 Try.underlying22 hi hz0 hz1 hz2 rfl (by omega) _ _ _ rfl (HO1.out.alloc _) ⟨w1.heap.size, 0, none⟩ 1 1 [.int .u8 (K : Int)] rfl rfl (World.news_of_block (cs := #[.int .u8 (K : Int)]) (t := 5) (fr := (0, 0)) (heap_alloc_new w1 _)) (by simp [Value.oneCell']) (by unfold maxLen; omega) (by omega) (by have := HZ1.out; simp; omega) ?_; intro v' w3 hown' hgrow _; obtain ⟨N, hN⟩ : ∃ N, F.length + 1 = N := ⟨_, rfl⟩; rw [hN] at hown'; have HN := Lib.hid hN; have NB : N ≤ 3000 := (by omega); have NB0 : 0 < N := (by omega); clear hN; obtain ⟨g3, c3, rfl⟩ := own_form hown' NB0; have HO3 := Lib.hid (own_ints hown'); have HB3 := Lib.hid ((HB1.out.alloc HZ1.out _).grown hgrow (by have := HZ1.out; simp; omega) (fun j hj => (HO1.out.lt j hj).1)); clear hown' hgrow))
  have HR3 := Lib.hid (rd_of_own HO3.out)
  have F32' : Hid (Small 32 (F ++ [K])) := by
    show Small _ _
    intro x hx
    rcases List.mem_append.1 hx with hx | hx
    · exact F32.out x hx
    · rw [List.mem_singleton.1 hx]; have := CL.out; omega
  have FL' : Hid ((F ++ [K]).length = F.length + 1) := by show _ = _; simp
  obtain ⟨G, hG⟩ : ∃ G, F ++ [K] = G := ⟨_, rfl⟩
  rw [hG] at HO3 HR3 F32' FL' TE
  have HZ3 := Lib.hid HB3.out.size
  rw [HN.out] at FL' TE
  clear hG
  obtain ⟨wB, hB⟩ : ∃ wB, wB = w3.alloc (.cells #[.pointer none, .slice none 0 0] 43) := ⟨_, rfl⟩
  have IB : Hid (Lib.IsBuilder 43 5 w3.heap.size w3.heap.size (ints .u8 (textTo G 0)) wB) := by rw [hB]; exact Lib.fresh_isBuilder 43 5 w3
  have HBB : Hid (Below w.heap.size w wB) := by rw [hB]; exact HB3.out.alloc HZ3.out _
  have SB : Hid (w3.heap.size ≤ wB.heap.size) := by rw [hB]; show _ ≤ _; simp
  have HRB : Hid (RdK .u8 wB (some ⟨g3, 0, none⟩) N G) := by rw [hB]; exact HR3.out.alloc _
  have GB : Hid (g3 < w3.heap.size) := (own_cap HO3.out).2.2.2
  rw [← hB]
  clear hB HO1 HR1 HB1 HZ1 HO3 HR3 HB3
  go_loopw [20] (fun i wr => ∃ k : Nat, k ≤ N ∧ i = .int .i64 k ∧ Hid (Lib.IsBuilder 43 5 w3.heap.size w3.heap.size (ints .u8 (textTo G k)) wr) ∧ Hid (Below w3.heap.size wB wr)) (fun i _ => N - (intOf i).toNat)
  case atStart => exact ⟨0, by omega, rfl, IB, Below.refl _ _⟩
  case round =>
    obtain ⟨k, hk, rfl, hI, hb⟩ := hrel
    by_cases hlt : k < N
    · obtain ⟨x, hx⟩ : ∃ x, Hid (G[k]? = some x) := ⟨_, List.getElem?_eq_getElem (by rw [FL'.out]; exact hlt)⟩
      have hcx : wr.cell? ⟨g3, k, none⟩ = some (.int .u8 (x : Int)) := by
        obtain ⟨b', off', hA, hlt', hc⟩ := HRB.out.2 k x hx.out
        cases hA
        rw [Nat.zero_add] at hc
        exact (hb.out.cell (p := ⟨g3, k, none⟩) GB.out).trans hc
      have x1 : x < 32 := F32'.out x (List.mem_of_getElem? hx.out)
      have TL := Lib.hid (textTo_len G k)
      have TS := Lib.hid (text_succ G k x hx.out)
      have sz := Lib.hid (Nat.le_trans SB.out hb.out.size)
      by_cases hp : 0 < k
      · by_cases h4 : k % 4 = 0
        · have b4 : ((k : Int) % 4 == 0) = true := by simp; omega
          go_wp2_with fail
          refine (writeByte _ _ _ _ _ hI.out (by rw [ints_len]; have := TL.out; omega) sz.out).mono ?_
          rintro e w4 ⟨rfl, hI1, hb1⟩
          have HI1 := Lib.hid hI1
          have HB1 := Lib.hid (hb.out.trans hb1)
          have SZ1 := Lib.hid (Nat.le_trans sz.out hb1.size)
          clear hI1 hb1
          go_wp2_with fail
          refine (writeByte _ _ _ _ _ HI1.out (by rw [List.length_append, ints_len]; have := TL.out; simp; omega) SZ1.out).mono ?_
          rintro e w5 ⟨rfl, hI2, hb2⟩
          rw [sg] at hI2
          have HI2 := Lib.hid hI2
          have HB2 := Lib.hid (HB1.out.trans hb2)
          clear hI2 hb2
          go_wp2_with fail
          go_roundw
          case rel =>
            refine ⟨k + 1, by omega, by go_num, ?_, HB2⟩
            show Lib.IsBuilder _ _ _ _ _ _
            rw [TS.out, if_pos ⟨hp, h4⟩, ints_app, ints_app]
            exact HI2.out
          case measure => simp [intOf]; omega
        · have b4 : ((k : Int) % 4 == 0) = false := by simp; omega
          go_wp2_with fail
          refine (writeByte _ _ _ _ _ hI.out (by rw [ints_len]; have := TL.out; omega) sz.out).mono ?_
          rintro e w4 ⟨rfl, hI2, hb2⟩
          rw [sg] at hI2
          have HI2 := Lib.hid hI2
          have HB2 := Lib.hid (hb.out.trans hb2)
          clear hI2 hb2
          go_wp2_with fail
          go_roundw
          case rel =>
            refine ⟨k + 1, by omega, by go_num, ?_, HB2⟩
            show Lib.IsBuilder _ _ _ _ _ _
            rw [TS.out, if_neg (by omega), List.append_nil, ints_app]
            exact HI2.out
          case measure => simp [intOf]; omega
      · have hp0 : (k : Int) ≤ 0 := by omega
        go_wp2_with fail
        refine (writeByte _ _ _ _ _ hI.out (by rw [ints_len]; have := TL.out; omega) sz.out).mono ?_
        rintro e w4 ⟨rfl, hI2, hb2⟩
        rw [sg] at hI2
        have HI2 := Lib.hid hI2
        have HB2 := Lib.hid (hb.out.trans hb2)
        clear hI2 hb2
        go_wp2_with fail
        go_roundw
        case rel =>
          refine ⟨k + 1, by omega, by go_num, ?_, HB2⟩
          show Lib.IsBuilder _ _ _ _ _ _
          rw [TS.out, if_neg (by omega), List.append_nil, ints_app]
          exact HI2.out
        case measure => simp [intOf]; omega
    · obtain rfl : k = N := by omega
      have sz := Lib.hid (Nat.le_trans SB.out hb.out.size)
      have TSm := Lib.hid (text_small F32'.out (k := k) (by rw [FL'.out]; exact Nat.le_refl _))
      go_wp2_with fail
      refine (Try.Builder_String_any _ _ ((textTo G k).map UInt8.ofNat) _ (by rw [← byteCells_of TSm.out]; exact hI.out) sz.out).mono ?_
      rintro e w4 ⟨rfl, hb4⟩
      have E : Hid (({ data := (List.map UInt8.ofNat (textTo G k)).toArray } : ByteArray) = strN (textOf l)) := by show _ = _; rw [TE.out]; rfl
      have HB4 := Lib.hid (HBB.out.trans ((hb.out.trans hb4).mono HZ3.out))
      clear hb4
      rw [E.out]
      go_wp2_with fail
      go_ret2
      exact ⟨rfl, HB4.out⟩
end Go.Proofs.Ytaanmikdhhdeiaa
