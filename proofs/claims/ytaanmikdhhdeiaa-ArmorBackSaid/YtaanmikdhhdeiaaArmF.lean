/-
  armor.fives hands back fivesOf. Conditions: the argument's reading; at most 1000 bytes.
-/
import Derived.Test.YtaanmikdhhdeiaaArmC
import Derived.Laws.Bits64b
namespace Go.Proofs.Ytaanmikdhhdeiaa
open Go.ChangeShapes Go.WideShapes Go.ChangeAt Go.RowKit
set_option linter.unusedVariables false
theorem Try.info5 : (Try.prog.info? 5).map (fun i => (i.zero, i.size, i.bytes)) = some (some (.int .u8 0), 1, 1) := by kernel_rfl

theorem wraps12 (n : Int) (h0 : 0 ≤ n) (h1 : n < 2 ^ 12) : IntKind.u64.wrap n = n := by rw [IntKind.wrap_u64]; omega
theorem or_256 {B x : Nat} (hB : B < 16) (hx : x < 256) : bits .or .u64 ((B : Int) * 256) (x : Int) = ((B * 256 + x : Nat) : Int) := by
  rw [bits_join .u64 12 (by decide) wraps12 8 _ _ (by omega) (by omega) (by omega) (by omega) (by omega) (by omega)]
  omega
theorem and_31 {C : Nat} (hC : C < 4096) : bits .and .u64 (C : Int) 31 = ((C % 32 : Nat) : Int) := by
  rw [show (31 : Int) = 2 ^ 5 - 1 by decide, bits_mask .u64 12 (by decide) wraps12 5 (by omega) _ (by omega) (by omega)]
  omega
theorem shr_and_31 {C M : Nat} (hC : C < 4096) : bits .and .u64 ((C : Int) / 2 ^ M) 31 = ((C / 2 ^ M % 32 : Nat) : Int) := by
  have e : (C : Int) / 2 ^ M = ((C / 2 ^ M : Nat) : Int) := by simp
  rw [e]
  exact and_31 (Nat.lt_of_le_of_lt (Nat.div_le_self _ _) hC)
theorem and_mask {C M : Nat} (hC : C < 4096) (hM : M ≤ 7) : bits .and .u64 (C : Int) (2 ^ M - 1) = ((C % 2 ^ M : Nat) : Int) := by
  rw [bits_mask .u64 12 (by decide) wraps12 M (by omega) _ (by omega) (by omega)]
  simp
theorem mask_is {M : Nat} (hM : M ≤ 7) : IntKind.u64.wrap (IntKind.u64.wrap ((2 : Int) ^ M) - 1) = 2 ^ M - 1 := by
  match M, hM with
  | 0, _ | 1, _ | 2, _ | 3, _ | 4, _ | 5, _ | 6, _ | 7, _ => rfl
/-- The value of what is left, with a byte more. -/
theorem rest_more {m : Nat} {l : List Nat} {k x w : Nat} (h : l[k]? = some x) (hx : x < 2 ^ w) : val ((bitsL w (l.take (k + 1))).drop (m * (w * k / m))) = val (restOf m (bitsL w (l.take k))) * 2 ^ w + x := by
  have hk := (List.getElem?_eq_some_iff.1 h).1
  have hl : (bitsL w (l.take k)).length = w * k := by rw [bitsL_len, List.length_take, Nat.min_eq_left (by omega)]
  have hd : m * (w * k / m) ≤ w * k := Nat.mul_div_le _ _
  rw [take_succ_of h, bitsL_snoc, List.drop_append_of_le_length (by omega), val_app, val_bitsOf, bitsOf_len, Nat.mod_eq_of_lt hx]
  unfold restOf
  rw [hl]
theorem numsTo_more {m w : Nat} {l : List Nat} {k x j : Nat} (h : l[k]? = some x) (hj : m * j ≤ w * k) : numsTo m (bitsL w (l.take (k + 1))) j = numsTo m (bitsL w (l.take k)) j := by
  have hk := (List.getElem?_eq_some_iff.1 h).1
  have hl : (bitsL w (l.take k)).length = w * k := by rw [bitsL_len, List.length_take, Nat.min_eq_left (by omega)]
  rw [take_succ_of h, bitsL_snoc, numsTo_app (by omega)]
theorem pad_more {L : List Nat} (h : 0 < L.length % 5) : numsOf 5 (padOf 5 L) = numsOf 5 L ++ [val (restOf 5 L) * 2 ^ (5 - L.length % 5)] := by
  have e : (5 - L.length % 5) % 5 = 5 - L.length % 5 := Nat.mod_eq_of_lt (by omega)
  unfold padOf
  rw [e]
  have hl : (L ++ List.replicate (5 - L.length % 5) 0).length / 5 = L.length / 5 + 1 := by
    rw [List.length_append, List.length_replicate]; omega
  unfold numsOf
  rw [hl, numsTo_succ, numsTo_app (by omega)]
  congr 2
  unfold numAt
  have hr := restOf_len 5 L
  rw [List.drop_append_of_le_length (by omega)]
  have hd : List.drop (5 * (L.length / 5)) L = restOf 5 L := rfl
  rw [hd, List.take_of_length_le (by rw [List.length_append, List.length_replicate, hr]; omega), val_app, val_zeros, List.length_replicate, Nat.add_zero]
/-- In the midst of a byte: j numbers are out, M bits are left. -/
def Mid (m w k j M : Nat) : Prop := w * k / m ≤ j ∧ M + m * j = w * (k + 1)
set_option maxHeartbeats 1000000 in
theorem goFives (A : Option Addr) (n c : Nat) (l : List Nat) (w : World) (h : RdK .u8 w A n l) (hm : n ≤ 1000) (hs : Small 256 l) : Calls Try.prog 15 #[.slice A n c] w (GivesK .u8 5 (fivesOf l) w) := by
  obtain ⟨i0, hi, hz0, hz1, hz2⟩ := info_parts Try.info5
  have HL := Lib.hid (show n = l.length from h.1)
  go_enter Try.func15, Try.ntmps15
  go_wp2
  go_loopw [3, 4, 5, 10] (fun v b m i wr => ∃ (k B N : Nat), k ≤ n ∧ i = .int .i64 k ∧ b = .int .u64 B ∧ m = .int .u64 N ∧ B < 16 ∧ N ≤ 4 ∧ Hid (N = 8 * k % 5) ∧ Hid (B = val (restOf 5 (bitsL 8 (l.take k)))) ∧ Hid (wr.ownsRow w.heap.size 5 1 v (8 * k / 5) (ints .u8 (numsTo 5 (bitsL 8 (l.take k)) (8 * k / 5)))) ∧ Hid (Below w.heap.size w wr)) (fun _ _ _ i _ => n - (intOf i).toNat)
  case atStart => exact ⟨0, 0, 0, by omega, rfl, rfl, rfl, by omega, by omega, rfl, (by show _ = _; simp [bitsL, restOf, val]), World.ownsRow_nil _ _ _ _, Below.refl _ _⟩
  case round =>
    obtain ⟨k, B, N, hk, rfl, rfl, rfl, hB, hN, hNk, hBv, hO, hb⟩ := hrel
    by_cases hlt : k < n
    · obtain ⟨x, bb, off, hA, hx, hcx⟩ := (h.below hb.out (Nat.le_refl _)).at hlt
      subst hA
      have x1 : x < 256 := hs.at hx.out
      obtain ⟨C, hC⟩ : ∃ C, B * 256 + x = C := ⟨_, rfl⟩
      have C1 : C < 4096 := by omega
      have CV : Hid (C = val ((bitsL 8 (l.take (k + 1))).drop (5 * (8 * k / 5)))) := by show _ = _; rw [rest_more hx.out x1, ← hBv.out, ← hC]
      have LL : Hid ((bitsL 8 (l.take (k + 1))).length = 8 * (k + 1)) := by show _ = _; rw [bitsL_len, List.length_take, Nat.min_eq_left (by have := HL.out; omega)]
      have ho : bits .or .u64 ((B : Int) * 256) (x : Int) = (C : Int) := by rw [or_256 hB x1, hC]
      clear hC
      go_wp2
      obtain ⟨wo, rfl⟩ : ∃ wo : World, wo = wr := ⟨_, rfl⟩
      go_loopw [3, 5] (fun v m w2 => ∃ (j M : Nat), m = .int .u64 M ∧ M ≤ 12 ∧ Hid (Mid 5 8 k j M) ∧ Hid (w2.ownsRow w.heap.size 5 1 v j (ints .u8 (numsTo 5 (bitsL 8 (l.take (k + 1))) j))) ∧ Hid (Below w.heap.size w w2)) (fun _ m _ => (intOf m).toNat)
      case atStart => exact ⟨8 * k / 5, N + 8, by go_num, by omega, ⟨Nat.le_refl _, by have := hNk.out; omega⟩, by rw [numsTo_more hx.out (by omega)]; exact hO, hb⟩
      case round =>
        obtain ⟨j, M, rfl, hM, hj, hO2, hb2⟩ := hrel
        by_cases h5 : 5 ≤ M
        · obtain ⟨M', rfl⟩ : ∃ M', M = M' + 5 := ⟨M - 5, by omega⟩
          obtain ⟨D, hD⟩ : ∃ D, C / 2 ^ M' % 32 = D := ⟨_, rfl⟩
          have hd : bits .and .u64 ((C : Int) / 2 ^ M') 31 = (D : Int) := by rw [shr_and_31 C1, hD]
          have D1 : D < 32 := by omega
          have D2 : (D : Int) % 256 = D := by omega
          have DV : Hid (D = numAt 5 (bitsL 8 (l.take (k + 1))) j) := by
            have hj' := hj.out
            unfold Mid at hj'
            show _ = _
            rw [← hD, CV.out]
            exact num_out (bitsL_are _ _) hj'.1 (by rw [LL.out]; omega) (by rw [LL.out]; omega)
          have jb : j ≤ 10000 := by have hj' := hj.out; unfold Mid at hj'; omega
          have sz := hb2.out.size
          clear hD h5
          go_wp2_with (at_builtin; refine wpList_append_own _ rfl _ _ 22 rfl w.heap.size 5 i0 _ 1 1 Try.underlying22 hi hz0 hz1 hz2 rfl (by omega) _ _ _ rfl (hO2.out.alloc _) ⟨wr.heap.size, 0, none⟩ 1 1 [.int .u8 (D : Int)] rfl rfl (World.news_of_block (cs := #[.int .u8 (D : Int)]) (t := 5) (fr := (0, 0)) (heap_alloc_new wr _)) (by simp [Value.oneCell']) (by unfold maxLen; omega) (by omega) (by simp; omega) ?_; intro v' w1 hown' hgrow _; have HO1 := Lib.hid hown'; have hb3 := Lib.hid ((hb2.out.alloc sz _).grown hgrow (by simp; omega) (fun j hj => (hO2.out.lt j hj).1)); clear hown' hgrow)
          go_roundw
          case rel =>
            refine ⟨j + 1, M', rfl, by omega, ?_, ?_, hb3⟩
            · have hj' := hj.out
              unfold Mid at hj' ⊢
              show _ ∧ _
              omega
            · show World.ownsRow _ _ _ _ _ _ _
              rw [numsTo_succ, ints_app, ← DV.out]
              exact HO1.out
          case measure => simp [intOf]; omega
        · have ha : bits .and .u64 (C : Int) (IntKind.u64.wrap (IntKind.u64.wrap (2 ^ M) - 1)) = ((C % 2 ^ M : Nat) : Int) := by rw [mask_is (by omega)]; exact and_mask C1 (by omega)
          have JE : Hid (j = 8 * (k + 1) / 5 ∧ M = 8 * (k + 1) % 5) := by have hj' := hj.out; unfold Mid at hj'; show _ ∧ _; omega
          obtain ⟨D, hD⟩ : ∃ D, C % 2 ^ M = D := ⟨_, rfl⟩
          have D1 : D < 16 := by
            have : (2 : Nat) ^ M ≤ 2 ^ 4 := Nat.pow_le_pow_right (by omega) (by omega)
            have h2 := Nat.mod_lt C (show 0 < 2 ^ M from Nat.pow_pos (by omega))
            omega
          have DV : Hid (D = val (restOf 5 (bitsL 8 (l.take (k + 1))))) := by
            have hj' := hj.out
            unfold Mid at hj'
            show _ = _
            have := rest_out (m := 5) (l := bitsL 8 (l.take (k + 1))) (bitsL_are _ _) (j := 8 * k / 5) (k := j) hj'.1 (by rw [LL.out]; omega)
            rw [LL.out, ← CV.out, show 8 * (k + 1) - 5 * j = M by omega, hD] at this
            rw [this]
            unfold restOf
            rw [LL.out, JE.out.1]
          rw [hD] at ha
          clear hD
          go_wp2
          go_roundw
          case rel =>
            refine ⟨k + 1, D, M, by omega, by go_num, rfl, rfl, D1, by omega, JE.out.2, DV, ?_, hb2⟩
            show World.ownsRow _ _ _ _ _ _ _
            rw [← JE.out.1]
            exact hO2.out
          case measure => simp [intOf]; omega
    · obtain rfl : k = n := by omega
      have LT : l.take k = l := by rw [HL.out]; exact List.take_length
      rw [LT] at hBv hO
      have sz := hb.out.size
      have LL : Hid ((bitsL 8 l).length = 8 * k) := by show _ = _; rw [bitsL_len, ← HL.out]
      rcases Nat.eq_zero_or_pos N with rfl | hp
      · have E : Hid (fivesOf l = numsTo 5 (bitsL 8 l) (8 * k / 5)) := by
          show _ = _
          rw [fivesOf, padOf_whole (by rw [LL.out]; exact hNk.out.symm), numsOf, LL.out]
        go_wp2
        go_ret
        refine ⟨_, rfl, ?_, hb.out⟩
        rw [E.out, numsTo_len]
        exact hO.out
      · obtain ⟨D, hD⟩ : ∃ D, B * 2 ^ (5 - N) = D := ⟨_, rfl⟩
        have D1 : D < 32 := by
          have h1 := hBv.out
          have h2 := val_lt _ (restOf_are (m := 5) (bitsL_are 8 l))
          rw [restOf_len, LL.out, ← hNk.out, ← h1] at h2
          have h3 : B * 2 ^ (5 - N) < 2 ^ N * 2 ^ (5 - N) := Nat.mul_lt_mul_of_pos_right h2 (Nat.pow_pos (by omega))
          rw [← Nat.pow_add, show N + (5 - N) = 5 by omega] at h3
          omega
        have E : Hid (fivesOf l = numsTo 5 (bitsL 8 l) (8 * k / 5) ++ [D]) := by
          show _ = _
          rw [fivesOf, pad_more (by rw [LL.out, ← hNk.out]; exact hp), numsOf, LL.out, ← hBv.out, ← hNk.out, hD]
        have ED : Hid (B * 2 ^ (5 - N) = D) := hD
        have D2 : (D : Int) % 256 = D := by omega
        clear hD
        rcases (show N = 1 ∨ N = 2 ∨ N = 3 ∨ N = 4 by omega) with rfl | rfl | rfl | rfl
        · have ha : bits .and .u64 ((B : Int) * 16) 31 = (D : Int) := by
            have e : B * 16 = D := ED.out
            have e2 : (B : Int) * 16 = ((D : Nat) : Int) := by omega
            rw [e2, and_31 (by omega), Nat.mod_eq_of_lt D1]
          go_wp2_with (at_builtin; refine wpList_append_own _ rfl _ _ 22 rfl w.heap.size 5 i0 _ 1 1 Try.underlying22 hi hz0 hz1 hz2 rfl (by omega) _ _ _ rfl (hO.out.alloc _) ⟨wr.heap.size, 0, none⟩ 1 1 [.int .u8 (D : Int)] rfl rfl (World.news_of_block (cs := #[.int .u8 (D : Int)]) (t := 5) (fr := (0, 0)) (heap_alloc_new wr _)) (by simp [Value.oneCell']) (by unfold maxLen; omega) (by omega) (by simp; omega) ?_; intro v' w1 hown' hgrow _; have HO1 := Lib.hid hown'; have hb3 := Lib.hid ((hb.out.alloc sz _).grown hgrow (by simp; omega) (fun j hj => (hO.out.lt j hj).1)); clear hown' hgrow)
          go_ret
          refine ⟨_, rfl, ?_, hb3.out⟩
          rw [E.out, List.length_append, numsTo_len, ints_app]
          exact HO1.out
        · have ha : bits .and .u64 ((B : Int) * 8) 31 = (D : Int) := by
            have e : B * 8 = D := ED.out
            have e2 : (B : Int) * 8 = ((D : Nat) : Int) := by omega
            rw [e2, and_31 (by omega), Nat.mod_eq_of_lt D1]
          go_wp2_with (at_builtin; refine wpList_append_own _ rfl _ _ 22 rfl w.heap.size 5 i0 _ 1 1 Try.underlying22 hi hz0 hz1 hz2 rfl (by omega) _ _ _ rfl (hO.out.alloc _) ⟨wr.heap.size, 0, none⟩ 1 1 [.int .u8 (D : Int)] rfl rfl (World.news_of_block (cs := #[.int .u8 (D : Int)]) (t := 5) (fr := (0, 0)) (heap_alloc_new wr _)) (by simp [Value.oneCell']) (by unfold maxLen; omega) (by omega) (by simp; omega) ?_; intro v' w1 hown' hgrow _; have HO1 := Lib.hid hown'; have hb3 := Lib.hid ((hb.out.alloc sz _).grown hgrow (by simp; omega) (fun j hj => (hO.out.lt j hj).1)); clear hown' hgrow)
          go_ret
          refine ⟨_, rfl, ?_, hb3.out⟩
          rw [E.out, List.length_append, numsTo_len, ints_app]
          exact HO1.out
        · have ha : bits .and .u64 ((B : Int) * 4) 31 = (D : Int) := by
            have e : B * 4 = D := ED.out
            have e2 : (B : Int) * 4 = ((D : Nat) : Int) := by omega
            rw [e2, and_31 (by omega), Nat.mod_eq_of_lt D1]
          go_wp2_with (at_builtin; refine wpList_append_own _ rfl _ _ 22 rfl w.heap.size 5 i0 _ 1 1 Try.underlying22 hi hz0 hz1 hz2 rfl (by omega) _ _ _ rfl (hO.out.alloc _) ⟨wr.heap.size, 0, none⟩ 1 1 [.int .u8 (D : Int)] rfl rfl (World.news_of_block (cs := #[.int .u8 (D : Int)]) (t := 5) (fr := (0, 0)) (heap_alloc_new wr _)) (by simp [Value.oneCell']) (by unfold maxLen; omega) (by omega) (by simp; omega) ?_; intro v' w1 hown' hgrow _; have HO1 := Lib.hid hown'; have hb3 := Lib.hid ((hb.out.alloc sz _).grown hgrow (by simp; omega) (fun j hj => (hO.out.lt j hj).1)); clear hown' hgrow)
          go_ret
          refine ⟨_, rfl, ?_, hb3.out⟩
          rw [E.out, List.length_append, numsTo_len, ints_app]
          exact HO1.out
        · have ha : bits .and .u64 ((B : Int) * 2) 31 = (D : Int) := by
            have e : B * 2 = D := ED.out
            have e2 : (B : Int) * 2 = ((D : Nat) : Int) := by omega
            rw [e2, and_31 (by omega), Nat.mod_eq_of_lt D1]
          go_wp2_with (at_builtin; refine wpList_append_own _ rfl _ _ 22 rfl w.heap.size 5 i0 _ 1 1 Try.underlying22 hi hz0 hz1 hz2 rfl (by omega) _ _ _ rfl (hO.out.alloc _) ⟨wr.heap.size, 0, none⟩ 1 1 [.int .u8 (D : Int)] rfl rfl (World.news_of_block (cs := #[.int .u8 (D : Int)]) (t := 5) (fr := (0, 0)) (heap_alloc_new wr _)) (by simp [Value.oneCell']) (by unfold maxLen; omega) (by omega) (by simp; omega) ?_; intro v' w1 hown' hgrow _; have HO1 := Lib.hid hown'; have hb3 := Lib.hid ((hb.out.alloc sz _).grown hgrow (by simp; omega) (fun j hj => (hO.out.lt j hj).1)); clear hown' hgrow)
          go_ret
          refine ⟨_, rfl, ?_, hb3.out⟩
          rw [E.out, List.length_append, numsTo_len, ints_app]
          exact HO1.out
end Go.Proofs.Ytaanmikdhhdeiaa
