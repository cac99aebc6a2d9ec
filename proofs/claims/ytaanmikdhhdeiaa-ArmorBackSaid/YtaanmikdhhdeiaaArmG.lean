/-
  The reference's bits and numbers hand back bitsL and numsOf. Conditions: the arguments' readings; one to eight bits each; at most 10000 of them.
-/
import Derived.Test.YtaanmikdhhdeiaaArmF
namespace Go.Proofs.Ytaanmikdhhdeiaa
open Go.ChangeShapes Go.WideShapes Go.ChangeAt Go.RowKit
set_option linter.unusedVariables false
theorem Try.info3 : (Try.prog.info? 3).map (fun i => (i.zero, i.size, i.bytes)) = some (some (.int .i64 0), 1, 8) := by kernel_rfl

/-- The first j of m bits of x. -/
def bitsTo (m x j : Nat) : List Nat := (List.range j).map fun i => x / 2 ^ (m - 1 - i) % 2
theorem bitsTo_succ (m x j : Nat) : bitsTo m x (j + 1) = bitsTo m x j ++ [x / 2 ^ (m - 1 - j) % 2] := by simp [bitsTo, List.range_succ]
theorem bitsTo_len (m x j : Nat) : (bitsTo m x j).length = j := by simp [bitsTo]
theorem bitsTo_all : ∀ (m x : Nat), bitsTo m x m = bitsOf m x
  | 0, _ => rfl
  | m + 1, x => by
    rw [bitsTo_succ, bitsOf, ← bitsTo_all m (x / 2), show m + 1 - 1 - m = 0 by omega, Nat.pow_zero, Nat.div_one]
    congr 1
    unfold bitsTo
    refine List.map_congr_left fun i hi => ?_
    have hi' := List.mem_range.1 hi
    rw [show m + 1 - 1 - i = (m - 1 - i) + 1 by omega, Nat.pow_succ, Nat.mul_comm]
    rw [← Nat.div_div_eq_div_mul]
/-- The scale of bit j. -/
def scB (m j : Nat) : Nat := if j < m then 2 ^ (m - 1 - j) else 0
theorem scB_next {m j : Nat} (h : j < m) : scB m j / 2 = scB m (j + 1) := by
  unfold scB
  rw [if_pos h]
  by_cases h1 : j + 1 < m
  · rw [if_pos h1, show m - 1 - j = (m - 1 - (j + 1)) + 1 by omega, Nat.pow_succ]
    omega
  · rw [if_neg h1, show m - 1 - j = 0 by omega]
theorem two_le {k : Nat} (h : k ≤ 7) : 2 ^ k ≤ 128 := by
  match k, h with
  | 0, _ | 1, _ | 2, _ | 3, _ | 4, _ | 5, _ | 6, _ | 7, _ => decide
set_option maxHeartbeats 1000000 in
theorem refBits (A : Option Addr) (n c m : Nat) (l : List Nat) (w : World) (h : RdK .u8 w A n l) (hm : n ≤ 10000) (hs : Small 256 l) (m0 : 1 ≤ m) (m1 : m ≤ 8) : Calls Try.prog 18 #[.slice A n c, .int .i64 (m : Nat)] w (GivesK .i64 3 (bitsL m l) w) := by
  obtain ⟨i0, hi, hz0, hz1, hz2⟩ := info_parts Try.info3
  have HL := Lib.hid (show n = l.length from h.1)
  go_enter Try.func18, Try.ntmps18
  go_wp2
  go_loopw [5, 6] (fun v i wr => ∃ (k : Nat), k ≤ n ∧ i = .int .i64 k ∧ Hid (wr.ownsRow w.heap.size 3 1 v (m * k) (ints .i64 (bitsL m (l.take k)))) ∧ Hid (Below w.heap.size w wr)) (fun _ i _ => n - (intOf i).toNat)
  case atStart => exact ⟨0, by omega, rfl, World.ownsRow_nil _ _ _ _, Below.refl _ _⟩
  case round =>
    obtain ⟨k, hk, rfl, hO, hb⟩ := hrel
    have MK : Hid (m * k ≤ 80000) := by
      show _ ≤ _
      exact Nat.le_trans (Nat.mul_le_mul m1 (show k ≤ 10000 by omega)) (by omega)
    by_cases hlt : k < n
    · obtain ⟨x, bb, off, hA, hx, hcx⟩ := (h.below hb.out (Nat.le_refl _)).at hlt
      subst hA
      have x1 : x < 256 := hs.at hx.out
      have LB := lt_of_cell hcx
      go_wp2
      go_loop [7, 8] (fun s q => ∃ (j S : Nat), 1 ≤ j ∧ j ≤ m ∧ q = .int .i64 j ∧ s = .int .i64 S ∧ S ≤ 128 ∧ Hid (S = 2 ^ (j - 1))) (fun _ q => m - (intOf q).toNat)
      case atStart => exact ⟨1, 1, by omega, m0, rfl, rfl, by omega, rfl⟩
      case round =>
        obtain ⟨j, S, j0, j1, rfl, rfl, hS1, hS⟩ := hrel
        by_cases hj : j < m
        · have S2 : Hid (S * 2 = 2 ^ j ∧ 2 ^ j ≤ 128) := by
            have h2 := two_le (k := j) (by omega)
            have e : 2 ^ j = 2 ^ (j - 1) * 2 := by rw [← Nat.pow_succ]; congr 1; omega
            show _ ∧ _
            rw [hS.out, ← e]
            exact ⟨rfl, h2⟩
          go_wp2
          go_round
          case rel => exact ⟨j + 1, S * 2, by omega, by omega, by go_num, by go_num, by have := S2.out; omega, S2.out.1⟩
          case measure => simp [intOf]; omega
        · obtain rfl : j = m := by omega
          have SB : Hid (S = scB j 0) := by show _ = _; rw [hS.out, scB, if_pos (by omega)]; rfl
          go_wp2
          obtain ⟨wo, rfl⟩ : ∃ wo : World, wo = wr := ⟨_, rfl⟩
          go_loopw [5, 7] (fun v s w2 => ∃ (i S : Nat), i ≤ j ∧ s = .int .i64 S ∧ S ≤ 128 ∧ Hid (S = scB j i) ∧ Hid (w2.ownsRow w.heap.size 3 1 v (j * k + i) (ints .i64 (bitsL j (l.take k) ++ bitsTo j x i))) ∧ Hid (Below w.heap.size w w2)) (fun _ s _ => (intOf s).toNat)
          case atStart => exact ⟨0, S, by omega, rfl, hS1, SB, (by show World.ownsRow _ _ _ _ _ _ _; simpa [bitsTo] using hO.out), hb⟩
          case round =>
            obtain ⟨i, S, hi', rfl, hS1', hS', hO2, hb2⟩ := hrel
            by_cases hij : i < j
            · obtain ⟨x', bb', off', hA', hx', hcx'⟩ := (h.below hb2.out (Nat.le_refl _)).at hlt
              obtain ⟨rfl, rfl⟩ : bb = bb' ∧ off = off' := by simpa using hA'
              obtain rfl : x = x' := by have h1 := hx.out; rw [hx'.out] at h1; injection h1 with h1; exact h1.symm
              clear hA' hx' hcx
              have SE : Hid (S = 2 ^ (j - 1 - i)) := by show _ = _; rw [hS'.out, scB, if_pos hij]
              have S0 : 0 < S := by rw [SE.out]; exact Nat.pow_pos (by omega)
              have NX := Lib.hid (scB_next hij)
              obtain ⟨D, hD⟩ : ∃ D, x / S % 2 = D := ⟨_, rfl⟩
              have hd : (x : Int) / (S : Int) % 2 = (D : Int) := by rw [← hD]; simp
              have D1 : D < 2 := by omega
              have q0 : 0 ≤ (x : Int) / (S : Int) := Int.ediv_nonneg (by omega) (by omega)
              have q1 : (x : Int) / (S : Int) ≤ 255 := Int.le_trans (Int.ediv_le_self _ (by omega)) (by omega)
              have BS : Hid (bitsTo j x (i + 1) = bitsTo j x i ++ [D]) := by show _ = _; rw [bitsTo_succ, ← SE.out, hD]
              have mk := MK.out
              have sz := hb2.out.size
              clear hD
              go_wp2_with (at_builtin; refine wpList_append_own _ rfl _ _ 48 rfl w.heap.size 3 i0 _ 1 8 Try.underlying48 hi hz0 hz1 hz2 rfl (by omega) _ _ _ rfl (hO2.out.alloc _) ⟨wr.heap.size, 0, none⟩ 1 1 [.int .i64 (D : Int)] rfl rfl (World.news_of_block (cs := #[.int .i64 (D : Int)]) (t := 3) (fr := (0, 0)) (heap_alloc_new wr _)) (by simp [Value.oneCell']) (by unfold maxLen; omega) (by omega) (by simp; omega) ?_; intro v' w1 hown' hgrow _; have HO1 := Lib.hid hown'; have hb3 := Lib.hid ((hb2.out.alloc sz _).grown hgrow (by simp; omega) (fun j hj => (hO2.out.lt j hj).1)); clear hown' hgrow)
              go_roundw
              case rel =>
                refine ⟨i + 1, S / 2, by omega, by go_num, by omega, by show _ = _; rw [← NX.out, hS'.out], ?_, hb3⟩
                show World.ownsRow _ _ _ _ _ _ _
                rw [BS.out, ← List.append_assoc, ints_app]
                exact HO1.out
              case measure => simp [intOf]; omega
            · obtain rfl : i = j := by omega
              have S0 : S = 0 := by rw [hS'.out, scB, if_neg (by omega)]
              subst S0
              have BE : Hid (bitsL i (l.take (k + 1)) = bitsL i (l.take k) ++ bitsTo i x i) := by show _ = _; rw [take_succ_of hx.out, bitsL_snoc, bitsTo_all]
              go_wp2
              go_roundw
              case rel =>
                refine ⟨k + 1, by omega, by go_num, ?_, hb2⟩
                show World.ownsRow _ _ _ _ _ _ _
                rw [BE.out, Nat.mul_succ]
                exact hO2.out
              case measure => simp [intOf]; omega
    · obtain rfl : k = n := by omega
      have LT : l.take k = l := by rw [HL.out]; exact List.take_length
      rw [LT] at hO
      have EL : Hid ((bitsL m l).length = m * k) := by show _ = _; rw [bitsL_len, ← HL.out]
      go_wp2
      go_ret
      refine ⟨_, rfl, ?_, hb.out⟩
      rw [EL.out]
      exact hO.out
/-- Number j, as far as its first i bits tell it. -/
def preAt (m : Nat) (l : List Nat) (j i : Nat) : Nat := val ((l.drop (m * j)).take i)
theorem preAt_succ {m : Nat} {l : List Nat} {j i x : Nat} (h : l[m * j + i]? = some x) : preAt m l j (i + 1) = 2 * preAt m l j i + x := by
  unfold preAt
  rw [take_succ_of (x := x) (by rw [List.getElem?_drop]; exact h), val_snoc]
theorem preAt_lt {m : Nat} {l : List Nat} (hb : AreBits l) (j : Nat) {i : Nat} (hi : i ≤ 8) : preAt m l j i ≤ 255 := by
  have h1 := val_lt _ ((hb.drop (m * j)).take i)
  have h2 : ((l.drop (m * j)).take i).length ≤ i := List.length_take_le _ _
  have h3 : 2 ^ ((l.drop (m * j)).take i).length ≤ 2 ^ 8 := Nat.pow_le_pow_right (by omega) (by omega)
  unfold preAt
  omega
set_option maxHeartbeats 1000000 in
theorem refNums (A : Option Addr) (n c m : Nat) (l : List Nat) (w : World) (h : RdK .i64 w A n l) (hm : n ≤ 100000) (hs : AreBits l) (m0 : 1 ≤ m) (m1 : m ≤ 8) : Calls Try.prog 19 #[.slice A n c, .int .i64 (m : Nat)] w (GivesK .u8 5 (numsOf m l) w) := by
  obtain ⟨i0, hi, hz0, hz1, hz2⟩ := info_parts Try.info5
  have HL := Lib.hid (show n = l.length from h.1)
  go_enter Try.func19, Try.ntmps19
  go_wp2
  go_loopw [5, 6] (fun v i wr => ∃ (j I : Nat), I ≤ n ∧ i = .int .i64 I ∧ Hid (I = m * j) ∧ Hid (wr.ownsRow w.heap.size 5 1 v j (ints .u8 (numsTo m l j))) ∧ Hid (Below w.heap.size w wr)) (fun _ i _ => n - (intOf i).toNat)
  case atStart => exact ⟨0, 0, by omega, rfl, rfl, World.ownsRow_nil _ _ _ _, Below.refl _ _⟩
  case round =>
    obtain ⟨j, I, hI, rfl, hIj, hO, hb⟩ := hrel
    have JI : Hid (j ≤ I) := by
      show _ ≤ _
      rw [hIj.out]
      exact Nat.le_mul_of_pos_left _ m0
    by_cases hlt : I + m ≤ n
    · go_wp2
      go_loop [7, 8] (fun s q => ∃ (i S : Nat), i ≤ m ∧ q = .int .i64 i ∧ s = .int .i64 S ∧ S ≤ 255 ∧ Hid (S = preAt m l j i)) (fun _ q => m - (intOf q).toNat)
      case atStart => exact ⟨0, 0, by omega, rfl, rfl, by omega, rfl⟩
      case round =>
        obtain ⟨i, S, i1, rfl, rfl, hS1, hS⟩ := hrel
        by_cases hj : i < m
        · obtain ⟨x, bb, off, hA, hx, hcx⟩ := (h.below hb.out (Nat.le_refl _)).at (i := I + i) (by omega)
          subst hA
          have x1 : x < 2 := hs x (List.mem_of_getElem? hx.out)
          have NX : Hid (2 * S + x = preAt m l j (i + 1)) := by show _ = _; rw [hS.out, preAt_succ (by rw [← hIj.out]; exact hx.out)]
          have N1 := Lib.hid (preAt_lt (m := m) hs j (i := i + 1) (by omega))
          go_wp2
          go_round
          case rel => exact ⟨i + 1, 2 * S + x, by omega, by go_num, by go_num, by rw [NX.out]; exact N1.out, NX⟩
          case measure => simp [intOf]; omega
        · obtain rfl : i = m := by omega
          have SN : Hid (S = numAt i l j) := hS
          have S2 : (S : Int) % 256 = S := by omega
          have ji := JI.out
          have sz := hb.out.size
          go_wp2_with (at_builtin; refine wpList_append_own _ rfl _ _ 22 rfl w.heap.size 5 i0 _ 1 1 Try.underlying22 hi hz0 hz1 hz2 rfl (by omega) _ _ _ rfl (hO.out.alloc _) ⟨wr.heap.size, 0, none⟩ 1 1 [.int .u8 (S : Int)] rfl rfl (World.news_of_block (cs := #[.int .u8 (S : Int)]) (t := 5) (fr := (0, 0)) (heap_alloc_new wr _)) (by simp [Value.oneCell']) (by unfold maxLen; omega) (by omega) (by simp; omega) ?_; intro v' w1 hown' hgrow _; have HO1 := Lib.hid hown'; have hb3 := Lib.hid ((hb.out.alloc sz _).grown hgrow (by simp; omega) (fun j hj => (hO.out.lt j hj).1)); clear hown' hgrow)
          go_roundw
          case rel =>
            refine ⟨j + 1, I + i, by omega, by go_num, by show _ = _; rw [hIj.out, Nat.mul_succ], ?_, hb3⟩
            show World.ownsRow _ _ _ _ _ _ _
            rw [numsTo_succ, ints_app, ← SN.out]
            exact HO1.out
          case measure => simp [intOf]; omega
    · have EJ : Hid (numsOf m l = numsTo m l j) := by
        show _ = _
        rw [numsOf, ← HL.out]
        congr 1
        have h1 := hIj.out
        exact Nat.div_eq_of_lt_le (k := j) (by rw [Nat.mul_comm]; omega) (by rw [Nat.mul_comm, Nat.mul_succ]; omega)
      go_wp2
      go_ret
      refine ⟨_, rfl, ?_, hb.out⟩
      rw [EJ.out, numsTo_len]
      exact hO.out
end Go.Proofs.Ytaanmikdhhdeiaa
