/-
  calendar.pow and calendar.put: powers of ten; a number's digits, put behind bytes that the caller owns. Conditions: a number from 0 on, one to four digits.
-/
import Derived.Test.YtaanmikdhhdeiaaDoorCalI
namespace Go.Proofs.YtaanmikdhhdeiaaDoor
open Go.ChangeShapes Go.WideShapes Go.ChangeAt Go.RowKit
set_option linter.unusedVariables false

theorem Tryd.info5 : (Tryd.prog.info? 5).map (fun i => (i.zero, i.size, i.bytes)) = some (some (.int .u8 0), 1, 1) := by kernel_rfl
def ten (k : Nat) : Int := (10 : Int) ^ k
theorem ten_succ (k : Nat) : ten (k + 1) = ten k * 10 := by unfold ten; exact Int.pow_succ ..
theorem ten_bd {k : Nat} (h : k ≤ 3) : 1 ≤ ten k ∧ ten k ≤ 1000 := by
  match k, h with
  | 0, _ | 1, _ | 2, _ | 3, _ => decide
theorem goPow (k : Nat) (w : World) (h : k ≤ 3) : Calls Tryd.prog 24 #[.int .i64 (k : Nat)] w fun e w' => e = .returned (.int .i64 (ten k)) ∧ w = w' := by
  go_enter Tryd.func24, Tryd.ntmps24
  go_wp2
  go_loop [3, 5] (fun v i => ∃ (j : Nat) (V : Int), j ≤ k ∧ i = .int .i64 j ∧ v = .int .i64 V ∧ Hid (V = ten j)) (fun _ i => k - (intOf i).toNat)
  case atStart => exact ⟨0, 1, by omega, rfl, rfl, rfl⟩
  case round =>
    obtain ⟨j, V, hj, rfl, rfl, hV⟩ := hrel
    have b1 : 1 ≤ V := by rw [hV.out]; exact (ten_bd (by omega)).1
    have b2 : V ≤ 1000 := by rw [hV.out]; exact (ten_bd (by omega)).2
    by_cases hlt : j < k
    · go_wp2
      go_round
      case rel => exact ⟨j + 1, V * 10, by omega, by go_num, rfl, by show _ = _; rw [hV.out, ten_succ]⟩
      case measure => simp [intOf]; omega
    · obtain rfl : j = k := by omega
      go_wp2
      go_ret
      exact ⟨ret_int hV.out, rfl⟩
/-- The first j of sz digits. -/
def dgTo (n : Int) (sz j : Nat) : List Int := (List.range j).map fun i => 48 + n / ten (sz - 1 - i) % 10
theorem dgTo_succ (n : Int) (sz j : Nat) : dgTo n sz (j + 1) = dgTo n sz j ++ [48 + n / ten (sz - 1 - j) % 10] := by simp [dgTo, List.range_succ]
theorem dgTo_len (n : Int) (sz j : Nat) : (dgTo n sz j).length = j := by simp [dgTo]
/-- The scale of digit j. -/
def sc (sz j : Nat) : Int := if j < sz then ten (sz - 1 - j) else 0
theorem sc_next {sz j : Nat} (h : j < sz) : sc sz j / 10 = sc sz (j + 1) := by
  unfold sc
  rw [if_pos h]
  by_cases h1 : j + 1 < sz
  · rw [if_pos h1, show sz - 1 - j = (sz - 1 - (j + 1)) + 1 by omega, ten_succ]
    omega
  · rw [if_neg h1, show sz - 1 - j = 0 by omega]
    decide
set_option maxHeartbeats 1000000 in
theorem goPut (v : Value) (n : Int) (sz : Nat) (w : World) (base k : Nat) (xs : List Int) (hown : w.ownsRow base 5 1 v k (xs.map (Value.int .u8))) (hb : base ≤ w.heap.size) (hn : 0 ≤ n) (hn2 : n ≤ 100000) (hs1 : 1 ≤ sz) (hs : sz ≤ 4) (hk : k ≤ 100) :
    Calls Tryd.prog 22 #[v, .int .i64 n, .int .i64 (sz : Nat)] w fun e w' => ∃ v', e = .returned v' ∧ w'.ownsRow base 5 1 v' (k + sz) ((xs ++ dgTo n sz sz).map (Value.int .u8)) ∧ Below base w w' := by
  obtain ⟨i0, hi, hz0, hz1, hz2⟩ := info_parts Tryd.info5
  have HO := Lib.hid hown
  clear hown
  obtain ⟨s1, rfl⟩ : ∃ s1, sz = s1 + 1 := ⟨sz - 1, by omega⟩
  go_enter Tryd.func22, Tryd.ntmps22
  go_wp2_with (go_at_call 24; refine (goPow s1 _ (by omega)).mono ?_; rintro e w' ⟨rfl, rfl⟩)
  go_loopw [0, 7] (fun v s wr => ∃ (j : Nat) (S : Int), j ≤ s1 + 1 ∧ s = .int .i64 S ∧ Hid (S = sc (s1 + 1) j) ∧ Hid (wr.ownsRow base 5 1 v (k + j) ((xs ++ dgTo n (s1 + 1) j).map (Value.int .u8))) ∧ Below base w wr ∧ base ≤ wr.heap.size) (fun _ s _ => (intOf s).toNat)
  case atStart => exact ⟨0, ten s1, by omega, rfl, by show _ = _; simp [sc], (by show World.ownsRow _ _ _ _ _ _ _; simpa [dgTo] using HO.out), Below.refl _ _, hb⟩
  case round =>
    obtain ⟨j, S, hj, rfl, hS, hO, hbl, hsz⟩ := hrel
    by_cases hlt : j < s1 + 1
    · have S1 : 0 < S := by rw [hS.out, sc, if_pos hlt]; exact (ten_bd (by omega)).1
      have S2 : S ≤ 1000 := by rw [hS.out, sc, if_pos hlt]; exact (ten_bd (by omega)).2
      have NX := Lib.hid (sc_next hlt)
      have q0 : 0 ≤ n / S := Int.ediv_nonneg hn (by omega)
      have q1 : n / S ≤ 100000 := Int.le_trans (Int.ediv_le_self S hn) hn2
      have d0 : 0 ≤ n / S % 10 := by omega
      have d1 : n / S % 10 ≤ 9 := by omega
      have DS := Lib.hid (dgTo_succ n (s1 + 1) j)
      have SV : Hid (S = ten (s1 - j)) := by show _ = _; rw [hS.out, sc, if_pos hlt]; rfl
      go_wp2_with (at_builtin; refine wpList_append_own _ rfl _ _ 45 rfl base 5 i0 _ 1 1 Tryd.underlying45 hi hz0 hz1 hz2 rfl (by omega) _ _ _ rfl (hO.out.alloc _) ⟨wr.heap.size, 0, none⟩ 1 1 [.int .u8 (48 + n / S % 10)] rfl rfl (World.news_of_block (cs := #[.int .u8 (48 + n / S % 10)]) (t := 5) (fr := (0, 0)) (heap_alloc_new wr _)) (by simp [Value.oneCell']) (by unfold maxLen; omega) (by omega) (by simp; omega) ?_; intro v' w1 hown' hgrow _; have HO1 := Lib.hid hown'; have hb2 := (hbl.alloc hsz _).grown hgrow (by simp; omega) (fun j hj => (hO.out.lt j hj).1); have hs2 : base ≤ w1.heap.size := Nat.le_trans hsz (by have := hgrow.size; simp at this; omega); clear hown' hgrow)
      go_roundw
      case rel =>
        refine ⟨j + 1, S / 10, by omega, rfl, by show _ = _; rw [← NX.out, hS.out], ?_, hb2, hs2⟩
        show World.ownsRow _ _ _ _ _ _ _
        rw [DS.out, show s1 + 1 - 1 - j = s1 - j by omega, ← SV.out, ← List.append_assoc, List.map_append]
        exact HO1.out
      case measure => simp [intOf]; omega
    · obtain rfl : j = s1 + 1 := by omega
      have S0 : S = 0 := by rw [hS.out, sc, if_neg (by omega)]
      subst S0
      go_wp2_with fail
      go_ret
      exact ⟨_, rfl, hO.out, hbl⟩
end Go.Proofs.YtaanmikdhhdeiaaDoor
