/-
  The functions Price and Steps of the package band, Price and Steps of its reference, and the comparison of two lists of ints, return what the plain functions bPrice and bSteps compute. No conditions but the arguments' readings; the reference's Steps for bands that are right.
-/
import Derived.Test.YtceohmbjajhlcaaBandG
import Derived.Test.YtceohmbjajhlcaaOwn
import Derived.Test.YtceohmbjajhlcaaShelf
namespace Go.Proofs.Ytceohmbjajhlcaa
open Go.ChangeShapes Go.WideShapes Go.ChangeAt Go.RowKit
set_option linter.unusedVariables false

theorem goBand_is {A : Option Addr} {n c : Nat} {l : List (Int × Int)} {over : Int} {w : World} {b : Bool} (hB : bandB l over = b) (h : Rd two 2 w A n l) (hm : n ≤ 9223372036854775807) :
    Calls Try.prog 27 #[.slice A n c, .int .i64 over] w fun e w' => e = .returned (.bool b) ∧ Below w.heap.size w w' := by rw [← hB]; exact goBand A n c l over w h hm
theorem refBand_is {A : Option Addr} {n c : Nat} {l : List (Int × Int)} {over : Int} {w : World} {b : Bool} (hB : bandB l over = b) (h : Rd two 2 w A n l) (hm : n ≤ 9223372036854775807) :
    Calls Try.prog 26 #[.slice A n c, .int .i64 over] w fun e w' => e = .returned (.bool b) ∧ ∃ m, w' = w.drewN m := by rw [← hB]; exact refBand A n c l over w h hm

theorem price_no (A : Option Addr) (n c : Nat) (l : List (Int × Int)) (over far : Int) (w : World) (h : Rd two 2 w A n l) (hm : n ≤ 9223372036854775807) (hno : ¬ (bandB l over = true ∧ 0 ≤ far ∧ far ≤ 4294967296)) :
    Calls Try.prog 25 #[.slice A n c, .int .i64 over, .int .i64 far] w fun e w' => e = .returned (.tuple #[.int .i64 0, .int .i64 2]) ∧ Below w.heap.size w w' := by
  rcases hB : bandB l over with _ | _
  · have HB := Lib.hid hB
    clear hno hB
    go_enter Try.func25, Try.ntmps25
    go_wp2_with (go_at_call 27; refine (goBand_is HB.out h hm).mono ?_; rintro e w1 ⟨rfl, hb⟩)
    go_ret2
    exact ⟨rfl, hb⟩
  · have HB := Lib.hid hB
    have hf : far < 0 ∨ 4294967296 < far := by rcases Int.lt_or_le far 0 with h | h; exact .inl h; exact .inr (by rcases Int.lt_or_le 4294967296 far with h' | h'; exact h'; exact absurd ⟨hB, h, h'⟩ hno)
    have HF := Lib.hid hf
    clear hno hB hf
    go_enter Try.func25, Try.ntmps25
    go_wp2_with (first
      | (go_at_call 27; refine (goBand_is HB.out h hm).mono ?_; rintro e w1 ⟨rfl, hb⟩)
      | (go_at_call 40; refine (bWithin_no _ _ _ _ HF.out).mono ?_; rintro e w2 ⟨rfl, rfl⟩))
    go_ret2
    exact ⟨rfl, hb⟩

set_option maxHeartbeats 400000 in
theorem price_yes (A : Option Addr) (n c : Nat) (l : List (Int × Int)) (over far : Int) (w : World) (h : Rd two 2 w A n l) (hB : bandB l over = true) (h0 : 0 ≤ far) (h1 : far ≤ 4294967296) :
    Calls Try.prog 25 #[.slice A n c, .int .i64 over, .int .i64 far] w fun e w' => e = .returned (.tuple #[.int .i64 (bPrice l over far), .int .i64 0]) ∧ Below w.heap.size w w' := by
  have HB := Lib.hid hB
  obtain ⟨hu, h64, hov⟩ := bandB_up hB
  have hn : n ≤ 64 := by have := h.1; omega
  have hm : n ≤ 4611686018427387903 := by omega
  have hm' : n ≤ 9223372036854775807 := by omega
  obtain ⟨i, hi⟩ := first_ex l far l.length 0 (by omega) (short_zero _ _)
  have HI := Lib.hid hi
  have HU := Lib.hid hu
  have hin : i ≤ n := by have := h.1; have := hi.1; omega
  clear hB hu h64 hov hi
  by_cases hlt : i < n
  · obtain ⟨x, y, b, off, hA, hx, hcx, hcy⟩ := h.at2 hlt
    subst hA
    have hbw := lt_of_cell hcx
    have E : Hid (bPrice l over far = y) := bPrice_at HI.out.2.1 hx.out (HI.out.2.2 _ hx.out)
    go_enter Try.func25, Try.ntmps25
    go_wp2_with (first
      | (go_at_call 27; refine (goBand_is HB.out h hm').mono ?_; rintro e w1 ⟨rfl, hb⟩; have hx1 := (hb.cell (p := ⟨b, off + i * 2, none⟩) hbw).trans hcx; have hy1 := (hb.cell (p := ⟨b, off + i * 2 + 1, none⟩) hbw).trans hcy; have rd1 := h.below hb (Nat.le_refl _))
      | (go_at_call 40; refine (bWithin_yes _ _ _ _ h0 h1).mono ?_; rintro e w2 ⟨rfl, rfl⟩)
      | (go_at_call 41; refine (goFirst _ _ _ _ _ _ i rd1 hm HU.out HI.out).mono ?_; rintro e w2 ⟨rfl, rfl⟩))
    go_ret2
    exact ⟨ret_ii E.out.symm rfl, hb⟩
  · obtain rfl : i = n := by omega
    have E : Hid (bPrice l over far = over) := bPrice_end (by rw [← h.1]; exact HI.out.2.1)
    go_enter Try.func25, Try.ntmps25
    go_wp2_with (first
      | (go_at_call 27; refine (goBand_is HB.out h hm').mono ?_; rintro e w1 ⟨rfl, hb⟩; have rd1 := h.below hb (Nat.le_refl _))
      | (go_at_call 40; refine (bWithin_yes _ _ _ _ h0 h1).mono ?_; rintro e w2 ⟨rfl, rfl⟩)
      | (go_at_call 41; refine (goFirst _ _ _ _ _ _ i rd1 hm HU.out HI.out).mono ?_; rintro e w2 ⟨rfl, rfl⟩))
    go_ret2
    exact ⟨ret_ii E.out.symm rfl, hb⟩

theorem refPrice (A : Option Addr) (n c : Nat) (l : List (Int × Int)) (over far : Int) (w : World) (h : Rd two 2 w A n l) (hm : n ≤ 9223372036854775807) :
    Calls Try.prog 31 #[.slice A n c, .int .i64 over, .int .i64 far] w fun e w' => e = .returned (.int .i64 (bPrice l over far)) ∧ w = w' := by
  go_enter Try.func31, Try.ntmps31
  go_wp2
  go_loop [7] (fun i => ∃ k : Nat, k ≤ n ∧ i = .int .i64 k ∧ Hid (Short l far k)) (fun i => n - (intOf i).toNat)
  case atStart => exact ⟨0, Nat.zero_le _, rfl, short_zero _ _⟩
  case round =>
    obtain ⟨k, hk, rfl, hs⟩ := hrel
    by_cases hlt : k < n
    · obtain ⟨x, y, b, off, hA, hx, hcx, hcy⟩ := h.at2 hlt
      subst hA
      by_cases hf : far ≤ x
      · have E : Hid (bPrice l over far = y) := bPrice_at hs.out hx.out hf
        go_wp2
        go_ret
        exact ⟨ret_int E.out.symm, rfl⟩
      · have G : Hid (Short l far (k + 1)) := short_succ hs.out hx.out (by show x < far; omega)
        go_wp2
        go_round
        case rel => exact ⟨k + 1, by omega, by go_num, G.out⟩
        case measure => simp [intOf]; omega
    · obtain rfl : k = n := by omega
      have E : Hid (bPrice l over far = over) := bPrice_end (by rw [← h.1]; exact hs.out)
      go_wp2
      go_ret
      exact ⟨ret_int E.out.symm, rfl⟩

/-- The first k prices. -/
def pr (l : List (Int × Int)) (k : Nat) : List Int := (l.take k).map (·.2)
theorem pr_succ {l : List (Int × Int)} {k : Nat} {x y : Int} (h : l[k]? = some (x, y)) : pr l (k + 1) = pr l k ++ [y] := by rw [pr, take_succ_of h, List.map_append]; rfl
theorem pr_len {l : List (Int × Int)} {k : Nat} (h : k ≤ l.length) : (pr l k).length = k := by simp [pr]; omega
theorem pr_all (l : List (Int × Int)) : pr l l.length = l.map (·.2) := by rw [pr, List.take_length]
theorem bAll_over {l : List (Int × Int)} {over : Int} (h : l.length = 0 ∨ (bAhead l l.length).1 < 4294967296) : bAll l over = pr l l.length ++ [over] := by rw [bAll, if_pos h, pr_all]
theorem bAll_not {l : List (Int × Int)} {over : Int} (h : ¬ (l.length = 0 ∨ (bAhead l l.length).1 < 4294967296)) : bAll l over = pr l l.length := by rw [bAll, if_neg h, pr_all, List.append_nil]
theorem Try.info3 : (Try.prog.info? 3).map (fun i => (i.zero, i.size, i.bytes)) = some (some (.int .i64 0), 1, 8) := by kernel_rfl

theorem compactOwn {w0 w : World} {base : Nat} {v : Value} {zs : List Int} (hown : w.ownsRow base 3 1 v zs.length (zs.map (Value.int .i64))) (hp : 0 < zs.length) (hbase : w0.heap.size ≤ base) (hb : Below w0.heap.size w0 w) :
    Calls Try.prog 42 #[v] w (GivesI (Lib.compact zs) w0) := by
  obtain ⟨g, c, rfl⟩ := own_form hown hp
  obtain ⟨hnc, hcm, hg, hgl⟩ := own_cap hown
  have hat : ∀ j, j < zs.length → w.cell? ⟨g, 0 + j, none⟩ = some (.int .i64 (zs.getD j 0)) := fun j hj => by
    rw [Nat.zero_add]
    refine own_at hown ?_
    rw [List.getD_eq_getElem?_getD, List.getElem?_eq_getElem hj]; rfl
  refine (Try.slices_Compact_int_cells g 0 zs.length c zs w (Nat.le_refl _) (by unfold maxLen at hcm; omega) hnc hat (fun j _ => by rw [Nat.zero_add]; exact hown.frozenAt j)).mono ?_
  rintro e w' ⟨rfl, q, rfl⟩
  rw [List.take_length]
  have hle : (Lib.compact zs).length ≤ zs.length := by
    unfold Lib.compact Lib.compactUpTo
    rw [List.length_map]
    exact Nat.le_trans (List.length_filter_le _ _) (by simp)
  refine ⟨_, _, _, rfl, ⟨rfl, fun i r hr => ⟨g, 0, rfl, ?_, fun j x hx => ?_⟩⟩, below_cells (Nat.le_trans hbase hg) _ _ _ (below_dN hb q)⟩
  · have := (below_cells (B := 0) (a := w.drewN q) (Nat.zero_le g) ((Lib.compact zs ++ List.replicate (zs.length - (Lib.compact zs).length) 0).map (Value.int .i64)) 0 _ (Below.refl _ _)).size
    exact Nat.lt_of_lt_of_le hgl this
  · match j, hx with
    | 0, hx =>
      simp [one] at hx
      subst hx
      have hi := (List.getElem?_eq_some_iff.1 hr).1
      have key := World.cell?_setCells_in g ((Lib.compact zs ++ List.replicate (zs.length - (Lib.compact zs).length) 0).map (Value.int .i64)) 0 (w.drewN q) (fun j hj => by
        show (w.cell? ⟨g, 0 + j, none⟩).isSome = true
        rw [hat j (by simp at hj; omega)]; rfl) i (by simp; omega)
      rw [Nat.mul_one, Nat.add_zero, key, List.getElem_map, List.getElem_append_left hi]
      rw [(List.getElem?_eq_some_iff.1 hr).2]

theorem own_more {w1 : World} {base k : Nat} {v : Value} {zs : List Int} {x : Int} (hz : zs.length = k) (h : w1.ownsRow base 3 1 v (k + 1) (zs.map (Value.int .i64) ++ [.int .i64 x])) : Hid (w1.ownsRow base 3 1 v (zs ++ [x]).length ((zs ++ [x]).map (Value.int .i64))) := by
  show World.ownsRow _ _ _ _ _ _ _
  rw [List.map_append, List.length_append, hz]; exact h
theorem own_same {w1 : World} {base k : Nat} {v : Value} {zs : List Int} (hz : zs.length = k) (h : w1.ownsRow base 3 1 v k (zs.map (Value.int .i64))) : Hid (w1.ownsRow base 3 1 v zs.length (zs.map (Value.int .i64))) := by
  show World.ownsRow _ _ _ _ _ _ _
  rw [hz]; exact h

set_option maxHeartbeats 1600000 in
theorem goSteps (A : Option Addr) (n c : Nat) (l : List (Int × Int)) (over : Int) (w : World) (h : Rd two 2 w A n l) (hm : n ≤ 100000) :
    Calls Try.prog 29 #[.slice A n c, .int .i64 over] w (GivesI (bSteps l over) w) := by
  obtain ⟨i0, hi, hz0, hz1, hz2⟩ := info_parts Try.info3
  go_enter Try.func29, Try.ntmps29
  go_wp2
  go_loopw [5, 10] (fun v i wr => ∃ k : Nat, k ≤ n ∧ i = .int .i64 k ∧ Hid (wr.ownsRow w.heap.size 3 1 v k ((pr l k).map (Value.int .i64))) ∧ Below w.heap.size w wr) (fun _ i _ => n - (intOf i).toNat)
  case atStart => exact ⟨0, Nat.zero_le _, rfl, World.ownsRow_nil _ _ _ _, Below.refl _ _⟩
  case round =>
    obtain ⟨k, hk, rfl, hO, hb⟩ := hrel
    have hsz := hb.size
    by_cases hlt : k < n
    · obtain ⟨x, y, b, off, hA, hx, hcx, hcy⟩ := (h.below hb (Nat.le_refl _)).at2 hlt
      subst hA
      go_wp2_with (at_builtin; refine wpList_append_own _ rfl _ _ 22 rfl w.heap.size 3 i0 (.int .i64 0) 1 8 Try.underlying22 hi hz0 hz1 hz2 rfl (by decide) _ _ _ rfl ((hO.out.alloc _).alloc _) ⟨wr.heap.size + 1, 0, none⟩ 1 1 [.int .i64 y] rfl rfl (World.news_of_block (cs := #[.int .i64 y]) (t := 3) (fr := (0, 0)) (alloc_new2 _ _ _)) (by simp [Value.oneCell']) (by unfold maxLen; omega) (by omega) (by simp; omega) ?_; intro v' w1 hown' hgrow _)
      go_roundw
      case rel => exact ⟨k + 1, by omega, by go_num, by show World.ownsRow _ _ _ _ _ _ _; rw [pr_succ hx.out, List.map_append]; exact hown', ((hb.alloc hsz _).alloc (by simp; omega) _).grown hgrow (by simp; omega) (fun j hj => (hO.out.lt j hj).1)⟩
      case measure => simp [intOf]; omega
    · obtain rfl : k = n := by omega
      have hn := Lib.hid h.1
      rcases Nat.eq_zero_or_pos k with rfl | hpos
      · have E : Hid (bAll l over = pr l 0 ++ [over]) := by
          show _ = _
          rw [bAll_over (.inl (by rw [← hn.out])), ← hn.out]
        go_wp2_with (first
          | (at_builtin; refine wpList_append_own _ rfl _ _ 22 rfl w.heap.size 3 i0 (.int .i64 0) 1 8 Try.underlying22 hi hz0 hz1 hz2 rfl (by decide) _ _ _ rfl (hO.out.alloc _) ⟨wr.heap.size, 0, none⟩ 1 1 [.int .i64 over] rfl rfl (World.news_of_block (cs := #[.int .i64 over]) (t := 3) (fr := (0, 0)) (heap_alloc_new wr _)) (by simp [Value.oneCell']) (by unfold maxLen; omega) (by omega) (by simp; omega) ?_; intro v' w1 hown' hgrow _; have hO2 := own_more (pr_len (by rw [← hn.out]; exact Nat.le_refl _)) hown'; have hb2 := (hb.alloc hsz _).grown hgrow (by simp; omega) (fun j hj => (hO.out.lt j hj).1); clear hown' hgrow)
          | (go_at_call 42; refine (compactOwn hO2.out (by simp) (Nat.le_refl _) hb2).mono ?_; rintro e w2 ⟨A1, N1, c1, rfl, hR1, hB1⟩))
        go_ret
        exact ⟨A1, N1, c1, rfl, by rw [bSteps, E.out]; exact hR1, hB1⟩
      · obtain ⟨j, rfl⟩ : ∃ j, k = j + 1 := ⟨k - 1, by omega⟩
        obtain ⟨x, y, b, off, hA, hx, hcx, hcy⟩ := (h.below hb (Nat.le_refl _)).at2 (k := j) (by omega)
        subst hA
        have b0 : (((j + 1 : Nat) : Int) == 0) = false := by simp; omega
        have ha : Hid ((bAhead l l.length).1 = x) := by show _ = _; rw [← hn.out, bAhead_succ hx.out]
        by_cases hlt2 : x < 4294967296
        · have E : Hid (bAll l over = pr l (j + 1) ++ [over]) := by
            show _ = _
            rw [bAll_over (.inr (by rw [ha.out]; exact hlt2)), ← hn.out]
          go_wp2_with (first
            | (at_builtin; refine wpList_append_own _ rfl _ _ 22 rfl w.heap.size 3 i0 (.int .i64 0) 1 8 Try.underlying22 hi hz0 hz1 hz2 rfl (by decide) _ _ _ rfl (hO.out.alloc _) ⟨wr.heap.size, 0, none⟩ 1 1 [.int .i64 over] rfl rfl (World.news_of_block (cs := #[.int .i64 over]) (t := 3) (fr := (0, 0)) (heap_alloc_new wr _)) (by simp [Value.oneCell']) (by unfold maxLen; omega) (by omega) (by simp; omega) ?_; intro v' w1 hown' hgrow _; have hO2 := own_more (pr_len (by rw [← hn.out]; exact Nat.le_refl _)) hown'; have hb2 := (hb.alloc hsz _).grown hgrow (by simp; omega) (fun j hj => (hO.out.lt j hj).1); clear hown' hgrow)
            | (go_at_call 42; refine (compactOwn hO2.out (by simp) (Nat.le_refl _) hb2).mono ?_; rintro e w2 ⟨A1, N1, c1, rfl, hR1, hB1⟩))
          go_ret
          exact ⟨A1, N1, c1, rfl, by rw [bSteps, E.out]; exact hR1, hB1⟩
        · have E : Hid (bAll l over = pr l (j + 1)) := by
            show _ = _
            rw [bAll_not (by rw [ha.out, ← hn.out]; exact fun hh => hh.elim (by omega) hlt2), ← hn.out]
          have hO2 := own_same (pr_len (by rw [← hn.out]; exact Nat.le_refl _)) hO.out
          go_wp2_with (go_at_call 42; refine (compactOwn hO2.out (by rw [pr_len (by rw [← hn.out]; exact Nat.le_refl _)]; omega) (Nat.le_refl _) hb).mono ?_; rintro e w2 ⟨A1, N1, c1, rfl, hR1, hB1⟩)
          go_ret
          exact ⟨A1, N1, c1, rfl, by rw [bSteps, E.out]; exact hR1, hB1⟩
end Go.Proofs.Ytceohmbjajhlcaa
