/-
  The reference's Steps of bands that are right, the comparison of two lists of ints, and the chapter's example. No conditions but the arguments' readings, and that the bands are right.
-/
import Derived.Test.YtceohmbjajhlcaaBandH
namespace Go.Proofs.Ytceohmbjajhlcaa
open Go.ChangeShapes Go.WideShapes Go.ChangeAt Go.RowKit
set_option linter.unusedVariables false

theorem eq_step {α : Type} {a b : List α} {k : Nat} {x y : α} (h : ∀ j, j < k → a[j]? = b[j]?) (ha : a[k]? = some x) (hb : b[k]? = some y) (e : x = y) : ∀ j, j < k + 1 → a[j]? = b[j]? := fun j hj => by
  rcases Nat.lt_or_ge j k with h1 | h1
  · exact h j h1
  · obtain rfl : j = k := by omega
    rw [ha, hb, e]
theorem eq_all {α : Type} {a b : List α} (h : ∀ j, j < a.length → a[j]? = b[j]?) (hl : a.length = b.length) : a = b := List.ext_getElem? fun j => by
  rcases Nat.lt_or_ge j a.length with h1 | h1
  · exact h j h1
  · rw [List.getElem?_eq_none h1, List.getElem?_eq_none (by omega)]

set_option maxHeartbeats 400000 in
theorem sameInts (A B : Option Addr) (n c n' c' : Nat) (l l' : List Int) (w : World) (h : Rd one 1 w A n l) (h' : Rd one 1 w B n' l') (hm : n ≤ 9223372036854775807) (hm' : n' ≤ 9223372036854775807) :
    Calls Try.prog 28 #[.slice A n c, .slice B n' c'] w fun e w' => e = .returned (.bool (decide (l = l'))) ∧ ∃ m, w' = w.drewN m := by
  by_cases hn : n = n'
  · subst hn
    go_enter Try.func28, Try.ntmps28
    go_wp2
    go_loopw [5] (fun i wr => ∃ k m : Nat, k ≤ n ∧ i = .int .i64 k ∧ Hid (∀ j, j < k → l[j]? = l'[j]?) ∧ Hid (wr = w.drewN m)) (fun i _ => n - (intOf i).toNat)
    case atStart => exact ⟨0, 0, Nat.zero_le _, rfl, fun j hj => absurd hj (by omega), rfl⟩
    case round =>
      obtain ⟨k, m, hk, rfl, hs, hw⟩ := hrel
      have hR : Rd one 1 wr A n l := by rw [hw.out]; exact h.drewN _
      have hR' : Rd one 1 wr B n l' := by rw [hw.out]; exact h'.drewN _
      by_cases hlt : k < n
      · obtain ⟨x, b, off, hA, hx, hc0⟩ := hR.at1 hlt
        obtain ⟨x', b', off', hB, hx', hc0'⟩ := hR'.at1 hlt
        subst hA hB
        by_cases e : x = x'
        · have G : Hid (∀ j, j < k + 1 → l[j]? = l'[j]?) := eq_step hs.out hx.out hx'.out e
          subst e
          go_wp2
          go_quiet (fail)
          go_wp2
          go_roundw
          case rel => exact ⟨k + 1, m + nq, by omega, by go_num, G.out, b_drewN hw.out nq⟩
          case measure => simp [intOf]; omega
        · have G : Hid (decide (l = l') = false) := by
            show _ = _
            rw [decide_eq_false_iff_not]
            rintro rfl
            have h1 := hx.out
            rw [hx'.out] at h1
            exact e (by injection h1 with h1; exact h1.symm)
          have b1 : (x == x') = false := by simpa using e
          clear e
          go_wp2
          go_quiet (fail)
          go_wp2
          go_ret
          exact ⟨ret_bool G.out.symm, m + nq, b_drewN hw.out nq⟩
      · obtain rfl : k = n := by omega
        have G : Hid (decide (l = l') = true) := by
          show _ = _
          rw [decide_eq_true_iff]
          exact eq_all (fun j hj => hs.out j (by rw [h.1]; exact hj)) (by rw [← h.1, h'.1])
        go_wp2
        go_ret
        exact ⟨ret_bool G.out.symm, m, hw.out⟩
  · have G : Hid (decide (l = l') = false) := by
      show _ = _
      rw [decide_eq_false_iff_not]
      rintro rfl
      exact hn (by rw [h.1, h'.1])
    have b : ((n : Int) != (n' : Int)) = true := by simp; omega
    go_enter Try.func28, Try.ntmps28
    go_wp2
    go_ret
    exact ⟨ret_bool G.out.symm, 0, rfl⟩

/-- The last of the first k prices; -1: there is none. -/
def lastP (l : List (Int × Int)) (k : Nat) : Int := (pr l k).getLast?.getD (-1)
theorem lastP_succ {l : List (Int × Int)} {k : Nat} {x y : Int} (h : l[k]? = some (x, y)) : lastP l (k + 1) = y := by rw [lastP, pr_succ h]; simp
theorem step_same {l : List (Int × Int)} {k : Nat} {y : Int} (zs : List Int) (h0 : 0 ≤ y) (e : y = lastP l k) : Lib.compact (pr l k ++ [y]) = Lib.compact (pr l k) := by
  rw [compact_snoc, if_pos, List.append_nil]
  unfold lastP at e
  rcases h : (pr l k).getLast? with _ | z
  · rw [h] at e; simp at e; omega
  · rw [h] at e; simp at e; rw [e]
theorem step_other {l : List (Int × Int)} {k : Nat} {y : Int} (e : ¬ y = lastP l k) : Lib.compact (pr l k ++ [y]) = Lib.compact (pr l k) ++ [y] := by
  rw [compact_snoc, if_neg]
  intro h
  exact e (by rw [lastP, h]; rfl)
theorem compact_le (zs : List Int) : (Lib.compact zs).length ≤ zs.length := by
  unfold Lib.compact Lib.compactUpTo
  rw [List.length_map]
  exact Nat.le_trans (List.length_filter_le _ _) (by simp)
/-- Where the reference's Steps stands: the steps so far. -/
def StepsAt (l : List (Int × Int)) (w : World) (k : Nat) (v : Value) (wr : World) : Prop := wr.ownsRow w.heap.size 3 1 v (Lib.compact (pr l k)).length ((Lib.compact (pr l k)).map (Value.int .i64))
theorem stepsAt_own {l : List (Int × Int)} {w wr : World} {k : Nat} {v : Value} (h : StepsAt l w k v wr) : wr.ownsRow w.heap.size 3 1 v (Lib.compact (pr l k)).length ((Lib.compact (pr l k)).map (Value.int .i64)) := h

theorem gives_of {w w1 : World} {N : Nat} {v : Value} {zs rs : List Int} (h : w1.ownsRow w.heap.size 3 1 v N (zs.map (Value.int .i64))) (e : rs = zs) (hb : Below w.heap.size w w1) : GivesI rs w (.returned v) w1 := by
  obtain ⟨A, c, rfl, hR⟩ := rdOwn1 h
  exact ⟨A, N, c, rfl, by rw [e]; exact hR, hb⟩

set_option maxHeartbeats 1600000 in
theorem refSteps (A : Option Addr) (n c : Nat) (l : List (Int × Int)) (over : Int) (w : World) (h : Rd two 2 w A n l) (hB : bandB l over = true) :
    Calls Try.prog 30 #[.slice A n c, .int .i64 over] w (GivesI (bSteps l over) w) := by
  obtain ⟨i0, hi, hz0, hz1, hz2⟩ := info_parts Try.info3
  obtain ⟨hu, h64, hov0, hov1⟩ := bandB_up hB
  have hm : n ≤ 64 := by have := h.1; omega
  have ho0 : 0 ≤ over := by
    have := bAhead_bd hu (Nat.le_refl _) (f := (bAhead l l.length).1) (s := (bAhead l l.length).2) rfl
    omega
  have HU := Lib.hid hu
  clear hB hu h64 hov0 hov1
  go_enter Try.func30, Try.ntmps30
  go_wp2
  go_loopw [7, 5, 6] (fun i v la wr => ∃ (k N : Nat) (p : Int), k ≤ n ∧ i = .int .i64 k ∧ la = .int .i64 p ∧ Hid (lastP l k = p) ∧ Hid ((Lib.compact (pr l k)).length = N) ∧ N ≤ k ∧ Hid (wr.ownsRow w.heap.size 3 1 v N ((Lib.compact (pr l k)).map (Value.int .i64))) ∧ Below w.heap.size w wr) (fun i _ _ _ => n - (intOf i).toNat)
  case atStart => exact ⟨0, 0, -1, Nat.zero_le _, rfl, rfl, rfl, rfl, Nat.le_refl _, World.ownsRow_nil _ _ _ _, Below.refl _ _⟩
  case round =>
    obtain ⟨k, N, p, hk, rfl, rfl, hp, hN, hNk, hO, hb⟩ := hrel
    have hsz := hb.size
    by_cases hlt : k < n
    · obtain ⟨x, y, b, off, hA, hx, hcx, hcy⟩ := (h.below hb (Nat.le_refl _)).at2 hlt
      subst hA
      have hbd := bUp_bd (fun j hj => HU.out j (by have := h.1; omega)) hx.out
      have hy0 : 0 ≤ y := hbd.2.2.1
      clear hbd
      by_cases e : y = p
      · have G : Hid (Lib.compact (pr l (k + 1)) = Lib.compact (pr l k)) := by
          show _ = _
          rw [pr_succ hx.out]
          exact step_same [] hy0 (by rw [hp.out]; exact e)
        subst e
        go_wp2
        go_roundw
        case rel => exact ⟨k + 1, N, y, by omega, by go_num, rfl, lastP_succ hx.out, by show _ = _; rw [G.out]; exact hN.out, by omega, by show World.ownsRow _ _ _ _ _ _ _; rw [G.out]; exact hO.out, hb⟩
        case measure => simp [intOf]; omega
      · have G : Hid (Lib.compact (pr l (k + 1)) = Lib.compact (pr l k) ++ [y]) := by
          show _ = _
          rw [pr_succ hx.out]
          exact step_other (by rw [hp.out]; exact e)
        have b1 : (y != p) = true := by simpa using e
        clear e
        go_wp2_with (at_builtin; refine wpList_append_own _ rfl _ _ 22 rfl w.heap.size 3 i0 (.int .i64 0) 1 8 Try.underlying22 hi hz0 hz1 hz2 rfl (by decide) _ _ _ rfl (hO.out.alloc _) ⟨wr.heap.size, 0, none⟩ 1 1 [.int .i64 y] rfl rfl (World.news_of_block (cs := #[.int .i64 y]) (t := 3) (fr := (0, 0)) (heap_alloc_new wr _)) (by simp [Value.oneCell']) (by unfold maxLen; omega) (by omega) (by simp; omega) ?_; intro v' w1 hown' hgrow _; have hb2 := (hb.alloc hsz _).grown hgrow (by simp; omega) (fun j hj => (hO.out.lt j hj).1); have hlt1 : b < w1.heap.size := Nat.lt_of_lt_of_le (h.lt (by omega)) hb2.size; have hcy' : w1.cell? ⟨b, off + k * 2 + 1, none⟩ = some (.int .i64 y) := (hb2.cell (p := ⟨b, off + k * 2 + 1, none⟩) (h.lt (by omega))).trans ((hb.cell (p := ⟨b, off + k * 2 + 1, none⟩) (h.lt (by omega))).symm.trans hcy); have HO := Lib.hid hown'; have HG := Lib.hid hgrow; clear hown' hgrow)
        go_roundw
        case rel => exact ⟨k + 1, N + 1, y, by omega, by go_num, rfl, lastP_succ hx.out, by show _ = _; rw [G.out, List.length_append, hN.out]; rfl, by omega, by show World.ownsRow _ _ _ _ _ _ _; rw [G.out, List.map_append]; exact HO.out, hb2⟩
        case measure => simp [intOf]; omega
    · obtain rfl : k = n := by omega
      have hn := Lib.hid h.1
      have ES : over = p → Hid (bAll l over = pr l k ++ [over] → bSteps l over = Lib.compact (pr l k)) := fun e h => by rw [bSteps, h]; exact step_same [] ho0 (by rw [hp.out]; exact e)
      have EO : ¬ over = p → Hid (bAll l over = pr l k ++ [over] → bSteps l over = Lib.compact (pr l k) ++ [over]) := fun e h => by rw [bSteps, h]; exact step_other (by rw [hp.out]; exact e)
      have HS := Lib.hid ES
      have HO' := Lib.hid EO
      clear ES EO
      rcases Nat.eq_zero_or_pos k with rfl | hpos
      · have E : Hid (bAll l over = pr l 0 ++ [over]) := by
          show _ = _
          rw [bAll_over (.inl (by rw [← hn.out])), ← hn.out]
        by_cases e : over = p
        · have EE : Hid (bSteps l over = Lib.compact (pr l 0)) := (HS.out e).out E.out
          subst e
          clear HS HO'
          go_wp2
          go_ret
          exact gives_of hO.out EE.out hb
        · have EE : Hid (bSteps l over = Lib.compact (pr l 0) ++ [over]) := (HO'.out e).out E.out
          have b1 : (over != p) = true := by simpa using e
          clear e HS HO'
          go_wp2_with (at_builtin; refine wpList_append_own _ rfl _ _ 22 rfl w.heap.size 3 i0 (.int .i64 0) 1 8 Try.underlying22 hi hz0 hz1 hz2 rfl (by decide) _ _ _ rfl (hO.out.alloc _) ⟨wr.heap.size, 0, none⟩ 1 1 [.int .i64 over] rfl rfl (World.news_of_block (cs := #[.int .i64 over]) (t := 3) (fr := (0, 0)) (heap_alloc_new wr _)) (by simp [Value.oneCell']) (by unfold maxLen; omega) (by omega) (by simp; omega) ?_; intro v' w1 hown' hgrow _; have hb2 := (hb.alloc hsz _).grown hgrow (by simp; omega) (fun j hj => (hO.out.lt j hj).1); have HO := Lib.hid hown'; clear hown' hgrow)
          go_ret
          exact gives_of (by rw [List.map_append]; exact HO.out) EE.out hb2
      · obtain ⟨j, rfl⟩ : ∃ j, k = j + 1 := ⟨k - 1, by omega⟩
        obtain ⟨x, y, b, off, hA, hx, hcx, hcy⟩ := (h.below hb (Nat.le_refl _)).at2 (k := j) (by omega)
        subst hA
        have b0 : (((j + 1 : Nat) : Int) == 0) = false := by simp; omega
        have ha : Hid ((bAhead l l.length).1 = x) := by show _ = _; rw [← hn.out, bAhead_succ hx.out]
        by_cases hlt2 : x < 4294967296
        · have E : Hid (bAll l over = pr l (j + 1) ++ [over]) := by
            show _ = _
            rw [bAll_over (.inr (by rw [ha.out]; exact hlt2)), ← hn.out]
          by_cases e : over = p
          · have EE : Hid (bSteps l over = Lib.compact (pr l (j + 1))) := (HS.out e).out E.out
            subst e
            clear HS HO'
            go_wp2
            go_ret
            exact gives_of hO.out EE.out hb
          · have EE : Hid (bSteps l over = Lib.compact (pr l (j + 1)) ++ [over]) := (HO'.out e).out E.out
            have b1 : (over != p) = true := by simpa using e
            clear e HS HO'
            go_wp2_with (at_builtin; refine wpList_append_own _ rfl _ _ 22 rfl w.heap.size 3 i0 (.int .i64 0) 1 8 Try.underlying22 hi hz0 hz1 hz2 rfl (by decide) _ _ _ rfl (hO.out.alloc _) ⟨wr.heap.size, 0, none⟩ 1 1 [.int .i64 over] rfl rfl (World.news_of_block (cs := #[.int .i64 over]) (t := 3) (fr := (0, 0)) (heap_alloc_new wr _)) (by simp [Value.oneCell']) (by unfold maxLen; omega) (by omega) (by simp; omega) ?_; intro v' w1 hown' hgrow _; have hb2 := (hb.alloc hsz _).grown hgrow (by simp; omega) (fun j hj => (hO.out.lt j hj).1); have HO := Lib.hid hown'; clear hown' hgrow)
            go_ret
            exact gives_of (by rw [List.map_append]; exact HO.out) EE.out hb2
        · have EE : Hid (bSteps l over = Lib.compact (pr l (j + 1))) := by
            show _ = _
            rw [bSteps, bAll_not (by rw [ha.out, ← hn.out]; exact fun hh => hh.elim (by omega) hlt2), ← hn.out]
          clear HS HO'
          go_wp2
          go_ret
          exact gives_of hO.out EE.out hb
theorem price_is {A : Option Addr} {n c : Nat} {l : List (Int × Int)} {over far p : Int} {w : World} (hp : bPrice l over far = p) (h : Rd two 2 w A n l) (hB : bandB l over = true) (h0 : 0 ≤ far) (h1 : far ≤ 4294967296) :
    Calls Try.prog 25 #[.slice A n c, .int .i64 over, .int .i64 far] w fun e w' => e = .returned (.tuple #[.int .i64 p, .int .i64 0]) ∧ Below w.heap.size w w' := by
  rw [← hp]; exact price_yes A n c l over far w h hB h0 h1
theorem bands_ex : bandB [(5, 200), (9, 300)] 450 = true := by decide
theorem awake27 (w : World) : Calls Try.prog 24 #[] w fun e w' => e = .returned (.bool true) ∧ Below w.heap.size w w' := by
  have rd := Rd.made two 2 w 60 [(5, 200), (9, 300)] #[.int .i64 5, .int .i64 200, .int .i64 9, .int .i64 300] (by simp [two]) rfl
  have p1 : Hid (bPrice [(5, 200), (9, 300)] 450 5 = 200) := by show _ = _; decide
  have p2 : Hid (bPrice [(5, 200), (9, 300)] 450 6 = 300) := by show _ = _; decide
  have p3 : Hid (bPrice [(5, 200), (9, 300)] 450 10 = 450) := by show _ = _; decide
  go_enter Try.func24, Try.ntmps24
  go_wp2_with fail
  refine (price_is p1.out rd bands_ex (by omega) (by omega)).mono ?_
  rintro e w1 ⟨rfl, b1⟩
  go_wp2_with fail
  refine (price_is p2.out (rd.below b1 (Nat.le_refl _)) bands_ex (by omega) (by omega)).mono ?_
  rintro e w2 ⟨rfl, b2⟩
  have b12 := b1.trans (b2.mono b1.size)
  go_wp2_with fail
  refine (price_is p3.out (rd.below b12 (Nat.le_refl _)) bands_ex (by omega) (by omega)).mono ?_
  rintro e w3 ⟨rfl, b3⟩
  go_wp2_with fail
  go_ret
  exact ⟨rfl, below_boxed (b12.trans (b3.mono b12.size))⟩
end Go.Proofs.Ytceohmbjajhlcaa
