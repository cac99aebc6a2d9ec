/-
  The reference's Put and Sorted, and Same for ints. Conditions: the arguments' readings.
-/
import Derived.Test.YtgaonfeljijebaaHeapG
namespace Go.Proofs.Ytgaonfeljijebaa
open Go.ChangeShapes Go.WideShapes Go.ChangeAt Go.RowKit
set_option linter.unusedVariables false

/-- Is there one above n? -/
def above (n : Int) (l : List Int) : Bool := l.any (fun a => decide (n < a))
/-- What Put has behind the elements of l. -/
def outP (n : Int) (l : List Int) : List Int := if above n l = true then put n l else l
theorem above_snoc (n a : Int) (l : List Int) : above n (l ++ [a]) = (above n l || decide (n < a)) := by simp [above]
theorem put_none {n : Int} : ∀ {l : List Int}, above n l = false → put n l = l ++ [n]
  | [], _ => rfl
  | a :: l, h => by
    simp only [above, List.any_cons, Bool.or_eq_false_iff, decide_eq_false_iff_not] at h
    rw [put, if_neg h.1, put_none (l := l) h.2]
    rfl
theorem put_snoc {n a : Int} : ∀ {l : List Int}, above n l = true → put n (l ++ [a]) = put n l ++ [a]
  | [], h => by simp [above] at h
  | b :: l, h => by
    by_cases hb : n < b
    · rw [List.cons_append, put, put, if_pos hb, if_pos hb]
      rfl
    · have h' : above n l = true := by
        simp only [above, List.any_cons, Bool.or_eq_true, decide_eq_true_eq] at h
        rcases h with h | h
        · exact absurd h hb
        · exact h
      rw [List.cons_append, put, put, if_neg hb, if_neg hb, put_snoc h']
      rfl
theorem outP_yes {n a : Int} {l : List Int} (h : above n l = true) : outP n (l ++ [a]) = outP n l ++ [a] := by
  rw [outP, outP, if_pos h, if_pos (by rw [above_snoc, h]; rfl), put_snoc h]
theorem outP_no {n a : Int} {l : List Int} (h : above n l = false) (ha : ¬ n < a) : outP n (l ++ [a]) = outP n l ++ [a] ∧ above n (l ++ [a]) = false := by
  have e : above n (l ++ [a]) = false := by rw [above_snoc, h, decide_eq_false ha]; rfl
  rw [outP, outP, e, h]
  exact ⟨rfl, rfl⟩
theorem outP_here {n a : Int} {l : List Int} (h : above n l = false) (ha : n < a) : outP n (l ++ [a]) = outP n l ++ [n] ++ [a] ∧ above n (l ++ [a]) = true := by
  have e : above n (l ++ [a]) = true := by rw [above_snoc, h, decide_eq_true ha]; rfl
  have e2 : ∀ m : List Int, above n m = false → put n (m ++ [a]) = m ++ [n] ++ [a] := by
    intro m
    induction m with
    | nil => intro _; rw [List.nil_append, put, if_pos ha]; rfl
    | cons b m ih =>
      intro hm
      simp only [above, List.any_cons, Bool.or_eq_false_iff, decide_eq_false_iff_not] at hm
      rw [List.cons_append, put, if_neg hm.1, ih hm.2]
      rfl
  rw [outP, outP, e, h, if_pos rfl, if_neg (by simp)]
  exact ⟨e2 l h, rfl⟩
theorem outP_len (n : Int) (l : List Int) : (outP n l).length ≤ l.length + 1 := by
  unfold outP
  split
  · rw [(put_perm n l).length_eq]; exact Nat.le_refl _
  · omega
theorem put_len (n : Int) (l : List Int) : (put n l).length = l.length + 1 := (put_perm n l).length_eq

theorem own_rd {w : World} {base n c : Nat} {A : Option Addr} {l : List Int} (h : w.ownsRow base 3 1 (.slice A n c) n (cellsH one l)) : Rd one 1 w A n l := by
  rw [cellsH_one] at h
  obtain ⟨A', c', e, hr⟩ := rdOwn1 h
  cases e
  exact hr
/-- A call hands back these ints, in new memory. -/
def GivesF (rs : List Int) (w : World) (e : Ending) (w' : World) : Prop :=
  ∃ A N c, e = .returned (.slice A N c) ∧ Rd one 1 w' A N rs ∧ Below w.heap.size w w' ∧ (∀ b off, A = some ⟨b, off, none⟩ → w.heap.size ≤ b) ∧ N ≤ c ∧ c ≤ maxLen
theorem own_fresh {w : World} {base n c : Nat} {A : Option Addr} {xs : List Value} (h : w.ownsRow base 3 1 (.slice A n c) n xs) : (∀ b off, A = some ⟨b, off, none⟩ → base ≤ b) ∧ n ≤ c ∧ c ≤ maxLen := by
  rcases h.2 with ⟨h1, h2⟩ | ⟨g, cap, cur, hv, hg, hc, hnc, hcm, hcs, ht⟩
  · simp only [Value.slice.injEq] at h1
    obtain ⟨rfl, rfl, rfl⟩ := h1
    exact ⟨fun b off hb => by simp at hb, Nat.le_refl _, Nat.zero_le _⟩
  · simp only [Value.slice.injEq] at hv
    obtain ⟨rfl, _, rfl⟩ := hv
    exact ⟨fun b off hb => by simp at hb; omega, hnc, hcm⟩
set_option maxHeartbeats 2000000 in
theorem refPutF (A : Option Addr) (n c : Nat) (l : List Int) (x : Int) (w : World) (h : Rd one 1 w A n l) (hm : n ≤ 1000) :
    Calls Try.prog 30 #[.slice A n c, .int .i64 x] w (GivesF (put x l) w) := by
  obtain ⟨i0, hi, hz0, hz1, hz2⟩ := info_parts Try.info3
  have HL := Lib.hid h
  have HN := Lib.hid h.1
  clear h
  go_enter Try.func30, Try.ntmps30
  go_wp2
  go_loopw [5, 6, 7] (fun v d i wr => ∃ (k : Nat) (b : Bool), k ≤ n ∧ i = .int .i64 k ∧ d = .bool b ∧ Hid (above x (l.take k) = b) ∧ Hid (wr.ownsRow w.heap.size 3 1 v (outP x (l.take k)).length (cellsH one (outP x (l.take k)))) ∧ Hid (Below w.heap.size w wr)) (fun _ _ i _ => n - (intOf i).toNat)
  case atStart => exact ⟨0, false, Nat.zero_le _, rfl, rfl, rfl, World.ownsRow_nil _ _ _ _, Below.refl _ _⟩
  case round =>
    obtain ⟨k, b, hk, rfl, rfl, hA, hO, hB⟩ := hrel
    have hsz := hB.out.size
    have OL : (outP x (l.take k)).length ≤ 1001 := by
      have := outP_len x (l.take k)
      rw [List.length_take] at this
      omega
    by_cases hlt : k < n
    · obtain ⟨a, bb, off, hAd, hx, hc0⟩ := (HL.out.below hB.out (Nat.le_refl _)).at1 hlt
      subst hAd
      have TK : Hid (l.take (k + 1) = l.take k ++ [a]) := take_succ_of hx.out
      have lb : bb < w.heap.size := HL.out.lt (by omega)
      cases b with
      | true =>
        have G : Hid (outP x (l.take (k + 1)) = outP x (l.take k) ++ [a] ∧ above x (l.take (k + 1)) = true) := by
          show _ ∧ _
          rw [TK.out]
          exact ⟨outP_yes hA.out, by rw [above_snoc, hA.out]; rfl⟩
        obtain ⟨O, hOe⟩ : ∃ O, outP x (l.take k) = O := ⟨_, rfl⟩
        rw [hOe] at hO OL G
        clear hOe
        go_wp2_with (at_builtin; refine wpList_append_own _ rfl _ _ 36 rfl w.heap.size 3 i0 _ 1 8 Try.underlying36 hi hz0 hz1 hz2 rfl (by omega) _ _ _ rfl (hO.out.alloc _) ⟨wr.heap.size, 0, none⟩ 1 1 [.int .i64 a] rfl rfl (World.news_of_block (cs := #[.int .i64 a]) (t := 3) (fr := (0, 0)) (heap_alloc_new wr _)) (by simp [Value.oneCell']) (by unfold maxLen; omega) (by omega) (by simp; omega) ?_; intro v' w1 hown' hgrow _; have HO1 := Lib.hid hown'; have HB1 := Lib.hid ((hB.out.alloc hsz _).grown hgrow (by simp; omega) (fun j hj => (hO.out.lt j hj).1)); clear hown' hgrow)
        go_roundw
        case rel =>
          refine ⟨k + 1, true, by omega, by go_num, rfl, G.out.2, ?_, HB1.out⟩
          rw [G.out.1, List.length_append, ← cellsH_one_snoc]
          exact HO1.out
        case measure => simp [intOf]; omega
      | false =>
        by_cases hxa : x < a
        · have G : Hid (outP x (l.take (k + 1)) = outP x (l.take k) ++ [x] ++ [a] ∧ above x (l.take (k + 1)) = true) := by
            show _ ∧ _
            rw [TK.out]
            exact outP_here hA.out hxa
          obtain ⟨O, hOe⟩ : ∃ O, outP x (l.take k) = O := ⟨_, rfl⟩
          rw [hOe] at hO OL G
          clear hOe
          go_wp2_with (first | (at_builtin; refine wpList_append_own _ rfl _ _ 36 rfl w.heap.size 3 i0 _ 1 8 Try.underlying36 hi hz0 hz1 hz2 rfl (by omega) _ _ _ rfl (HO1.out.alloc _) ⟨w1.heap.size, 0, none⟩ 1 1 [.int .i64 a] rfl rfl (World.news_of_block (cs := #[.int .i64 a]) (t := 3) (fr := (0, 0)) (heap_alloc_new w1 _)) (by simp [Value.oneCell']) (by unfold maxLen; omega) (by omega) (by simp; omega) ?_; intro v2 w2 hown' hgrow _; have HO2 := Lib.hid hown'; have HB2 := Lib.hid ((HB1.out.alloc hsz1 _).grown hgrow (by simp; omega) (fun j hj => (HO1.out.lt j hj).1)); clear hown' hgrow) | (at_builtin; refine wpList_append_own _ rfl _ _ 36 rfl w.heap.size 3 i0 _ 1 8 Try.underlying36 hi hz0 hz1 hz2 rfl (by omega) _ _ _ rfl (hO.out.alloc _) ⟨wr.heap.size, 0, none⟩ 1 1 [.int .i64 x] rfl rfl (World.news_of_block (cs := #[.int .i64 x]) (t := 3) (fr := (0, 0)) (heap_alloc_new wr _)) (by simp [Value.oneCell']) (by unfold maxLen; omega) (by omega) (by simp; omega) ?_; intro v1 w1 hown' hgrow _; have HO1 := Lib.hid hown'; have HB1 := Lib.hid ((hB.out.alloc hsz _).grown hgrow (by simp; omega) (fun j hj => (hO.out.lt j hj).1)); clear hown' hgrow; obtain ⟨a', bb', off', hAd, hx', hc1⟩ := (HL.out.below HB1.out (Nat.le_refl _)).at1 hlt; obtain ⟨rfl, rfl⟩ : bb = bb' ∧ off = off' := (by simpa using hAd); obtain rfl : a = a' := (by have := hx.out.symm.trans hx'.out; simpa using this); have hsz1 := HB1.out.size; have lb1 : bb < w1.heap.size := (by omega); clear hAd))
          go_roundw
          case rel =>
            refine ⟨k + 1, true, by omega, by go_num, rfl, G.out.2, ?_, HB2.out⟩
            rw [G.out.1, List.length_append, List.length_append, ← cellsH_one_snoc, ← cellsH_one_snoc]
            exact HO2.out
          case measure => simp [intOf]; omega
        · have G : Hid (outP x (l.take (k + 1)) = outP x (l.take k) ++ [a] ∧ above x (l.take (k + 1)) = false) := by
            show _ ∧ _
            rw [TK.out]
            exact outP_no hA.out hxa
          obtain ⟨O, hOe⟩ : ∃ O, outP x (l.take k) = O := ⟨_, rfl⟩
          rw [hOe] at hO OL G
          clear hOe
          go_wp2_with (at_builtin; refine wpList_append_own _ rfl _ _ 36 rfl w.heap.size 3 i0 _ 1 8 Try.underlying36 hi hz0 hz1 hz2 rfl (by omega) _ _ _ rfl (hO.out.alloc _) ⟨wr.heap.size, 0, none⟩ 1 1 [.int .i64 a] rfl rfl (World.news_of_block (cs := #[.int .i64 a]) (t := 3) (fr := (0, 0)) (heap_alloc_new wr _)) (by simp [Value.oneCell']) (by unfold maxLen; omega) (by omega) (by simp; omega) ?_; intro v1 w1 hown' hgrow _; have HO1 := Lib.hid hown'; have HB1 := Lib.hid ((hB.out.alloc hsz _).grown hgrow (by simp; omega) (fun j hj => (hO.out.lt j hj).1)); clear hown' hgrow)
          go_roundw
          case rel =>
            refine ⟨k + 1, false, by omega, by go_num, rfl, G.out.2, ?_, HB1.out⟩
            rw [G.out.1, List.length_append, ← cellsH_one_snoc]
            exact HO1.out
          case measure => simp [intOf]; omega
    · obtain rfl : k = n := by omega
      have TA : Hid (l.take k = l) := by show _ = _; rw [HN.out]; exact List.take_length
      rw [TA.out] at hA hO OL
      cases b with
      | true =>
        have E : Hid (outP x l = put x l) := by show _ = _; rw [outP, if_pos hA.out]
        rw [E.out] at hO
        obtain ⟨A1, c1, rfl⟩ := own_any hO.out
        go_wp2_with fail
        go_ret
        exact ⟨_, _, _, rfl, own_rd hO.out, hB.out, own_fresh hO.out⟩
      | false =>
        have E : Hid (outP x l = l) := by show _ = _; rw [outP, if_neg (by rw [hA.out]; simp)]
        have E2 : Hid (put x l = l ++ [x]) := put_none hA.out
        rw [E.out] at hO OL
        obtain ⟨M, hM⟩ : ∃ M, l.length = M := ⟨_, rfl⟩
        have HM := Lib.hid hM
        rw [hM] at hO OL
        clear hM
        go_wp2_with (at_builtin; refine wpList_append_own _ rfl _ _ 36 rfl w.heap.size 3 i0 _ 1 8 Try.underlying36 hi hz0 hz1 hz2 rfl (by omega) _ _ _ rfl (hO.out.alloc _) ⟨wr.heap.size, 0, none⟩ 1 1 [.int .i64 x] rfl rfl (World.news_of_block (cs := #[.int .i64 x]) (t := 3) (fr := (0, 0)) (heap_alloc_new wr _)) (by simp [Value.oneCell']) (by unfold maxLen; omega) (by omega) (by simp; omega) ?_; intro v1 w1 hown' hgrow _; have HO1 := Lib.hid hown'; have HB1 := Lib.hid ((hB.out.alloc hsz _).grown hgrow (by simp; omega) (fun j hj => (hO.out.lt j hj).1)); clear hown' hgrow; obtain ⟨g1, cp1, rfl⟩ := own_form HO1.out (by omega))
        go_ret
        refine ⟨_, _, _, rfl, ?_, HB1.out, own_fresh HO1.out⟩
        have h1 := HO1.out
        rw [cellsH_one_snoc, ← E2.out] at h1
        have h2 := put_len x l
        rw [HM.out] at h2
        rw [← h2] at h1 ⊢
        exact own_rd h1
theorem refPut (A : Option Addr) (n c : Nat) (l : List Int) (x : Int) (w : World) (h : Rd one 1 w A n l) (hm : n ≤ 1000) :
    Calls Try.prog 30 #[.slice A n c, .int .i64 x] w (GivesI (put x l) w) :=
  (refPutF A n c l x w h hm).mono fun _ _ ⟨A', N, c', he, hr, hb, _⟩ => ⟨A', N, c', he, hr, hb⟩

theorem sorted_len (l : List Int) : (sorted l).length = l.length := (sorted_perm l).length_eq
theorem refSorted (A : Option Addr) (n c : Nat) (l : List Int) (w : World) (h : Rd one 1 w A n l) (hm : n ≤ 500) :
    Calls Try.prog 26 #[.slice A n c] w (GivesI (sorted l) w) := by
  have HL := Lib.hid h
  have HN := Lib.hid h.1
  clear h
  go_enter Try.func26, Try.ntmps26
  go_wp2
  go_loopw [3, 4] (fun v i wr => ∃ (k : Nat) (A' : Option Addr) (c' : Nat), k ≤ n ∧ i = .int .i64 k ∧ v = .slice A' k c' ∧ Hid (Rd one 1 wr A' k (sorted (l.take k))) ∧ Hid (Below w.heap.size w wr)) (fun _ i _ => n - (intOf i).toNat)
  case atStart => exact ⟨0, none, 0, Nat.zero_le _, rfl, rfl, Rd.nil _ _ _ _, Below.refl _ _⟩
  case round =>
    obtain ⟨k, A', c', hk, rfl, rfl, hS, hB⟩ := hrel
    by_cases hlt : k < n
    · obtain ⟨a, bb, off, hAd, hx, hc0⟩ := (HL.out.below hB.out (Nat.le_refl _)).at1 hlt
      subst hAd
      have TK : Hid (put a (sorted (l.take k)) = sorted (l.take (k + 1))) := by show _ = _; rw [take_succ_of hx.out, sorted_snoc]
      go_wp2_with fail
      refine (refPut _ _ _ _ _ _ hS.out (by omega)).mono ?_
      rintro e w1 ⟨A1, N1, c1, rfl, hr, hb⟩
      rw [TK.out] at hr
      obtain rfl : N1 = k + 1 := by
        rw [hr.1, sorted_len, List.length_take, ← HN.out]
        omega
      have HR := Lib.hid hr
      have HB := Lib.hid (hB.out.trans (hb.mono hB.out.size))
      clear hr hb
      go_wp2_with fail
      go_roundw
      case rel => exact ⟨k + 1, A1, c1, by omega, by go_num, rfl, HR.out, HB.out⟩
      case measure => simp [intOf]; omega
    · obtain rfl : k = n := by omega
      have TA : Hid (l.take k = l) := by show _ = _; rw [HN.out]; exact List.take_length
      rw [TA.out] at hS
      go_wp2_with fail
      go_ret
      exact ⟨_, _, _, rfl, hS.out, hB.out⟩
theorem sameH (A B : Option Addr) (n c n' c' : Nat) (l : List Int) (w : World) (h : Rd one 1 w A n l) (h' : Rd one 1 w B n' l) (hm : n ≤ 9223372036854775807) :
    Calls Try.prog 21 #[.slice A n c, .slice B n' c'] w fun e w' => e = .returned (.bool true) ∧ Below w.heap.size w w' := by
  have hn : n = n' := h.1.trans h'.1.symm
  subst hn
  go_enter Try.func21, Try.ntmps21
  go_wp2
  go_loopw [5] (fun i wr => ∃ k : Nat, k ≤ n ∧ i = .int .i64 k ∧ Below w.heap.size w wr) (fun i _ => n - (intOf i).toNat)
  case atStart => exact ⟨0, Nat.zero_le _, rfl, Below.refl _ _⟩
  case round =>
    obtain ⟨k, hk, rfl, hb⟩ := hrel
    have hR : Rd one 1 wr A n l := h.below hb (Nat.le_refl _)
    have hR' : Rd one 1 wr B n l := h'.below hb (Nat.le_refl _)
    by_cases hlt : k < n
    · obtain ⟨x, b, off, hA, hx, hc0⟩ := hR.at1 hlt
      obtain ⟨x', b', off', hB, hx', hc0'⟩ := hR'.at1 hlt
      obtain rfl : x = x' := by have := hx.out.symm.trans hx'.out; simpa using this
      subst hA hB
      go_wp2
      go_quiet (fail)
      go_wp2
      go_roundw
      case rel => exact ⟨k + 1, by omega, by go_num, below_dN hb _⟩
      case measure => simp [intOf]; omega
    · obtain rfl : k = n := by omega
      go_wp2
      go_ret
      exact ⟨rfl, hb⟩
end Go.Proofs.Ytgaonfeljijebaa
