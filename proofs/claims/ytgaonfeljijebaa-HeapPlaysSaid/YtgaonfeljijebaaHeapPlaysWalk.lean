/-
  HeapPlays, walked: it returns true, whatever is pushed and popped. Conditions: the argument's reading.
-/
import Derived.Test.YtgaonfeljijebaaHeapSortsWalk
namespace Go.Proofs.Ytgaonfeljijebaa
open Go.ChangeShapes Go.WideShapes Go.ChangeAt Go.RowKit
set_option linter.unusedVariables false

theorem rd_step {O : Nat → Prop} {A : Option Addr} {n : Nat} {l : List Int} {w w' : World} (h : Rd one 1 w A n l) (hs : Step O w w') (ho : 0 < n → ∀ b off, A = some ⟨b, off, none⟩ → ¬ O b) : Rd one 1 w' A n l := by
  rcases Nat.eq_zero_or_pos n with rfl | hp
  · rw [List.eq_nil_of_length_eq_zero h.1.symm]
    exact Rd.nil _ _ _ _
  · exact h.step hs (ho hp)
theorem top_is {l t : List Int} {z : Int} (hh : IsHeap id l) (hw : Rises (z :: t)) (hp : l.Perm (z :: t)) : l[0]? = some z := by
  rcases l with _ | ⟨a, l'⟩
  · exact absurd hp.length_eq (by simp)
  · obtain ⟨w', h1⟩ := heap_head hh hw hp (x := a) rfl
    injection h1 with h1
    rw [h1]
    rfl
theorem put_cons (x : Int) (l : List Int) : ∃ z t, put x l = z :: t := by
  cases l with
  | nil => exact ⟨x, [], rfl⟩
  | cons a l =>
    by_cases h : x < a
    · exact ⟨x, a :: l, by rw [put, if_pos h]⟩
    · exact ⟨a, put x l, by rw [put, if_neg h]⟩
namespace heapPlaysWalk
set_option maxRecDepth 100000 in
set_option maxHeartbeats 8000000 in
theorem walk (A0 : Option Addr) (n0 c0 : Nat) (l0 : List Int) (w : World) (rd0 : Rd one 1 w A0 n0 l0) (ft0 : ∀ r ∈ l0, Fits r) (ge0 : n0 ≤ c0) (mx0 : c0 ≤ maxLen) :
    Calls Try.prog 7 #[.slice A0 n0 c0] w fun e w' => e = .returned (.bool true) ∧ Below w.heap.size w w' := by
  unfold maxLen at mx0
  by_cases h6 : 300 < n0
  · clear rd0
    go_enter Try.func7, Try.ntmps7
    go_wp2_with fail
    refine (awake16 _).mono ?_
    rintro e w1 ⟨rfl, hb1⟩
    have HB1 := Lib.hid hb1
    clear hb1
    go_wp2_with fail
    go_ret
    exact ⟨rfl, HB1.out⟩
  have n6 : n0 ≤ 300 := by omega
  have RD := Lib.hid rd0
  clear rd0 h6 ft0
  go_enter Try.func7, Try.ntmps7
  go_wp2_with fail
  refine (awake16 _).mono ?_
  rintro e w1 ⟨rfl, hb1⟩
  have HB1 := Lib.hid hb1
  have z1 := hb1.size
  clear hb1
  go_wp2_with fail
  refine (goNew 28 _).mono ?_
  rintro e w2 ⟨rfl, hw2⟩
  have H0 : Hid (HI 28 w2 w1.heap.size (.slice none 0 0) []) := by show HI _ _ _ _ _; rw [hw2]; exact heap_new 28 w1
  have B0 : Hid (Below w.heap.size w w2) := by show Below _ _ _; rw [hw2]; exact HB1.out.alloc z1 _
  clear hw2
  go_wp2_with fail
  go_loopw [4, 19] (fun v4 i wr => ∃ (k q c' : Nat) (v : Value) (lk ws : List Int) (A' : Option Addr), k ≤ n0 ∧ q ≤ k ∧ q ≤ c' ∧ c' ≤ 9223372036854775807 ∧ i = .int .i64 k ∧ v4 = .slice A' q c' ∧ Hid (HI 28 wr w1.heap.size v lk) ∧ Hid (IsHeap id lk) ∧ Hid (lk.Perm ws) ∧ Hid (Rises ws) ∧ Hid (Rd one 1 wr A' q ws) ∧ Hid (0 < q → ∀ b off, A' = some ⟨b, off, none⟩ → ¬ InH w1.heap.size v b) ∧ Hid (Below w.heap.size w wr)) (fun _ i _ => n0 - (intOf i).toNat)
  case atStart => exact ⟨0, 0, 0, _, [], [], none, Nat.zero_le _, Nat.le_refl _, Nat.le_refl _, by omega, rfl, rfl, H0.out, heap_nil _, List.Perm.refl _, List.Pairwise.nil, Rd.nil _ _ _ _, fun h => absurd h (by omega), B0.out⟩
  case round =>
    clear H0 B0
    obtain ⟨k, q, c', v, lk, ws, A', hk, hqk, hqc, hcm, rfl, rfl, hH, hI, hP, hR, hW, hAp, hB⟩ := hrel
    by_cases hlt : k < n0
    · obtain ⟨x, bb, off, hAd, hx, hc0⟩ := (RD.out.below hB.out (Nat.le_refl _)).at1 hlt
      subst hAd
      by_cases hx0 : 0 ≤ x
      · go_wp2_with fail
        refine (goPush rising28 x hH.out hI.out (by rw [hP.out.length_eq, ← hW.out.1]; omega)).mono ?_
        rintro e w3 ⟨⟨u, rfl⟩, hT⟩
        have BB := Lib.hid (took_below hH.out hT hB.out z1)
        obtain ⟨v', l', h1, h2, h3, h4, h5⟩ := hT
        have W3 := Lib.hid (rd_step hW.out h4 hAp.out)
        have H1 := Lib.hid h1
        have H2 := Lib.hid h2
        have H3 : Hid (l'.Perm (put x ws)) := h3.trans ((hP.out.cons x).trans (put_perm x ws).symm)
        have R3 : Hid (Rises (put x ws)) := put_rises x ws hR.out
        clear h1 h2 h3 h4 h5
        go_wp2_with fail
        refine (refPutF _ _ _ _ _ _ W3.out (by omega)).mono ?_
        rintro e w4 ⟨A4, q4, c4, rfl, hr4, hb4, hf4, hc4, hm4⟩
        obtain ⟨z, t, hzt⟩ := put_cons x ws
        rw [hzt] at hr4 H3 R3
        obtain rfl : q4 = q + 1 := by rw [hr4.1, ← hzt, put_len, ← W3.out.1]
        have HW := Lib.hid hr4
        have HH := Lib.hid (H1.out.step (Step.of hb4 (fun _ => False)) (fun _ h => h.elim))
        have HB := Lib.hid (BB.out.trans (hb4.mono BB.out.size))
        have HA : Hid (∀ b off, A4 = some ⟨b, off, none⟩ → ¬ InH w1.heap.size v' b) := fun b off hb hi => by
          have := hf4 b off hb
          have := (H1.out.lt hi).1
          omega
        unfold maxLen at hm4
        clear hr4 hb4 hf4 hzt
        have LN : Hid (l'.length = (q + 1)) := by show _ = _; rw [H3.out.length_eq, ← HW.out.1]
        have qp : 0 < (q + 1) := by rw [HW.out.1]; simp
        have TP := Lib.hid (top_is H2.out R3.out H3.out)
        go_wp2_with fail
        refine (goTop_some HH.out TP.out).mono ?_
        rintro e w9 ⟨rfl, rfl⟩
        go_wp2_with fail
        refine (goLen HH.out).mono ?_
        rintro e w9 ⟨rfl, rfl⟩
        rw [LN.out]
        obtain ⟨z', bz, offz, hAz, hz1', hcz'⟩ := HW.out.at1 (k := 0) (by omega)
        obtain rfl : z' = z := by have := hz1'.out; simpa using this.symm
        rw [Nat.add_zero] at hcz'
        subst hAz
        have zz : (z' != z') = false := by simp
        have qq : ((((q + 1) : Nat) : Int) != (((q + 1) : Nat) : Int)) = false := by simp
        have qp' : (0 : Int) < (((q + 1) : Nat) : Int) := by omega
        go_wp2_with fail
        go_roundw
        case rel => exact ⟨k + 1, (q + 1), c4, v', l', z' :: t, _, by omega, by omega, by omega, by omega, by go_num, rfl, HH.out, H2.out, H3.out, R3.out, HW.out, fun _ => HA.out, HB.out⟩
        case measure => simp [intOf]; omega
      · rcases ws with _ | ⟨y, ws'⟩
        · obtain rfl : lk = [] := hP.out.eq_nil
          obtain rfl : q = 0 := hW.out.1
          go_wp2_with fail
          refine (goPop_none hH.out).mono ?_
          rintro e w3 ⟨rfl, rfl⟩
          by_cases hcz : c' = 0
          · subst hcz
            go_wp2_with fail
            refine (goTop_none hH.out).mono ?_
            rintro e w9 ⟨rfl, rfl⟩
            go_wp2_with fail
            refine (goLen hH.out).mono ?_
            rintro e w9 ⟨rfl, rfl⟩
            go_wp2_with fail
            go_roundw
            case rel => exact ⟨k + 1, 0, _, _, [], [], _, by omega, by omega, by omega, by omega, by go_num, rfl, hH.out, heap_nil _, List.Perm.refl _, List.Pairwise.nil, Rd.nil _ _ _ _, fun h => absurd h (by omega), hB.out⟩
            case measure => simp [intOf]; omega
          · have hcz' : ¬ 0 = c' := by omega
            go_wp2_with fail
            refine (goTop_none hH.out).mono ?_
            rintro e w9 ⟨rfl, rfl⟩
            go_wp2_with fail
            refine (goLen hH.out).mono ?_
            rintro e w9 ⟨rfl, rfl⟩
            go_wp2_with fail
            go_roundw
            case rel => exact ⟨k + 1, 0, _, _, [], [], _, by omega, by omega, by omega, by omega, by go_num, rfl, hH.out, heap_nil _, List.Perm.refl _, List.Pairwise.nil, Rd.nil _ _ _ _, fun h => absurd h (by omega), hB.out⟩
            case measure => simp [intOf]; omega
        · have TI := top_is hI.out hR.out hP.out
          obtain ⟨p, rfl⟩ : ∃ p, q = p + 1 := ⟨ws'.length, by have := hW.out.1; simpa using this⟩
          go_wp2_with fail
          refine (goPop rising28 hH.out hI.out (by rw [hP.out.length_eq, ← hW.out.1]; omega) TI).mono ?_
          rintro e w3 ⟨rfl, hG⟩
          have BB := Lib.hid (gave_below hH.out hG hB.out z1)
          obtain ⟨v', l', h1, h2, h3, h4, h5⟩ := hG
          have W3 := Lib.hid (rd_step hW.out h4 hAp.out)
          have AP3 : Hid (∀ b off, A' = some ⟨b, off, none⟩ → ¬ InH w1.heap.size v' b) := fun b off hb hi => by
            refine hAp.out (by omega) b off hb (InH.old h5 hi ?_)
            obtain ⟨b2, off2, hb2, hlt2, _⟩ := hW.out.2 0 y rfl
            rw [hb] at hb2
            cases hb2
            exact hlt2
          have H1 := Lib.hid h1
          have H2 := Lib.hid h2
          have H3 : Hid (l'.Perm ws') := List.Perm.cons_inv (h3.symm.trans hP.out)
          have R3 : Hid (Rises ws') := (List.pairwise_cons.1 hR.out).2
          clear h1 h2 h3 h4 h5 TI
          obtain ⟨y', b1, off1, hA1, hy1, hcy⟩ := W3.out.at1 (k := 0) (by omega)
          subst hA1
          obtain rfl : y' = y := by have := hy1.out; simpa using this.symm
          rw [Nat.add_zero] at hcy
          have HWd : Hid (Rd one 1 w3 (some ⟨b1, off1 + 1, none⟩) p ws') := by
            refine ⟨by have := W3.out.1; simpa using this, fun i r hr => ?_⟩
            obtain ⟨b2, off2, hA2, hlt2, hc2⟩ := W3.out.2 (i + 1) r (by simpa using hr)
            cases hA2
            refine ⟨b1, off1 + 1, rfl, hlt2, fun j v hv => ?_⟩
            rw [← hc2 j v hv]
            congr 2
            omega
          have m1 : (1 : Int) ≤ (p : Int) + 1 := by omega
          have y0 : (y' != y') = false := by simp
          by_cases hc1 : c' = 1
          · subst hc1
            obtain rfl : p = 0 := by omega
            obtain rfl : ws' = [] := List.eq_nil_of_length_eq_zero HWd.out.1.symm
            obtain rfl : l' = [] := H3.out.eq_nil
            go_wp2_with fail
            refine (goTop_none H1.out).mono ?_
            rintro e w9 ⟨rfl, rfl⟩
            go_wp2_with fail
            refine (goLen H1.out).mono ?_
            rintro e w9 ⟨rfl, rfl⟩
            go_wp2_with fail
            go_roundw
            case rel => exact ⟨k + 1, 0, _, _, [], [], _, by omega, by omega, by omega, by omega, by go_num, rfl, H1.out, heap_nil _, List.Perm.refl _, List.Pairwise.nil, Rd.nil _ _ _ _, fun h => absurd h (by omega), BB.out⟩
            case measure => simp [intOf]; omega
          · have hc1' : ¬ 1 = c' := by omega
            rcases ws' with _ | ⟨z, t⟩
            · obtain rfl : p = 0 := HWd.out.1
              obtain rfl : l' = [] := H3.out.eq_nil
              go_wp2_with fail
              refine (goTop_none H1.out).mono ?_
              rintro e w9 ⟨rfl, rfl⟩
              go_wp2_with fail
              refine (goLen H1.out).mono ?_
              rintro e w9 ⟨rfl, rfl⟩
              go_wp2_with fail
              go_roundw
              case rel => exact ⟨k + 1, 0, _, _, [], [], _, by omega, by omega, by omega, by omega, by go_num, rfl, H1.out, heap_nil _, List.Perm.refl _, List.Pairwise.nil, Rd.nil _ _ _ _, fun h => absurd h (by omega), BB.out⟩
              case measure => simp [intOf]; omega
            · have HW := HWd
              have HH := H1
              have HB := BB
              have HA : Hid (∀ b off, some (⟨b1, off1 + 1, none⟩ : Addr) = some ⟨b, off, none⟩ → ¬ InH w1.heap.size v' b) := fun b off hb => AP3.out b off1 (by cases hb; rfl)
              go_wp2_with fail
              have LN : Hid (l'.length = p) := by show _ = _; rw [H3.out.length_eq, ← HW.out.1]
              have qp : 0 < p := by rw [HW.out.1]; simp
              have TP := Lib.hid (top_is H2.out R3.out H3.out)
              refine (goTop_some HH.out TP.out).mono ?_
              rintro e w9 ⟨rfl, rfl⟩
              go_wp2_with fail
              refine (goLen HH.out).mono ?_
              rintro e w9 ⟨rfl, rfl⟩
              rw [LN.out]
              obtain ⟨z', bz, offz, hAz, hz1', hcz'⟩ := HW.out.at1 (k := 0) (by omega)
              obtain rfl : z' = z := by have := hz1'.out; simpa using this.symm
              rw [Nat.add_zero] at hcz'
              cases hAz
              have zz : (z' != z') = false := by simp
              have qq : (((p : Nat) : Int) != ((p : Nat) : Int)) = false := by simp
              have qp' : (0 : Int) < ((p : Nat) : Int) := by omega
              go_wp2_with fail
              go_roundw
              case rel => exact ⟨k + 1, p, (c' - 1), v', l', z' :: t, (some ⟨b1, off1 + 1, none⟩), by omega, by omega, by omega, by omega, by go_num, rfl, HH.out, H2.out, H3.out, R3.out, HW.out, fun _ => HA.out, HB.out⟩
              case measure => simp [intOf]; omega
    · obtain rfl : k = n0 := by omega
      go_wp2_with fail
      go_ret
      exact ⟨rfl, hB.out⟩
end heapPlaysWalk
end Go.Proofs.Ytgaonfeljijebaa
