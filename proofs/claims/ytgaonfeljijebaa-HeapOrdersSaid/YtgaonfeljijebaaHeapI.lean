/-
  heap.Sorted: numbers, rising. Conditions: the argument's reading; at most 500 numbers.
-/
import Derived.Test.YtgaonfeljijebaaHeapH
import Derived.Test.YtgaonfeljijebaaHeapR
namespace Go.Proofs.Ytgaonfeljijebaa
open Go.ChangeShapes Go.WideShapes Go.ChangeAt Go.RowKit Go.Shelf
set_option linter.unusedVariables false

def lenOf : Value → Nat
  | .slice _ k _ => k
  | _ => 0
theorem took_below {f hb : Nat} {v : Value} {l lk : List Int} {W w w' : World} (h : HI f w hb v lk) (hT : Took f w hb v l w') (hb' : Below W.heap.size W w) (hle : W.heap.size ≤ hb) : Below W.heap.size W w' := by
  obtain ⟨_, _, _, _, _, hs, _⟩ := hT
  exact hs.below (n := W.heap.size) hb' hb'.size (fun k hk => Nat.le_trans hle (h.lt hk).2)
theorem gave_below {f hb : Nat} {v : Value} {l lk : List Int} {x : Int} {W w w' : World} (h : HI f w hb v lk) (hT : Gave f w hb v l x w') (hb' : Below W.heap.size W w) (hle : W.heap.size ≤ hb) : Below W.heap.size W w' := by
  obtain ⟨_, _, _, _, _, hs, _⟩ := hT
  exact hs.below (n := W.heap.size) hb' hb'.size (fun k hk => Nat.le_trans hle (h.lt hk).2)
set_option maxHeartbeats 2000000 in
theorem goSorted (A : Option Addr) (n c : Nat) (l : List Int) (w : World) (h : Rd one 1 w A n l) (hm : n ≤ 500) :
    Calls Try.prog 25 #[.slice A n c] w (GivesI (sorted l) w) := by
  obtain ⟨i0, hi, hz0, hz1, hz2⟩ := info_parts Try.info3
  have HL := Lib.hid h
  have HN := Lib.hid h.1
  clear h
  go_enter Try.func25, Try.ntmps25
  go_wp2_with fail
  refine (goNew 53 _).mono ?_
  rintro e w1 ⟨rfl, hw1⟩
  have H0 : Hid (HI 53 w1 w.heap.size (.slice none 0 0) []) := by show HI _ _ _ _ _; rw [hw1]; exact heap_new 53 w
  have B0 : Hid (Below w.heap.size w w1) := by show Below _ _ _; rw [hw1]; exact (Below.refl _ _).alloc (Nat.le_refl _) _
  clear hw1
  go_wp2_with fail
  go_loopw [12] (fun i wr => ∃ (k : Nat) (v : Value) (lk : List Int), k ≤ n ∧ i = .int .i64 k ∧ Hid (HI 53 wr w.heap.size v lk) ∧ Hid (IsHeap id lk) ∧ Hid (lk.Perm (l.take k)) ∧ Hid (Below w.heap.size w wr)) (fun i _ => n - (intOf i).toNat)
  case atStart => exact ⟨0, _, [], Nat.zero_le _, rfl, H0.out, heap_nil _, List.Perm.refl _, B0.out⟩
  case round =>
    clear H0 B0
    obtain ⟨k, v, lk, hk, rfl, hH, hI, hP, hB⟩ := hrel
    by_cases hlt : k < n
    · obtain ⟨x, bb, off, hAd, hx, hc0⟩ := (HL.out.below hB.out (Nat.le_refl _)).at1 hlt
      subst hAd
      have TK : Hid (l.take (k + 1) = l.take k ++ [x]) := take_succ_of hx.out
      go_wp2_with fail
      refine (goPush rising53 x hH.out hI.out (by rw [hP.out.length_eq, List.length_take]; omega)).mono ?_
      rintro e w2 ⟨⟨u, rfl⟩, hT⟩
      have BB := Lib.hid (took_below hH.out hT hB.out (Nat.le_refl _))
      obtain ⟨v', l', h1, h2, h3, h4, h5⟩ := hT
      have H1 := Lib.hid h1
      have H2 := Lib.hid h2
      have H3 : Hid (l'.Perm (l.take (k + 1))) := by
        show List.Perm _ _
        rw [TK.out]
        exact h3.trans ((hP.out.cons x).trans (List.perm_append_comm (l₁ := [x]) (l₂ := l.take k)))
      clear h1 h2 h3 h4 h5
      go_wp2_with fail
      go_roundw
      case rel => exact ⟨k + 1, v', l', by omega, by go_num, H1.out, H2.out, H3.out, BB.out⟩
      case measure => simp [intOf]; omega
    · obtain rfl : k = n := by omega
      have TA : Hid (l.take k = l) := by show _ = _; rw [HN.out]; exact List.take_length
      rw [TA.out] at hP
      go_wp2_with fail
      go_loopw [6] (fun vo w2 => ∃ (outs lq : List Int) (vq : Value) (A' : Option Addr) (c' : Nat), vo = .slice A' outs.length c' ∧ Hid (HI 53 w2 w.heap.size vq lq) ∧ Hid (IsHeap id lq) ∧ Hid ((outs ++ lq).Perm l) ∧ Hid (Rises outs) ∧ Hid (∀ o ∈ outs, ∀ y ∈ lq, o ≤ y) ∧ Hid (w2.ownsRow w.heap.size 3 1 (.slice A' outs.length c') outs.length (cellsH one outs)) ∧ Hid (∀ g, (Value.slice A' outs.length c').ownBlock = some g → ¬ InH w.heap.size vq g) ∧ Hid (Below w.heap.size w w2)) (fun vo _ => k - lenOf vo)
      case atStart =>
        exact ⟨[], lk, v, none, 0, rfl, hH.out, hI.out, hP.out, List.Pairwise.nil, fun o ho => by simp at ho, World.ownsRow_nil _ _ _ _, fun g hg => by simp [Value.ownBlock] at hg, hB.out⟩
      case round =>
        clear hH hI hP hB
        obtain ⟨outs, lq, vq, A', c', rfl, hH, hI, hP, hR, hLe, hO, hAp, hB⟩ := hrel
        have PL : Hid (outs.length + lq.length = k) := by
          show _ = _
          rw [← List.length_append, hP.out.length_eq, ← HN.out]
        rcases lq with _ | ⟨x, t⟩
        · have E : Hid (outs = sorted l) := by
            show _ = _
            refine rises_one hR.out (sorted_rises l) ?_
            have h1 := hP.out
            rw [List.append_nil] at h1
            exact h1.trans (sorted_perm l).symm
          go_wp2_with fail
          refine (goLen hH.out).mono ?_
          rintro e w3 ⟨rfl, rfl⟩
          go_wp2_with fail
          go_ret
          refine ⟨_, _, _, rfl, ?_, hB.out⟩
          rw [← E.out]
          exact own_rd hO.out
        · have PL2 : outs.length + t.length + 1 ≤ 500 := by have := PL.out; simp at this; omega
          obtain ⟨M, hM⟩ : ∃ M, outs.length = M := ⟨_, rfl⟩
          have HM := Lib.hid hM
          rw [hM] at hO hAp PL2 PL
          have hM' := hM
          clear hM hM'
          have t0 : (0 : Int) < ((x :: t).length : Nat) := by simp <;> omega
          obtain ⟨T, hT⟩ : ∃ T, (x :: t).length = T := ⟨_, rfl⟩
          rw [hT] at t0
          have HT := Lib.hid hT
          clear hT
          rw [HM.out]
          go_wp2_with fail
          refine (goLen hH.out).mono ?_
          rintro e w3 ⟨rfl, rfl⟩
          rw [HT.out]
          go_wp2_with fail
          refine (goPop rising53 hH.out hI.out (by simp; omega) (x := x) rfl).mono ?_
          rintro e w3 ⟨rfl, hG⟩
          have BB := Lib.hid (gave_below hH.out hG hB.out (Nat.le_refl _))
          obtain ⟨v', l', h1, h2, h3, h4, h5⟩ := hG
          have OO : Hid (w3.ownsRow w.heap.size 3 1 (.slice A' M c') M (cellsH one outs)) := own_step hO.out h4 (fun g hg => hAp.out g hg)
          have AP : Hid (∀ g, (Value.slice A' M c').ownBlock = some g → ¬ InH w.heap.size v' g) := fun g hg hi => hAp.out g hg (InH.old h5 hi (hO.out.lt g hg).2)
          have LEX : Hid (∀ o ∈ outs ++ [x], ∀ y ∈ l', o ≤ y) := fun o ho y hy => by
            rcases List.mem_append.1 ho with ho | ho
            · exact hLe.out o ho y (h3.mem_iff.2 (by simp [hy]))
            · rw [List.mem_singleton.1 ho]
              exact heap_least hI.out (x := x) rfl y (h3.mem_iff.2 (by simp [hy]))
          have RX : Hid (Rises (outs ++ [x])) := rises_snoc hR.out (fun y hy => hLe.out y hy x (by simp))
          have PX : Hid ((outs ++ [x] ++ l').Perm l) := by
            show List.Perm _ _
            rw [List.append_assoc]
            exact ((h3.symm).append_left outs).trans hP.out
          have H1 := Lib.hid h1
          have H2 := Lib.hid h2
          have sz := BB.out.size
          clear h1 h2 h3 h4 h5
          go_wp2_with (at_builtin; refine wpList_append_own_at _ rfl _ _ 36 rfl w.heap.size 3 i0 (.int .i64 0) 1 8 Try.underlying36 hi hz0 hz1 hz2 rfl (by omega) _ _ _ rfl (OO.out.alloc _) ⟨w3.heap.size, 0, none⟩ 1 1 [.int .i64 x] rfl rfl (World.news_of_block (cs := #[.int .i64 x]) (t := 3) (fr := (0, 0)) (heap_alloc_new w3 _)) (by simp [Value.oneCell']) (by unfold maxLen; omega) (by omega) (by simp; omega) ?_; intro v2 w4 hown' hgrow _ hat; obtain ⟨g, cp, rfl⟩ := own_form hown' (by omega); have HO4 := Lib.hid hown'; have HAT := Lib.hid hat; have S4 := Lib.hid (Step.grown (O := fun k => (Value.slice A' M c').ownBlock = some k) ((Step.refl _ w3).alloc (.cells #[.int .i64 x] 3)) hgrow (fun r hr => .inl hr)); clear hown' hgrow hat)
          have H4 : Hid (HI 53 w4 w.heap.size v' l') := H1.out.step S4.out (fun k hk => AP.out k hk)
          have B4 : Hid (Below w.heap.size w w4) := S4.out.below (n := w.heap.size) BB.out BB.out.size (fun k hk => (OO.out.lt k hk).1)
          have A4 : Hid (∀ q, (Value.slice (some ⟨g, 0, none⟩) (M + 1) cp).ownBlock = some q → ¬ InH w.heap.size v' q) := fun q hq hi => by
            rcases HAT.out with h1 | h1
            · rw [h1] at hq
              exact AP.out q hq hi
            · rw [h1] at hq
              injection hq with hq
              have := (H1.out.lt hi).1
              rw [World.size_alloc] at hq
              omega
          go_roundw
          case rel =>
            refine ⟨outs ++ [x], l', v', some ⟨g, 0, none⟩, cp, by rw [List.length_append, HM.out]; rfl, H4.out, H2.out, PX.out, RX.out, LEX.out, ?_, ?_, B4.out⟩
            · rw [List.length_append, HM.out, ← cellsH_one_snoc]
              exact HO4.out
            · rw [List.length_append, HM.out]
              exact A4.out
          case measure =>
            have := PL.out
            simp only [List.length_cons] at this
            simp only [lenOf]
            omega
end Go.Proofs.Ytgaonfeljijebaa
