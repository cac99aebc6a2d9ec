/-
  heap: Push at pairs. Conditions: the heap's struct and row, and the order's variable, in memory.
-/
import Derived.Test.YtgaonfeljijebaaHeapK
import Derived.Deep.RegionLaw
namespace Go.Proofs.Ytgaonfeljijebaa
open Go.ChangeShapes Go.WideShapes Go.ChangeAt Go.RowKit Go.Shelf
set_option linter.unusedVariables false

theorem Try.info62 : (Try.prog.info? 62).map (fun i => (i.zero, i.size, i.bytes)) = some (some (.agg #[.int .i64 0, .int .i64 0]), 2, 16) := by kernel_rfl
/-- A heap that has taken a pair in. -/
def TookP (tb : Nat) (b : Bool) (w : World) (hb : Nat) (v : Value) (l0 : List Pair) (w' : World) : Prop :=
  ∃ v' l', HP tb w' hb v' l' ∧ IsHeap (keyP b) l' ∧ l'.Perm l0 ∧ Step (InH hb v) w w' ∧ Grew w v v'
set_option maxRecDepth 100000 in
set_option maxHeartbeats 8000000 in
theorem goPushP {tb hb : Nat} {b : Bool} {v : Value} {l : List Pair} {w : World} (x1 x2 : Int) (htc : Bk w tb 4 #[.bool b]) (htb : tb < hb) (hfl : ∀ r ∈ l, Fits r.1) (hfx : Fits x1) (h : HP tb w hb v l) (hh : IsHeap (keyP b) l) (hl : l.length ≤ 1000) :
    Calls Try.prog 34 #[.pointer (some ⟨hb, 0, none⟩), .agg #[.int .i64 x1, .int .i64 x2]] w fun e w' => (∃ u, e = .returned u) ∧ TookP tb b w hb v ((x1, x2) :: l) w' := by
  obtain ⟨i0, hi, hz0, hz1, hz2⟩ := info_parts Try.info62
  obtain ⟨A, c, rfl⟩ := own_any h.row
  obtain ⟨N, hN⟩ : ∃ N, l.length = N := ⟨_, rfl⟩
  rw [hN] at h hl
  have HI' := Lib.hid hh
  have HN := Lib.hid hN
  have HH := Lib.hid h
  have HFL := Lib.hid hfl
  have HFX := Lib.hid hfx
  have HTC := Lib.hid htc
  have hbl := h.blk.lt
  have c1 := h.blk.cell 1
  have f1 := h.blk.free 1
  have OW : Hid (w.ownsRow (hb + 1) 62 2 (.slice A N c) N (cellsH two l)) := by have := h.row; rw [hN] at this; exact this
  obtain ⟨wa, hwa⟩ : ∃ wa, w.alloc (.cells #[.int .i64 x1, .int .i64 x2] 62) = wa := ⟨_, rfl⟩
  have BA : Hid (Below w.heap.size w wa) := by show Below _ _ _; rw [← hwa]; exact (Below.refl _ w).alloc (Nat.le_refl _) _
  have SA : Hid (wa.heap.size = w.heap.size + 1) := by show _ = _; rw [← hwa]; simp
  have Ha : Hid (HP tb wa hb (.slice A N c) l) := h.step (Step.of BA.out (fun _ => False)) (fun _ h => h.elim)
  have Oa : Hid (wa.ownsRow (hb + 1) 62 2 (.slice A N c) N (cellsH two l)) := by have := Ha.out.row; rw [hN] at this; exact this
  have XA : Hid (Bk wa w.heap.size 62 #[.int .i64 x1, .int .i64 x2]) := by show Bk _ _ _ _; rw [← hwa]; exact Bk.new _ _ _
  rw [hN]
  clear h hh hN hfl hfx htc c1 f1
  go_enter Try.func34, Try.ntmps34
  go_wp2_with fail
  clear hwa
  refine (goIsP Ha.out).mono ?_
  rintro e w' ⟨rfl, rfl⟩
  have c1 := Ha.out.blk.cell 1
  have f1 := Ha.out.blk.free 1
  have d0 := XA.out.cell 0
  have d1 := XA.out.cell 1
  go_wp2_with fail
  have k1 : ∀ o, (wa.alloc o).cell? ⟨hb, 1, none⟩ = some (.slice A N c) := fun o => (Ha.out.blk.alloc o).cell 1
  have k2 : ∀ o, (wa.alloc o).cell? ⟨w.heap.size, 0, none⟩ = some (.int .i64 x1) := fun o => (XA.out.alloc o).cell 0
  have k3 : ∀ o, (wa.alloc o).cell? ⟨w.heap.size, 1, none⟩ = some (.int .i64 x2) := fun o => (XA.out.alloc o).cell 1
  go_region_law ((refine step_append_lies _ (by rfl) _ _ _ (by rfl) (hb + 1) 62 i0 _ 2 16 Try.underlying58 hi hz0 hz1 hz2 rfl (by omega) _ _ (cellsH two l) (by rfl) ((Oa.out.alloc _).drew) ⟨wa.heap.size, 0, none⟩ 1 1 [.int .i64 x1, .int .i64 x2] (by rfl) (by rfl) (World.news_of_block (cs := #[.int .i64 x1, .int .i64 x2]) (t := 62) (fr := (0, 0)) (heap_alloc_new wa _)) (by simp [Value.oneCell']) (by omega) (by unfold maxLen; omega) (by omega) (by have := SA.out; simp; omega) (wa.heap.size + 1) (by simp) ?_; intro gg cap w1 hown1 hgrow hat hlt1; have HA := Lib.hid (pair_app (x := (x1, x2)) (w0 := (wa.alloc (.cells #[.int .i64 x1, .int .i64 x2] 62)).drew) HH.out HN.out hown1 (below_dN (BA.out.alloc BA.out.size (.cells #[.int .i64 x1, .int .i64 x2] 62)) 1) hgrow (hat.elim (fun h => .inl h.symm) (fun h => .inr (by rw [h]; show some (wa.heap.size + 1) = some _; simp)))); have cz : w1.cell? ⟨hb, 1, none⟩ = some (.slice A N c) := (World.cell?_of_block (a := ⟨hb, 1, none⟩) (hgrow.block hb (by have := SA.out; simp; omega) (fun e => by have := OW.out.lt _ e.symm; omega))).trans (by simpa using Bk.cell (Ha.out.blk.alloc (.cells #[.int .i64 x1, .int .i64 x2] 62)) 1); have fz : w1.frozen? ⟨hb, 1, none⟩ = false := (World.frozen?_of_block (a := ⟨hb, 1, none⟩) (hgrow.block hb (by have := SA.out; simp; omega) (fun e => by have := OW.out.lt _ e.symm; omega))).trans (by simpa using Bk.free (Ha.out.blk.alloc (.cells #[.int .i64 x1, .int .i64 x2] 62)) 1)))
  all_goals
    obtain ⟨W1, hW1⟩ : ∃ W1, w1.setCell ⟨hb, 1, none⟩ (.slice (some ⟨gg, 0, none⟩) (N + 1) cap) = W1 := ⟨_, rfl⟩
    rw [hW1] at HA
    have HA1 := Lib.hid HA.out
    rw [hW1]
    clear hW1 HA cz fz hown1 hgrow hat hlt1 k1 k2 k3 c1 f1 d0 d1
    have T1 : Hid (Bk W1 tb 4 #[.bool b]) := HTC.out.step HA1.out.2.1 (fun h => by have := (HH.out.lt h).2; omega)
    have c1 := HA1.out.1.blk.cell 1
    go_wp2_with fail
    go_loopw [4] (fun v4 wr => ∃ (i : Nat) (lk : List Pair), i ≤ N ∧ v4 = .int .i64 i ∧ Hid (lk.length = N + 1) ∧ Hid (HP tb wr hb (.slice (some ⟨gg, 0, none⟩) (N + 1) cap) lk) ∧ Hid (UpAt (keyP b) lk i) ∧ Hid (lk.Perm ((x1, x2) :: l)) ∧ Hid (Step (InH hb (.slice (some ⟨gg, 0, none⟩) (N + 1) cap)) W1 wr)) (fun v4 _ => (intOf v4).toNat)
    case atStart =>
      refine ⟨N, l ++ [(x1, x2)], Nat.le_refl _, by go_num, ?_, HA1.out.1, ?_, ?_, Step.refl _ _⟩
      · show _ = _; rw [List.length_append, HN.out]; rfl
      · have := up_start HI'.out (x1, x2)
        rw [HN.out] at this
        exact this
      · exact List.perm_append_comm (l₁ := l) (l₂ := [(x1, x2)])
    case round =>
      clear c1
      obtain ⟨i, lk, hiN, rfl, hlen, hH, hU, hP, hS⟩ := hrel
      have done : ∀ w8, Below wr.heap.size wr w8 → IsHeap (keyP b) lk → TookP tb b w hb (.slice A N c) ((x1, x2) :: l) w8 := fun w8 h8 hh => ⟨_, lk, hH.out.step (Step.of h8 (fun _ => False)) (fun _ h => h.elim), hh, hP.out, HA1.out.2.1.after HA1.out.2.2 (hS.out.trans (Step.of h8 _)), HA1.out.2.2⟩
      have FK : Hid (∀ r ∈ lk, Fits r.1) := fun r hr => by
        rcases List.mem_cons.1 (hP.out.mem_iff.1 hr) with h | h
        · rw [h]; exact HFX.out
        · exact HFL.out r h
      rcases Nat.eq_zero_or_pos i with rfl | hpos
      · have D := Lib.hid (done wr (Below.refl _ _) (up_end hU.out (.inl rfl)))
        clear done
        go_wp2_with fail
        go_end0
        exact ⟨⟨_, rfl⟩, D.out⟩
      · obtain ⟨j, rfl⟩ : ∃ j, i = j + 1 := ⟨i - 1, by omega⟩
        obtain ⟨p, hp⟩ : ∃ p, j / 2 = p := ⟨_, rfl⟩
        have hpj : (j : Int) / 2 = (p : Int) := by omega
        obtain ⟨⟨xi, xi'⟩, hxi⟩ : ∃ y, lk[j + 1]? = some y := ⟨_, List.getElem?_eq_getElem (by have := hlen.out; omega)⟩
        obtain ⟨⟨xp, xp'⟩, hxp⟩ : ∃ y, lk[p]? = some y := ⟨_, List.getElem?_eq_getElem (by have := hlen.out; omega)⟩
        have HX := Lib.hid hxi
        have HXP := Lib.hid hxp
        have FX := Lib.hid (FK.out _ (List.mem_of_getElem? hxi))
        have FP := Lib.hid (FK.out _ (List.mem_of_getElem? hxp))
        obtain ⟨e0, e1, _, _⟩ := pair_at hH.out hlen.out hxi
        obtain ⟨e2, e3, _, _⟩ := pair_at hH.out hlen.out hxp
        have TW : Hid (Bk wr tb 4 #[.bool b]) := T1.out.step hS.out (fun h => by have := (HA1.out.1.lt h).2; omega)
        have q0 : ∀ t : Later wr, t.w.cell? ⟨hb, 0, none⟩ = some (.func (.func 38) #[] #[.pointer (some ⟨tb, 0, none⟩)]) := fun t => Later.cell (hH.out.blk.cell 0) t
        have q1 : ∀ t : Later wr, t.w.cell? ⟨hb, 1, none⟩ = some (.slice (some ⟨gg, 0, none⟩) (N + 1) cap) := fun t => Later.cell (hH.out.blk.cell 1) t
        have q2 : ∀ t : Later wr, t.w.cell? ⟨gg, (j + 1) * 2, none⟩ = some (.int .i64 xi) := fun t => Later.cell e0 t
        have q3 : ∀ t : Later wr, t.w.cell? ⟨gg, (j + 1) * 2 + 1, none⟩ = some (.int .i64 xi') := fun t => Later.cell e1 t
        have q4 : ∀ t : Later wr, t.w.cell? ⟨gg, p * 2, none⟩ = some (.int .i64 xp) := fun t => Later.cell e2 t
        have q5 : ∀ t : Later wr, t.w.cell? ⟨gg, p * 2 + 1, none⟩ = some (.int .i64 xp') := fun t => Later.cell e3 t
        have TL : Hid (∀ t : Later wr, t.w.cell? ⟨tb, 0, none⟩ = some (.bool b)) := fun t => Later.cell (TW.out.cell 0) t
        have PJ : Hid ((j + 1 - 1) / 2 = p) := by show _ = _; rw [← hp]; rfl
        have p0 : (0 : Int) ≤ p := by omega
        have p1 : (p : Int) < (N : Int) + 1 := by omega
        have j0 : (0 : Int) ≤ (j : Int) + 1 := by omega
        have j1 : (j : Int) + 1 < (N : Int) + 1 := by omega
        have pj : p ≤ j := by omega
        clear hxi hxp hp e0 e1 e2 e3
        rcases hr : decide (keyP b (xi, xi') < keyP b (xp, xp')) with _ | _
        · have DH : Hid (IsHeap (keyP b) lk) := up_end hU.out (.inr (fun u v hu hv => by
            rw [PJ.out, HXP.out] at hu
            rw [HX.out] at hv
            injection hu with hu
            injection hv with hv
            rw [← hu, ← hv]
            simp at hr
            exact hr))
          have HRd := Lib.hid hr
          clear hr
          have DN := Lib.hid done
          clear done
          go_wp2_with fail
          refine wp_region_later (by kernel_rfl) (by kernel_rfl) ?_
          repeat (go_big_quiet_step ((exact calls_later (goFirst HRd.out FX.out FP.out _ (TL.out _)))))
          refine wpQuiet_nil ?_
          rintro w8 ⟨t, rfl⟩
          have hb8 := Lib.hid t.below
          generalize t.w = w8 at hb8 ⊢
          clear q0 q1 q2 q3 q4 q5 TL t
          go_wp2_with fail
          refine bodyPost_ret (results_none rfl _ _ _) rfl ?_
          exact ⟨⟨_, rfl⟩, DN.out w8 hb8.out DH.out⟩
        · clear done
          have HRd := Lib.hid hr
          have LT : Hid (keyP b (xi, xi') < keyP b (xp, xp')) := by simp at hr; exact hr
          clear hr
          go_wp2_with fail
          refine wp_region_later (by kernel_rfl) (by kernel_rfl) ?_
          repeat (go_big_quiet_step ((exact calls_later (goFirst HRd.out FX.out FP.out _ (TL.out _)))))
          refine wpQuiet_nil ?_
          rintro w8 ⟨t, rfl⟩
          have hb8 := Lib.hid t.below
          generalize t.w = w8 at hb8 ⊢
          clear q0 q1 q2 q3 q4 q5 TL t
          have Hq : Hid (HP tb w8 hb (.slice (some ⟨gg, 0, none⟩) (N + 1) cap) lk) := hH.out.step (Step.of hb8.out (fun _ => False)) (fun _ h => h.elim)
          have Sq : Hid (Step (InH hb (.slice (some ⟨gg, 0, none⟩) (N + 1) cap)) W1 w8) := hS.out.trans (Step.of hb8.out _)
          obtain ⟨e0, e1, g0, g1⟩ := pair_at Hq.out hlen.out HX.out
          obtain ⟨e2, e3, g2, g3⟩ := pair_at Hq.out hlen.out HXP.out
          have c1 := Hq.out.blk.cell 1
          dsimp only at e0 e1 e2 e3
          have SW : Hid (HP tb ((((w8.setCell ⟨gg, (j + 1) * 2, none⟩ (.int .i64 xp)).setCell ⟨gg, (j + 1) * 2 + 1, none⟩ (.int .i64 xp')).setCell ⟨gg, p * 2, none⟩ (.int .i64 xi)).setCell ⟨gg, p * 2 + 1, none⟩ (.int .i64 xi')).drew hb (.slice (some ⟨gg, 0, none⟩) (N + 1) cap) (swap lk (j + 1) p) ∧ Step (InH hb (.slice (some ⟨gg, 0, none⟩) (N + 1) cap)) w8 ((((w8.setCell ⟨gg, (j + 1) * 2, none⟩ (.int .i64 xp)).setCell ⟨gg, (j + 1) * 2 + 1, none⟩ (.int .i64 xp')).setCell ⟨gg, p * 2, none⟩ (.int .i64 xi)).setCell ⟨gg, p * 2 + 1, none⟩ (.int .i64 xi')).drew) := by
            obtain ⟨h1, h2⟩ := pair_swap Hq.out hlen.out HX.out HXP.out
            exact ⟨h1.drewN 1, h2.drewN 1⟩
          have US : Hid (UpAt (keyP b) (swap lk (j + 1) p) p) := by
            have := up_step hU.out (by omega) HX.out (by rw [PJ.out]; exact HXP.out) LT.out
            rw [PJ.out] at this
            exact this
          have PS : Hid ((swap lk (j + 1) p).Perm ((x1, x2) :: l)) := (perm_swap HX.out HXP.out).trans hP.out
          have LS : Hid ((swap lk (j + 1) p).length = N + 1) := (swap_len _ _ _).trans hlen.out
          go_wp2_with fail
          go_region
          go_wp2_with fail
          go_roundw
          case rel => exact ⟨p, swap lk (j + 1) p, by omega, rfl, LS.out, SW.out.1, US.out, PS.out, Sq.out.trans SW.out.2⟩
          case measure => simp [intOf]; omega
end Go.Proofs.Ytgaonfeljijebaa
