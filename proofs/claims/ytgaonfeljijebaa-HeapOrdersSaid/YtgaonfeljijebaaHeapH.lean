/-
  heap: Pop at ints. Conditions: the heap's struct and row in memory.
-/
import Derived.Test.YtgaonfeljijebaaHeapG
namespace Go.Proofs.Ytgaonfeljijebaa
open Go.ChangeShapes Go.WideShapes Go.ChangeAt Go.RowKit Go.Shelf
set_option linter.unusedVariables false

theorem heap_shrink {f hb n g c : Nat} {l : List Int} {w : World} (h : HI f w hb (.slice (some ⟨g, 0, none⟩) (n + 1) c) l) (hN : l.length = n + 1) :
    HI f (w.setCell ⟨hb, 1, none⟩ (.slice (some ⟨g, 0, none⟩) n c)) hb (.slice (some ⟨g, 0, none⟩) n c) (l.take n) ∧ Step (InH hb (.slice (some ⟨g, 0, none⟩) n c)) w (w.setCell ⟨hb, 1, none⟩ (.slice (some ⟨g, 0, none⟩) n c)) := by
  have hr := h.row
  rw [hN] at hr
  have hg := (hr.lt g rfl).1
  refine ⟨⟨h.blk.put 1 _, ?_⟩, (Step.refl _ w).set (p := ⟨hb, 1, none⟩) (.inl rfl) _⟩
  have h1 := own_less hr (m := n) (by omega) (by omega)
  rw [cellsH_take (enc := one) (F := 1) (fun _ => rfl) l n (by omega)] at h1
  have hl : (l.take n).length = n := by rw [List.length_take]; omega
  rw [hl]
  exact own_step h1 ((Step.refl (fun k => k = hb) w).set (p := ⟨hb, 1, none⟩) rfl _) (fun k hk e => by have := (h1.lt k hk).1; omega)
theorem set_take {l : List Int} {n : Nat} : (l.take n).length ≤ n := by rw [List.length_take]; omega
/-- A heap from which what comes first was taken. -/
def Gave (f : Nat) (w : World) (hb : Nat) (v : Value) (l0 : List Int) (x : Int) (w' : World) : Prop :=
  ∃ v' l', HI f w' hb v' l' ∧ IsHeap id l' ∧ l0.Perm (x :: l') ∧ Step (InH hb v) w w' ∧ Grew w v v'
theorem goPop_none {f hb : Nat} {v : Value} {w : World} (h : HI f w hb v []) : Calls Try.prog 31 #[.pointer (some ⟨hb, 0, none⟩)] w fun e w' => e = .returned (.tuple #[.int .i64 0, .bool false]) ∧ w = w' := by
  have HH := Lib.hid h
  clear h
  go_enter Try.func31, Try.ntmps31
  go_wp2_with fail
  refine (goTop_none HH.out).mono ?_
  rintro e w' ⟨rfl, rfl⟩
  go_wp2_with fail
  go_ret2
  exact ⟨rfl, rfl⟩
set_option maxRecDepth 100000 in
set_option maxHeartbeats 16000000 in
theorem goPop {f hb : Nat} {v : Value} {l : List Int} {x : Int} {w : World} (hf : Rising f) (h : HI f w hb v l) (hh : IsHeap id l) (hl : l.length ≤ 1000) (hx : l[0]? = some x) :
    Calls Try.prog 31 #[.pointer (some ⟨hb, 0, none⟩)] w fun e w' => e = .returned (.tuple #[.int .i64 x, .bool true]) ∧ Gave f w hb v l x w' := by
  have h0 := (List.getElem?_eq_some_iff.1 hx).1
  obtain ⟨g, c, rfl⟩ := own_form h.row h0
  obtain ⟨n, hn⟩ : ∃ n, l.length = n + 1 := ⟨l.length - 1, by omega⟩
  have HN := Lib.hid hn
  have HX := Lib.hid hx
  have HH : Hid (HI f w hb (.slice (some ⟨g, 0, none⟩) (n + 1) c) l) := by rw [hn] at h; exact h
  have CP : Hid (n + 1 ≤ c ∧ c ≤ maxLen ∧ hb + 1 ≤ g ∧ g < w.heap.size) := by have h1 := HH.out.row; rw [hn] at h1; exact own_cap h1
  have cp := CP.out
  unfold maxLen at cp
  obtain ⟨cp1, cp2, cp3, cp4⟩ := cp
  obtain ⟨y, hy⟩ : ∃ y, l[n]? = some y := ⟨_, List.getElem?_eq_getElem (by omega)⟩
  have HY := Lib.hid hy
  obtain ⟨PS1, PS2⟩ := pop_start hh hx hy hn
  have HD := Lib.hid PS1
  have HPm := Lib.hid PS2
  have HF := Lib.hid hf
  have hen := hf.1
  obtain ⟨e0, e1⟩ := heap_at HH.out hn hx
  obtain ⟨e2, e3⟩ := heap_at HH.out hn hy
  have c1 := HH.out.blk.cell 1
  have f1 := HH.out.blk.free 1
  have hbl := HH.out.blk.lt
  have n6 : n ≤ 999 := by omega
  rw [hn]
  clear hn hx hy PS1 PS2 hf h hh h0 hl
  go_enter Try.func31, Try.ntmps31
  go_wp2_with fail
  refine (goTop_some HH.out HX.out).mono ?_
  rintro e w' ⟨rfl, rfl⟩
  have hgb : ¬ g = hb := by omega
  have hgb' : ¬ hb = g := by omega
  go_wp2_with fail
  go_region
  obtain ⟨wa, hwa⟩ : ∃ wa, (w.setCell ⟨g, 0, none⟩ (.int .i64 y)).drew = wa := ⟨_, rfl⟩
  have HA : Hid (HI f wa hb (.slice (some ⟨g, 0, none⟩) (n + 1) c) (l.set 0 y) ∧ Step (InH hb (.slice (some ⟨g, 0, none⟩) (n + 1) c)) w wa) := by
    show _ ∧ _
    rw [← hwa]
    obtain ⟨h1, h2⟩ := heap_set (i := 0) (x := y) HH.out HN.out
    exact ⟨h1.drewN 1, h2.drewN 1⟩
  rw [hwa]
  clear hwa e0 e1 e2 e3 c1 f1
  have c1 := HA.out.1.blk.cell 1
  have f1 := HA.out.1.blk.free 1
  have n1 : (n : Int) ≤ c := by omega
  go_wp2_with fail
  obtain ⟨W1, hW1⟩ : ∃ W1, wa.setCell ⟨hb, 1, none⟩ (.slice (some ⟨g, 0, none⟩) n c) = W1 := ⟨_, rfl⟩
  have H1 : Hid (HI f W1 hb (.slice (some ⟨g, 0, none⟩) n c) ((l.set 0 y).take n) ∧ Step (InH hb (.slice (some ⟨g, 0, none⟩) n c)) wa W1) := by
    show _ ∧ _
    rw [← hW1]
    exact heap_shrink HA.out.1 (by rw [List.length_set]; exact HN.out)
  rw [hW1]
  clear hW1 c1 f1
  have S1 : Hid (Step (InH hb (.slice (some ⟨g, 0, none⟩) (n + 1) c)) w W1) := HA.out.2.trans H1.out.2
  have GG : Hid (Grew w (.slice (some ⟨g, 0, none⟩) (n + 1) c) (.slice (some ⟨g, 0, none⟩) n c)) := .inl rfl
  go_loopw [7] (fun v7 wr => ∃ (i : Nat) (lk : List Int), (i < n ∨ i = 0) ∧ v7 = .int .i64 i ∧ Hid (lk.length = n) ∧ Hid (HI f wr hb (.slice (some ⟨g, 0, none⟩) n c) lk) ∧ Hid (DownAt id lk i) ∧ Hid (l.Perm (x :: lk)) ∧ Hid (Step (InH hb (.slice (some ⟨g, 0, none⟩) n c)) W1 wr)) (fun v7 _ => n - (intOf v7).toNat)
  case atStart =>
    refine ⟨0, (l.set 0 y).take n, .inr rfl, rfl, ?_, H1.out.1, HD.out, HPm.out, Step.refl _ _⟩
    show _ = _
    rw [List.length_take, List.length_set, HN.out]
    omega
  case round =>
    obtain ⟨i, lk, hi0, rfl, hlen, hH, hU, hP, hS⟩ := hrel
    have hlb := hH.out.blk.lt
    have done : IsHeap id lk → Hid (∀ m, Gave f w hb (.slice (some ⟨g, 0, none⟩) (n + 1) c) l x (wr.drewN m)) := fun hh m => ⟨_, lk, hH.out.drewN m, hh, hP.out, (S1.out.after GG.out hS.out).drewN m, GG.out⟩
    by_cases hn : 2 * i + 1 < n
    · have hin : i < n := by omega
      obtain ⟨xi, hxi⟩ : ∃ y, lk[i]? = some y := ⟨_, List.getElem?_eq_getElem (by have := hlen.out; omega)⟩
      obtain ⟨y1, hy1⟩ : ∃ y, lk[2 * i + 1]? = some y := ⟨_, List.getElem?_eq_getElem (by have := hlen.out; omega)⟩
      have HXI := Lib.hid hxi
      have HY1 := Lib.hid hy1
      obtain ⟨e0, e1⟩ := heap_at hH.out hlen.out hxi
      obtain ⟨e2, e3⟩ := heap_at hH.out hlen.out hy1
      have c0 := hH.out.blk.cell 0
      have c1 := hH.out.blk.cell 1
      obtain ⟨a, ha⟩ : ∃ a, 2 * i + 1 = a := ⟨_, rfl⟩
      have hac : 2 * (i : Int) + 1 = (a : Int) := by omega
      rw [ha] at HY1 e2 e3
      have AE := Lib.hid ha
      have an : a < n := by omega
      have ai : i < a := by omega
      have a1 : (a : Int) < n := by omega
      have a0 : (0 : Int) ≤ a := by omega
      have i0 : (0 : Int) ≤ i := by omega
      have i1 : (i : Int) < n := by omega
      clear hxi hy1 ha hn hi0
      by_cases hb2 : a + 1 < n
      · obtain ⟨y2, hy2⟩ : ∃ y, lk[a + 1]? = some y := ⟨_, List.getElem?_eq_getElem (by have := hlen.out; omega)⟩
        have HY2 := Lib.hid hy2
        obtain ⟨e4, e5⟩ := heap_at hH.out hlen.out hy2
        have b1 : (a : Int) + 1 < n := by omega
        have b0 : (0 : Int) ≤ (a : Int) + 1 := by omega
        clear hy2
        rcases hr : decide (y2 < y1) with _ | _
        · have HR := Lib.hid hr
          have LE : Hid (y1 ≤ y2) := by simp at hr; exact hr
          clear hr
          have LEAST : Hid (∀ z c, (c = 2 * i + 1 ∨ c = 2 * i + 2) → lk[c]? = some z → id y1 ≤ id z) := fun z c hc hz => by
            rcases hc with rfl | rfl
            · rw [AE.out, HY1.out] at hz; injection hz with hz; rw [hz]; exact Int.le_refl _
            · rw [show 2 * i + 2 = a + 1 by have := AE.out; omega, HY2.out] at hz; injection hz with hz; rw [← hz]; exact LE.out
          rcases hq : decide (y1 < xi) with _ | _
          · have HQ := Lib.hid hq
            have D := done (down_end hU.out (fun u v hu hv => by
              rw [HXI.out] at hu
              injection hu with hu
              have h1 := LEAST.out v _ (.inl rfl) hv
              simp only [id] at h1 ⊢
              simp at hq
              omega) (fun u v hu hv => by
              rw [HXI.out] at hu
              injection hu with hu
              have h1 := LEAST.out v _ (.inr rfl) hv
              simp only [id] at h1 ⊢
              simp at hq
              omega))
            clear done hq
            go_wp2_with fail
            go_quiet ((exact quiet_same (HF.out.is HR.out _)))
            go_wp2_with fail
            obtain ⟨wp, hwp⟩ : ∃ wp, wr.drewN nq = wp := ⟨_, rfl⟩
            have Hp : Hid (HI f wp hb (.slice (some ⟨g, 0, none⟩) n c) lk) := by show HI _ _ _ _ _; rw [← hwp]; exact hH.out.drewN _
            have Sp : Hid (Step (InH hb (.slice (some ⟨g, 0, none⟩) n c)) W1 wp) := by show Step _ _ _; rw [← hwp]; exact hS.out.drewN _
            have HWP := Lib.hid hwp
            rw [hwp]
            clear hwp e0 e1 e2 e3 e4 e5 c0 c1
            obtain ⟨e0, e1⟩ := heap_at Hp.out hlen.out HXI.out
            obtain ⟨e2, e3⟩ := heap_at Hp.out hlen.out HY1.out
            have c0 := Hp.out.blk.cell 0
            have c1 := Hp.out.blk.cell 1
            go_quiet ((exact quiet_same (HF.out.is HQ.out _)))
            go_wp2_with fail
            go_ret2
            exact ⟨rfl, by rw [← HWP.out, World.drewN_drewN]; exact D.out _⟩
          · clear done
            have HQ := Lib.hid hq
            have LT : Hid (id y1 < id xi) := by simp at hq; exact hq
            clear hq
            have DS : Hid (DownAt id (swap lk i (a)) (a)) := down_step hU.out (by have := AE.out; omega) HXI.out HY1.out LT.out LEAST.out
            have PS : Hid (l.Perm (x :: swap lk i (a))) := hP.out.trans ((perm_swap HXI.out HY1.out).symm.cons x)
            have LS : Hid ((swap lk i (a)).length = n) := (swap_len _ _ _).trans hlen.out
            go_wp2_with fail
            go_quiet ((exact quiet_same (HF.out.is HR.out _)))
            go_wp2_with fail
            obtain ⟨wp, hwp⟩ : ∃ wp, wr.drewN nq = wp := ⟨_, rfl⟩
            have Hp : Hid (HI f wp hb (.slice (some ⟨g, 0, none⟩) n c) lk) := by show HI _ _ _ _ _; rw [← hwp]; exact hH.out.drewN _
            have Sp : Hid (Step (InH hb (.slice (some ⟨g, 0, none⟩) n c)) W1 wp) := by show Step _ _ _; rw [← hwp]; exact hS.out.drewN _
            have HWP := Lib.hid hwp
            rw [hwp]
            clear hwp e0 e1 e2 e3 e4 e5 c0 c1
            obtain ⟨e0, e1⟩ := heap_at Hp.out hlen.out HXI.out
            obtain ⟨e2, e3⟩ := heap_at Hp.out hlen.out HY1.out
            have c0 := Hp.out.blk.cell 0
            have c1 := Hp.out.blk.cell 1
            go_quiet ((exact quiet_same (HF.out.is HQ.out _)))
            go_wp2_with fail
            obtain ⟨wq, hwq⟩ : ∃ wq, wp.drewN nq = wq := ⟨_, rfl⟩
            have Hq : Hid (HI f wq hb (.slice (some ⟨g, 0, none⟩) n c) lk) := by show HI _ _ _ _ _; rw [← hwq]; exact Hp.out.drewN _
            have Sq : Hid (Step (InH hb (.slice (some ⟨g, 0, none⟩) n c)) W1 wq) := by show Step _ _ _; rw [← hwq]; exact Sp.out.drewN _
            rw [hwq]
            clear hwq e0 e1 e2 e3 c0 c1
            obtain ⟨e0, e1⟩ := heap_at Hq.out hlen.out HXI.out
            obtain ⟨e2, e3⟩ := heap_at Hq.out hlen.out HY1.out
            have c1 := Hq.out.blk.cell 1
            have SW : Hid (HI f ((wq.setCell ⟨g, i, none⟩ (.int .i64 y1)).setCell ⟨g, a, none⟩ (.int .i64 xi)).drew hb (.slice (some ⟨g, 0, none⟩) n c) (swap lk i (a)) ∧ Step (InH hb (.slice (some ⟨g, 0, none⟩) n c)) wq ((wq.setCell ⟨g, i, none⟩ (.int .i64 y1)).setCell ⟨g, a, none⟩ (.int .i64 xi)).drew) := by
              obtain ⟨h1, h2⟩ := heap_swap Hq.out hlen.out HXI.out HY1.out
              exact ⟨h1.drewN 1, h2.drewN 1⟩
            go_region
            go_wp2_with fail
            go_roundw
            case rel => exact ⟨a, swap lk i (a), .inl (by omega), by go_num, LS.out, SW.out.1, DS.out, PS.out, Sq.out.trans SW.out.2⟩
            case measure => simp [intOf]; omega
        · have HR := Lib.hid hr
          have LE : Hid (y2 ≤ y1) := by simp at hr; show _ ≤ _; omega
          clear hr
          have LEAST : Hid (∀ z c, (c = 2 * i + 1 ∨ c = 2 * i + 2) → lk[c]? = some z → id y2 ≤ id z) := fun z c hc hz => by
            rcases hc with rfl | rfl
            · rw [AE.out, HY1.out] at hz; injection hz with hz; rw [← hz]; exact LE.out
            · rw [show 2 * i + 2 = a + 1 by have := AE.out; omega, HY2.out] at hz; injection hz with hz; rw [hz]; exact Int.le_refl _
          rcases hq : decide (y2 < xi) with _ | _
          · have HQ := Lib.hid hq
            have D := done (down_end hU.out (fun u v hu hv => by
              rw [HXI.out] at hu
              injection hu with hu
              have h1 := LEAST.out v _ (.inl rfl) hv
              simp only [id] at h1 ⊢
              simp at hq
              omega) (fun u v hu hv => by
              rw [HXI.out] at hu
              injection hu with hu
              have h1 := LEAST.out v _ (.inr rfl) hv
              simp only [id] at h1 ⊢
              simp at hq
              omega))
            clear done hq
            go_wp2_with fail
            go_quiet ((exact quiet_same (HF.out.is HR.out _)))
            go_wp2_with fail
            obtain ⟨wp, hwp⟩ : ∃ wp, wr.drewN nq = wp := ⟨_, rfl⟩
            have Hp : Hid (HI f wp hb (.slice (some ⟨g, 0, none⟩) n c) lk) := by show HI _ _ _ _ _; rw [← hwp]; exact hH.out.drewN _
            have Sp : Hid (Step (InH hb (.slice (some ⟨g, 0, none⟩) n c)) W1 wp) := by show Step _ _ _; rw [← hwp]; exact hS.out.drewN _
            have HWP := Lib.hid hwp
            rw [hwp]
            clear hwp e0 e1 e2 e3 e4 e5 c0 c1
            obtain ⟨e0, e1⟩ := heap_at Hp.out hlen.out HXI.out
            obtain ⟨e2, e3⟩ := heap_at Hp.out hlen.out HY2.out
            have c0 := Hp.out.blk.cell 0
            have c1 := Hp.out.blk.cell 1
            go_quiet ((exact quiet_same (HF.out.is HQ.out _)))
            go_wp2_with fail
            go_ret2
            exact ⟨rfl, by rw [← HWP.out, World.drewN_drewN]; exact D.out _⟩
          · clear done
            have HQ := Lib.hid hq
            have LT : Hid (id y2 < id xi) := by simp at hq; exact hq
            clear hq
            have DS : Hid (DownAt id (swap lk i (a + 1)) (a + 1)) := down_step hU.out (by have := AE.out; omega) HXI.out HY2.out LT.out LEAST.out
            have PS : Hid (l.Perm (x :: swap lk i (a + 1))) := hP.out.trans ((perm_swap HXI.out HY2.out).symm.cons x)
            have LS : Hid ((swap lk i (a + 1)).length = n) := (swap_len _ _ _).trans hlen.out
            go_wp2_with fail
            go_quiet ((exact quiet_same (HF.out.is HR.out _)))
            go_wp2_with fail
            obtain ⟨wp, hwp⟩ : ∃ wp, wr.drewN nq = wp := ⟨_, rfl⟩
            have Hp : Hid (HI f wp hb (.slice (some ⟨g, 0, none⟩) n c) lk) := by show HI _ _ _ _ _; rw [← hwp]; exact hH.out.drewN _
            have Sp : Hid (Step (InH hb (.slice (some ⟨g, 0, none⟩) n c)) W1 wp) := by show Step _ _ _; rw [← hwp]; exact hS.out.drewN _
            have HWP := Lib.hid hwp
            rw [hwp]
            clear hwp e0 e1 e2 e3 e4 e5 c0 c1
            obtain ⟨e0, e1⟩ := heap_at Hp.out hlen.out HXI.out
            obtain ⟨e2, e3⟩ := heap_at Hp.out hlen.out HY2.out
            have c0 := Hp.out.blk.cell 0
            have c1 := Hp.out.blk.cell 1
            go_quiet ((exact quiet_same (HF.out.is HQ.out _)))
            go_wp2_with fail
            obtain ⟨wq, hwq⟩ : ∃ wq, wp.drewN nq = wq := ⟨_, rfl⟩
            have Hq : Hid (HI f wq hb (.slice (some ⟨g, 0, none⟩) n c) lk) := by show HI _ _ _ _ _; rw [← hwq]; exact Hp.out.drewN _
            have Sq : Hid (Step (InH hb (.slice (some ⟨g, 0, none⟩) n c)) W1 wq) := by show Step _ _ _; rw [← hwq]; exact Sp.out.drewN _
            rw [hwq]
            clear hwq e0 e1 e2 e3 c0 c1
            obtain ⟨e0, e1⟩ := heap_at Hq.out hlen.out HXI.out
            obtain ⟨e2, e3⟩ := heap_at Hq.out hlen.out HY2.out
            have c1 := Hq.out.blk.cell 1
            have SW : Hid (HI f ((wq.setCell ⟨g, i, none⟩ (.int .i64 y2)).setCell ⟨g, a + 1, none⟩ (.int .i64 xi)).drew hb (.slice (some ⟨g, 0, none⟩) n c) (swap lk i (a + 1)) ∧ Step (InH hb (.slice (some ⟨g, 0, none⟩) n c)) wq ((wq.setCell ⟨g, i, none⟩ (.int .i64 y2)).setCell ⟨g, a + 1, none⟩ (.int .i64 xi)).drew) := by
              obtain ⟨h1, h2⟩ := heap_swap Hq.out hlen.out HXI.out HY2.out
              exact ⟨h1.drewN 1, h2.drewN 1⟩
            go_region
            go_wp2_with fail
            go_roundw
            case rel => exact ⟨a + 1, swap lk i (a + 1), .inl (by omega), by go_num, LS.out, SW.out.1, DS.out, PS.out, Sq.out.trans SW.out.2⟩
            case measure => simp [intOf]; omega
      · have bf : decide ((a : Int) + 1 < (n : Int)) = false := decide_eq_false (by omega)
        have an2 : Hid (a + 1 = n) := by show _ = _; omega
        have LEAST : Hid (∀ z c, (c = 2 * i + 1 ∨ c = 2 * i + 2) → lk[c]? = some z → id y1 ≤ id z) := fun z c hc hz => by
          rcases hc with rfl | rfl
          · rw [AE.out, HY1.out] at hz; injection hz with hz; rw [hz]; exact Int.le_refl _
          · have := (List.getElem?_eq_some_iff.1 hz).1
            have := hlen.out
            have := AE.out
            omega
        clear hb2
        rcases hq : decide (y1 < xi) with _ | _
        · have HQ := Lib.hid hq
          have D := done (down_end hU.out (fun u v hu hv => by
            rw [HXI.out] at hu
            injection hu with hu
            have h1 := LEAST.out v _ (.inl rfl) hv
            simp only [id] at h1 ⊢
            simp at hq
            omega) (fun u v hu hv => by
            rw [HXI.out] at hu
            injection hu with hu
            have h1 := LEAST.out v _ (.inr rfl) hv
            simp only [id] at h1 ⊢
            simp at hq
            omega))
          clear done hq
          go_wp2_with fail
          go_quiet (fail)
          go_wp2_with fail
          obtain ⟨wp, hwp⟩ : ∃ wp, wr.drewN nq = wp := ⟨_, rfl⟩
          have Hp : Hid (HI f wp hb (.slice (some ⟨g, 0, none⟩) n c) lk) := by show HI _ _ _ _ _; rw [← hwp]; exact hH.out.drewN _
          have Sp : Hid (Step (InH hb (.slice (some ⟨g, 0, none⟩) n c)) W1 wp) := by show Step _ _ _; rw [← hwp]; exact hS.out.drewN _
          have HWP := Lib.hid hwp
          rw [hwp]
          clear hwp e0 e1 e2 e3  c0 c1
          obtain ⟨e0, e1⟩ := heap_at Hp.out hlen.out HXI.out
          obtain ⟨e2, e3⟩ := heap_at Hp.out hlen.out HY1.out
          have c0 := Hp.out.blk.cell 0
          have c1 := Hp.out.blk.cell 1
          go_quiet ((exact quiet_same (HF.out.is HQ.out _)))
          go_wp2_with fail
          go_ret2
          exact ⟨rfl, by rw [← HWP.out, World.drewN_drewN]; exact D.out _⟩
        · clear done
          have HQ := Lib.hid hq
          have LT : Hid (id y1 < id xi) := by simp at hq; exact hq
          clear hq
          have DS : Hid (DownAt id (swap lk i (a)) (a)) := down_step hU.out (by have := AE.out; omega) HXI.out HY1.out LT.out LEAST.out
          have PS : Hid (l.Perm (x :: swap lk i (a))) := hP.out.trans ((perm_swap HXI.out HY1.out).symm.cons x)
          have LS : Hid ((swap lk i (a)).length = n) := (swap_len _ _ _).trans hlen.out
          go_wp2_with fail
          go_quiet (fail)
          go_wp2_with fail
          obtain ⟨wp, hwp⟩ : ∃ wp, wr.drewN nq = wp := ⟨_, rfl⟩
          have Hp : Hid (HI f wp hb (.slice (some ⟨g, 0, none⟩) n c) lk) := by show HI _ _ _ _ _; rw [← hwp]; exact hH.out.drewN _
          have Sp : Hid (Step (InH hb (.slice (some ⟨g, 0, none⟩) n c)) W1 wp) := by show Step _ _ _; rw [← hwp]; exact hS.out.drewN _
          have HWP := Lib.hid hwp
          rw [hwp]
          clear hwp e0 e1 e2 e3  c0 c1
          obtain ⟨e0, e1⟩ := heap_at Hp.out hlen.out HXI.out
          obtain ⟨e2, e3⟩ := heap_at Hp.out hlen.out HY1.out
          have c0 := Hp.out.blk.cell 0
          have c1 := Hp.out.blk.cell 1
          go_quiet ((exact quiet_same (HF.out.is HQ.out _)))
          go_wp2_with fail
          obtain ⟨wq, hwq⟩ : ∃ wq, wp.drewN nq = wq := ⟨_, rfl⟩
          have Hq : Hid (HI f wq hb (.slice (some ⟨g, 0, none⟩) n c) lk) := by show HI _ _ _ _ _; rw [← hwq]; exact Hp.out.drewN _
          have Sq : Hid (Step (InH hb (.slice (some ⟨g, 0, none⟩) n c)) W1 wq) := by show Step _ _ _; rw [← hwq]; exact Sp.out.drewN _
          rw [hwq]
          clear hwq e0 e1 e2 e3 c0 c1
          obtain ⟨e0, e1⟩ := heap_at Hq.out hlen.out HXI.out
          obtain ⟨e2, e3⟩ := heap_at Hq.out hlen.out HY1.out
          have c1 := Hq.out.blk.cell 1
          have SW : Hid (HI f ((wq.setCell ⟨g, i, none⟩ (.int .i64 y1)).setCell ⟨g, a, none⟩ (.int .i64 xi)).drew hb (.slice (some ⟨g, 0, none⟩) n c) (swap lk i (a)) ∧ Step (InH hb (.slice (some ⟨g, 0, none⟩) n c)) wq ((wq.setCell ⟨g, i, none⟩ (.int .i64 y1)).setCell ⟨g, a, none⟩ (.int .i64 xi)).drew) := by
            obtain ⟨h1, h2⟩ := heap_swap Hq.out hlen.out HXI.out HY1.out
            exact ⟨h1.drewN 1, h2.drewN 1⟩
          go_region
          go_wp2_with fail
          go_roundw
          case rel => exact ⟨a, swap lk i (a), .inl (by omega), by go_num, LS.out, SW.out.1, DS.out, PS.out, Sq.out.trans SW.out.2⟩
          case measure => simp [intOf]; omega
    · have D := done (down_end hU.out (fun u v hu hv => by have := (List.getElem?_eq_some_iff.1 hv).1; have := hlen.out; omega) (fun u v hu hv => by have := (List.getElem?_eq_some_iff.1 hv).1; have := hlen.out; omega))
      have hn' : (n : Int) ≤ 2 * (i : Int) + 1 := by omega
      clear done hn
      go_wp2_with fail
      go_ret2
      exact ⟨rfl, D.out 0⟩
end Go.Proofs.Ytgaonfeljijebaa
