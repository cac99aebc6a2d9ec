/-
  heap: New, Len, Top, Push at ints. Conditions: the heap's struct and row in memory.
-/
import Derived.Test.YtgaonfeljijebaaRows
import Derived.Test.YtgaonfeljijebaaHeapA
import Derived.BigRegion
import Derived.Maps.AppendAt
namespace Go.Proofs.Ytgaonfeljijebaa
open Go.ChangeShapes Go.WideShapes Go.ChangeAt Go.RowKit Go.Shelf
set_option linter.unusedVariables false

/-- An order of ints: rising. -/
def Rising (f : Nat) : Prop := (∀ args w, (callFunc f args).run Try.prog w = .ok (.enter f args) w) ∧ ∀ (a b : Int) (w : World), Calls Try.prog f #[.int .i64 a, .int .i64 b] w fun e w' => e = .returned (.bool (decide (a < b))) ∧ w = w'
theorem rising28 : Rising 28 := by
  refine ⟨enters_of Try.func28 (by kernel_rfl) rfl, fun a b w => ?_⟩
  go_enter Try.func28, Try.ntmps28
  go_wp2
  go_ret
  exact ⟨rfl, rfl⟩
theorem rising53 : Rising 53 := by
  refine ⟨enters_of Try.func53 (by kernel_rfl) rfl, fun a b w => ?_⟩
  go_enter Try.func53, Try.ntmps53
  go_wp2
  go_ret
  exact ⟨rfl, rfl⟩
abbrev HI (f : Nat) (w : World) (hb : Nat) (v : Value) (l : List Int) : Prop := HeapAt one 1 3 85 (.func (.func f) #[] #[]) w hb v l
theorem goNew (f : Nat) (w : World) : Calls Try.prog 27 #[.func (.func f) #[] #[]] w fun e w' => e = .returned (.pointer (some ⟨w.heap.size, 0, none⟩)) ∧ w' = w.alloc (.cells #[.func (.func f) #[] #[], .slice none 0 0] 85) := by
  go_enter Try.func27, Try.ntmps27
  go_wp2
  go_ret
  exact ⟨rfl, rfl⟩
theorem heap_new (f : Nat) (w : World) : HI f (w.alloc (.cells #[.func (.func f) #[] #[], .slice none 0 0] 85)) w.heap.size (.slice none 0 0) [] := ⟨Bk.new _ _ _, World.ownsRow_nil _ _ _ _⟩
theorem goIs {f hb : Nat} {v : Value} {l : List Int} {w : World} (h : HI f w hb v l) : Calls Try.prog 54 #[.pointer (some ⟨hb, 0, none⟩)] w fun e w' => e = .returned (.bool true) ∧ w = w' := by
  have c0 := h.blk.cell 0
  have HH := Lib.hid h
  clear h
  have hrun : Sem.run Try.prog (binOp BinOp.neq 52 (Value.func (.func f) #[] #[]) Value.nilFunc) w = .ok (.bool true) w := by kernel_rfl
  go_enter Try.func54, Try.ntmps54
  go_wp2
  go_ret
  exact ⟨rfl, rfl⟩
theorem goLen {f hb : Nat} {v : Value} {l : List Int} {w : World} (h : HI f w hb v l) : Calls Try.prog 33 #[.pointer (some ⟨hb, 0, none⟩)] w fun e w' => e = .returned (.int .i64 l.length) ∧ w = w' := by
  obtain ⟨A, c, rfl⟩ := own_any h.row
  have c1 := h.blk.cell 1
  have HH := Lib.hid h
  clear h
  go_enter Try.func33, Try.ntmps33
  go_wp2_with fail
  refine (goIs HH.out).mono ?_
  rintro e w' ⟨rfl, rfl⟩
  go_wp2_with fail
  go_ret
  exact ⟨rfl, rfl⟩
theorem goTop_none {f hb : Nat} {v : Value} {w : World} (h : HI f w hb v []) : Calls Try.prog 32 #[.pointer (some ⟨hb, 0, none⟩)] w fun e w' => e = .returned (.tuple #[.int .i64 0, .bool false]) ∧ w = w' := by
  have HH := Lib.hid h
  clear h
  go_enter Try.func32, Try.ntmps32
  go_wp2_with fail
  refine (goLen HH.out).mono ?_
  rintro e w' ⟨rfl, rfl⟩
  go_wp2_with fail
  go_ret2
  exact ⟨rfl, rfl⟩
theorem goTop_some {f hb : Nat} {v : Value} {l : List Int} {x : Int} {w : World} (h : HI f w hb v l) (hx : l[0]? = some x) : Calls Try.prog 32 #[.pointer (some ⟨hb, 0, none⟩)] w fun e w' => e = .returned (.tuple #[.int .i64 x, .bool true]) ∧ w = w' := by
  have hl := (List.getElem?_eq_some_iff.1 hx).1
  obtain ⟨g, c, rfl⟩ := own_form h.row hl
  have cx : w.cell? ⟨g, 0, none⟩ = some (.int .i64 x) := by
    rw [h.row.cellAt 0 (by omega), cellsH_one, List.getElem?_map, hx]; rfl
  have c1 := h.blk.cell 1
  obtain ⟨N, hN⟩ : ∃ N, l.length = N := ⟨_, rfl⟩
  have HN := Lib.hid hN
  have HH := Lib.hid h
  have b0 : ((N : Int) == 0) = false := by simp; omega
  rw [hN] at c1 hl HH
  have n0 : 0 < N := hl
  clear h hN
  go_enter Try.func32, Try.ntmps32
  go_wp2_with fail
  refine (goLen (v := .slice (some ⟨g, 0, none⟩) N c) (l := l) HH.out).mono ?_
  rintro e w' ⟨rfl, rfl⟩
  rw [HN.out]
  go_wp2_with fail
  go_ret2
  exact ⟨rfl, rfl⟩
/-- A call in a region that draws, which leaves the world. -/
theorem quiet_same {P : Program} {f : FuncId} {args : Array Value} {w : World} {n : Nat} {v : Value}
    (h : Calls P f args (w.drewN n) fun e w'' => e = .returned v ∧ w.drewN n = w'') : Calls P f args (w.drewN n) fun e w'' => e = .returned v ∧ ∃ m, w'' = w.drewN m :=
  h.mono fun _ _ ⟨he, hm⟩ => ⟨he, n, hm.symm⟩
theorem Rising.is {f : Nat} (h : Rising f) {a b : Int} {r : Bool} (hr : decide (a < b) = r) (w : World) : Calls Try.prog f #[.int .i64 a, .int .i64 b] w fun e w' => e = .returned (.bool r) ∧ w = w' := by rw [← hr]; exact h.2 a b w
theorem Try.info3 : (Try.prog.info? 3).map (fun i => (i.zero, i.size, i.bytes)) = some (some (.int .i64 0), 1, 8) := by kernel_rfl

theorem heap_app {f hb N : Nat} {A : Option Addr} {c : Nat} {v' : Value} {l : List Int} {x : Int} {w w1 : World} {o : Obj} (h : HI f w hb (.slice A N c) l) (hN : l.length = N)
    (hown : w1.ownsRow (hb + 1) 3 1 v' (N + 1) (cellsH one l ++ [.int .i64 x])) (hg : (w.alloc o).grownBy w1 (Value.slice A N c).ownBlock) (hat : v'.ownBlock = (Value.slice A N c).ownBlock ∨ v'.ownBlock = some (w.alloc o).heap.size) :
    HI f (w1.setCell ⟨hb, 1, none⟩ v') hb v' (l ++ [x]) ∧ Step (InH hb (.slice A N c)) w (w1.setCell ⟨hb, 1, none⟩ v') ∧ Grew w (.slice A N c) v' := by
  have hlt := h.blk.lt
  have hrow : ∀ g, (Value.slice A N c).ownBlock = some g → hb + 1 ≤ g := fun g hg => (h.row.lt g hg).1
  have d0 : Bk w1 hb 85 #[.func (.func f) #[] #[], .slice A N c] := (h.blk.alloc o).grown hg (fun e => by have := hrow _ e.symm; omega)
  refine ⟨⟨d0.put 1 v', ?_⟩, ?_, ?_⟩
  · rw [cellsH_one_snoc] at hown
    rw [List.length_append, hN]
    exact own_step hown ((Step.refl (fun k => k = hb) w1).set (p := ⟨hb, 1, none⟩) rfl v') (fun g hg' e => by have := (hown.lt g hg').1; omega)
  · exact ((((Step.refl (InH hb (.slice A N c)) w).alloc o).grown hg (fun r hr => .inl (.inr hr))).set (p := ⟨hb, 1, none⟩) (.inl rfl) v')
  · rcases hat with h1 | h1
    · exact .inl h1
    · exact .inr ⟨_, by rw [World.size_alloc]; omega, h1⟩
theorem heap_at {f hb N g c i : Nat} {l : List Int} {x : Int} {w : World} (h : HI f w hb (.slice (some ⟨g, 0, none⟩) N c) l) (hN : l.length = N) (hx : l[i]? = some x) : w.cell? ⟨g, i, none⟩ = some (.int .i64 x) ∧ w.frozen? ⟨g, i, none⟩ = false := by
  have hr := h.row
  rw [hN] at hr
  have hlt := (List.getElem?_eq_some_iff.1 hx).1
  refine ⟨?_, hr.frozenAt i⟩
  rw [hr.cellAt i (by omega), cellsH_one, List.getElem?_map, hx]; rfl
theorem heap_set {f hb N g c i : Nat} {l : List Int} {x : Int} {w : World} (h : HI f w hb (.slice (some ⟨g, 0, none⟩) N c) l) (hN : l.length = N) : HI f (w.setCell ⟨g, i, none⟩ (.int .i64 x)) hb (.slice (some ⟨g, 0, none⟩) N c) (l.set i x) ∧ Step (InH hb (.slice (some ⟨g, 0, none⟩) N c)) w (w.setCell ⟨g, i, none⟩ (.int .i64 x)) := by
  have hr := h.row
  rw [hN] at hr
  have hg := (hr.lt g rfl).1
  refine ⟨⟨h.blk.far (p := ⟨g, i, none⟩) (by show hb ≠ g; omega) _, ?_⟩, (Step.refl _ w).set (p := ⟨g, i, none⟩) (.inr rfl) _⟩
  rw [List.length_set, hN]
  have h1 := (hr.stored i (.int .i64 x)).1
  rw [cellsH_one_set] at h1
  exact h1
theorem heap_swap {f hb N g c i j : Nat} {l : List Int} {x y : Int} {w : World} (h : HI f w hb (.slice (some ⟨g, 0, none⟩) N c) l) (hN : l.length = N) (hx : l[i]? = some x) (hy : l[j]? = some y) :
    HI f ((w.setCell ⟨g, i, none⟩ (.int .i64 y)).setCell ⟨g, j, none⟩ (.int .i64 x)) hb (.slice (some ⟨g, 0, none⟩) N c) (swap l i j) ∧ Step (InH hb (.slice (some ⟨g, 0, none⟩) N c)) w ((w.setCell ⟨g, i, none⟩ (.int .i64 y)).setCell ⟨g, j, none⟩ (.int .i64 x)) := by
  obtain ⟨h1, s1⟩ := heap_set (i := i) (x := y) h hN
  obtain ⟨h2, s2⟩ := heap_set (i := j) (x := x) h1 (by rw [List.length_set]; exact hN)
  rw [swap_is hx hy]
  exact ⟨h2, s1.trans s2⟩
theorem HeapAt.drewN {α : Type} {enc : α → List Int} {F : Nat} {e th : TypeId} {fv v : Value} {w : World} {hb : Nat} {l : List α} (h : HeapAt enc F e th fv w hb v l) (m : Nat) : HeapAt enc F e th fv (w.drewN m) hb v l := ⟨h.blk, h.row⟩
/-- A heap that has taken an int in. -/
def Took (f : Nat) (w : World) (hb : Nat) (v : Value) (l0 : List Int) (w' : World) : Prop :=
  ∃ v' l', HI f w' hb v' l' ∧ IsHeap id l' ∧ l'.Perm l0 ∧ Step (InH hb v) w w' ∧ Grew w v v'
theorem inH_grew {w : World} {hb : Nat} {v v' : Value} (h : Grew w v v') : ∀ k, k < w.heap.size → InH hb v' k → InH hb v k := fun k hk hi => InH.old h hi hk
theorem Step.after {hb : Nat} {v v' : Value} {w W1 w' : World} (h : Step (InH hb v) w W1) (hg : Grew w v v') (h' : Step (InH hb v') W1 w') : Step (InH hb v) w w' :=
  ⟨h'.os.trans h.os, h'.tape.trans h.tape, h'.output.trans h.output, Nat.le_trans h.size h'.size, fun k hk hn => (h'.block k (Nat.lt_of_lt_of_le hk h.size) (fun hi => hn (InH.old hg hi hk))).trans (h.block k hk hn)⟩
set_option maxRecDepth 100000 in
set_option maxHeartbeats 4000000 in
theorem goPush {f hb : Nat} {v : Value} {l : List Int} {w : World} (hf : Rising f) (x : Int) (h : HI f w hb v l) (hh : IsHeap id l) (hl : l.length ≤ 1000) :
    Calls Try.prog 29 #[.pointer (some ⟨hb, 0, none⟩), .int .i64 x] w fun e w' => (∃ u, e = .returned u) ∧ Took f w hb v (x :: l) w' := by
  obtain ⟨i0, hi, hz0, hz1, hz2⟩ := info_parts Try.info3
  obtain ⟨A, c, rfl⟩ := own_any h.row
  have HH := Lib.hid h
  have HI' := Lib.hid hh
  have hbl := h.blk.lt
  have c1 := h.blk.cell 1
  have f1 := h.blk.free 1
  obtain ⟨N, hN⟩ : ∃ N, l.length = N := ⟨_, rfl⟩
  have HN := Lib.hid hN
  have OW : Hid (w.ownsRow (hb + 1) 3 1 (.slice A N c) N (cellsH one l)) := by have := h.row; rw [hN] at this; exact this
  have HHN : Hid (HI f w hb (.slice A N c) l) := by have := h; rw [hN] at this; exact this
  rw [hN] at c1 hl
  have HF := Lib.hid hf
  have hen := hf.1
  clear h hh hf
  rw [hN]
  clear hN
  go_enter Try.func29, Try.ntmps29
  go_wp2_with fail
  refine (goIs HH.out).mono ?_
  rintro e w' ⟨rfl, rfl⟩
  go_wp2_with (at_builtin; refine wpList_append_own_at _ rfl _ _ 36 rfl (hb + 1) 3 i0 (.int .i64 0) 1 8 Try.underlying36 hi hz0 hz1 hz2 rfl (by omega) _ _ _ rfl (OW.out.alloc _) ⟨w.heap.size, 0, none⟩ 1 1 [.int .i64 x] rfl rfl (World.news_of_block (cs := #[.int .i64 x]) (t := 3) (fr := (0, 0)) (heap_alloc_new w _)) (by simp [Value.oneCell']) (by unfold maxLen; omega) (by omega) (by simp; omega) ?_; intro v' w1 hown' hgrow _ hat; obtain ⟨g, cp, rfl⟩ := own_form hown' (by omega); have HA := Lib.hid (heap_app HHN.out HN.out hown' hgrow hat); have d0 := (HHN.out.blk.alloc (.cells #[.int .i64 x] 3)).grown hgrow (fun e => by have := (OW.out.lt _ e.symm).1; omega); have d1 := Bk.cell d0 1; have d2 := Bk.free d0 1; clear hown' hgrow d0 hat)
  obtain ⟨W1, hW1⟩ : ∃ W1, w1.setCell ⟨hb, 1, none⟩ (.slice (some ⟨g, 0, none⟩) (N + 1) cp) = W1 := ⟨_, rfl⟩
  have HA1 : Hid (HI f W1 hb (.slice (some ⟨g, 0, none⟩) (N + 1) cp) (l ++ [x]) ∧ Step (InH hb (.slice A N c)) w W1 ∧ Grew w (.slice A N c) (.slice (some ⟨g, 0, none⟩) (N + 1) cp)) := by rw [← hW1]; exact HA.out
  rw [hW1]
  clear hW1 HA d1 d2 c1 f1
  go_loopw [4] (fun v4 wr => ∃ (i : Nat) (lk : List Int), i ≤ N ∧ v4 = .int .i64 i ∧ Hid (lk.length = N + 1) ∧ Hid (HI f wr hb (.slice (some ⟨g, 0, none⟩) (N + 1) cp) lk) ∧ Hid (UpAt id lk i) ∧ Hid (lk.Perm (x :: l)) ∧ Hid (Step (InH hb (.slice (some ⟨g, 0, none⟩) (N + 1) cp)) W1 wr)) (fun v4 _ => (intOf v4).toNat)
  case atStart =>
    refine ⟨N, l ++ [x], Nat.le_refl _, by go_num, ?_, HA1.out.1, ?_, ?_, Step.refl _ _⟩
    · show _ = _; rw [List.length_append, HN.out]; rfl
    · have := up_start HI'.out x
      rw [HN.out] at this
      exact this
    · exact List.perm_append_comm (l₁ := l) (l₂ := [x])
  case round =>
    obtain ⟨i, lk, hiN, rfl, hlen, hH, hU, hP, hS⟩ := hrel
    have hlb := hH.out.blk.lt
    have done : IsHeap id lk → Hid (Took f w hb (.slice A N c) (x :: l) wr) := fun hh => ⟨_, lk, hH.out, hh, hP.out, HA1.out.2.1.after HA1.out.2.2 hS.out, HA1.out.2.2⟩
    rcases Nat.eq_zero_or_pos i with rfl | hpos
    · have D := done (up_end hU.out (.inl rfl))
      clear done
      go_wp2_with fail
      go_end0
      exact ⟨⟨_, rfl⟩, D.out⟩
    · obtain ⟨j, rfl⟩ : ∃ j, i = j + 1 := ⟨i - 1, by omega⟩
      obtain ⟨p, hp⟩ : ∃ p, j / 2 = p := ⟨_, rfl⟩
      have hpj : (j : Int) / 2 = (p : Int) := by omega
      obtain ⟨xi, hxi⟩ : ∃ y, lk[j + 1]? = some y := ⟨_, List.getElem?_eq_getElem (by have := hlen.out; omega)⟩
      obtain ⟨xp, hxp⟩ : ∃ y, lk[p]? = some y := ⟨_, List.getElem?_eq_getElem (by have := hlen.out; omega)⟩
      have HX := Lib.hid hxi
      have HXP := Lib.hid hxp
      obtain ⟨e0, e1⟩ := heap_at hH.out hlen.out hxi
      obtain ⟨e2, e3⟩ := heap_at hH.out hlen.out hxp
      have c0 := hH.out.blk.cell 0
      have c1 := hH.out.blk.cell 1
      have PJ : Hid ((j + 1 - 1) / 2 = p) := by show _ = _; rw [← hp]; rfl
      have p0 : (0 : Int) ≤ p := by omega
      have p1 : (p : Int) < (N : Int) + 1 := by omega
      have j0 : (0 : Int) ≤ (j : Int) + 1 := by omega
      have j1 : (j : Int) + 1 < (N : Int) + 1 := by omega
      have pj : p ≤ j := by omega
      clear hxi hxp hp
      rcases hr : decide (xi < xp) with _ | _
      · have D := done (up_end hU.out (.inr (fun u v hu hv => by
          rw [PJ.out] at hu
          rw [HX.out] at hv
          rw [HXP.out] at hu
          injection hu with hu
          injection hv with hv
          simp at hr
          show id u ≤ id v
          simp only [id]
          omega)))
        have HRd := Lib.hid hr
        clear done hr
        go_wp2_with fail
        go_quiet ((exact quiet_same (HF.out.is HRd.out _)))
        have D' : Hid (Took f w hb (.slice A N c) (x :: l) (wr.drewN nq)) := by
          obtain ⟨v', l', d1, d2, d3, d4, d5⟩ := D.out
          exact ⟨v', l', d1.drewN nq, d2, d3, d4.drewN nq, d5⟩
        go_wp2_with fail
        refine bodyPost_ret (results_none rfl _ _ _) rfl ?_
        exact ⟨⟨_, rfl⟩, D'.out⟩
      · clear done
        have HRd := Lib.hid hr
        have LT : Hid (id xi < id xp) := by simp at hr; exact hr
        clear hr
        go_wp2_with fail
        go_quiet ((exact quiet_same (HF.out.is HRd.out _)))
        go_wp2_with fail
        obtain ⟨wq, hwq⟩ : ∃ wq, wr.drewN nq = wq := ⟨_, rfl⟩
        have Hq : Hid (HI f wq hb (.slice (some ⟨g, 0, none⟩) (N + 1) cp) lk) := by show HI _ _ _ _ _; rw [← hwq]; exact hH.out.drewN nq
        have Sq : Hid (Step (InH hb (.slice (some ⟨g, 0, none⟩) (N + 1) cp)) W1 wq) := by show Step _ _ _; rw [← hwq]; exact hS.out.drewN nq
        rw [hwq]
        clear hwq e0 e1 e2 e3 c0 c1
        obtain ⟨e0, e1⟩ := heap_at Hq.out hlen.out HX.out
        obtain ⟨e2, e3⟩ := heap_at Hq.out hlen.out HXP.out
        have c1 := Hq.out.blk.cell 1
        have SW : Hid (HI f ((wq.setCell ⟨g, j + 1, none⟩ (.int .i64 xp)).setCell ⟨g, p, none⟩ (.int .i64 xi)).drew hb (.slice (some ⟨g, 0, none⟩) (N + 1) cp) (swap lk (j + 1) p) ∧ Step (InH hb (.slice (some ⟨g, 0, none⟩) (N + 1) cp)) wq ((wq.setCell ⟨g, j + 1, none⟩ (.int .i64 xp)).setCell ⟨g, p, none⟩ (.int .i64 xi)).drew) := by
          obtain ⟨h1, h2⟩ := heap_swap Hq.out hlen.out HX.out HXP.out
          exact ⟨h1.drewN 1, h2.drewN 1⟩
        have US : Hid (UpAt id (swap lk (j + 1) p) p) := by
          have := up_step hU.out (by omega) HX.out (by rw [PJ.out]; exact HXP.out) LT.out
          rw [PJ.out] at this
          exact this
        have PS : Hid ((swap lk (j + 1) p).Perm (x :: l)) := (perm_swap HX.out HXP.out).trans hP.out
        have LS : Hid ((swap lk (j + 1) p).length = N + 1) := (swap_len _ _ _).trans hlen.out
        go_region
        go_wp2_with fail
        go_roundw
        case rel => exact ⟨p, swap lk (j + 1) p, by omega, rfl, LS.out, SW.out.1, US.out, PS.out, Sq.out.trans SW.out.2⟩
        case measure => simp [intOf]; omega
end Go.Proofs.Ytgaonfeljijebaa
