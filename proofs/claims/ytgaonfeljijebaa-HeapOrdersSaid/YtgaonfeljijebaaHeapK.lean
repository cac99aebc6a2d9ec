/-
  heap: the order, New, Len, Top at pairs. Conditions: the heap's struct and row, and the order's variable, in memory.
-/
import Derived.Test.YtgaonfeljijebaaHeapG
import Derived.Test.YtgaonfeljijebaaLater
namespace Go.Proofs.Ytgaonfeljijebaa
open Go.ChangeShapes Go.WideShapes Go.ChangeAt Go.RowKit Go.Shelf
set_option linter.unusedVariables false

abbrev Pair := Int × Int
def keyP (b : Bool) (p : Pair) : Int := if b = true then -p.1 else p.1
def ordV (tb : Nat) : Value := .func (.func 38) #[] #[.pointer (some ⟨tb, 0, none⟩)]
abbrev HP (tb : Nat) (w : World) (hb : Nat) (v : Value) (l : List Pair) : Prop := HeapAt two 2 62 87 (ordV tb) w hb v l
theorem goFirst {b : Bool} {tb : Nat} {x1 x2 y1 y2 : Int} {r : Bool} (hr : decide (keyP b (x1, x2) < keyP b (y1, y2)) = r) (hx : Fits x1) (hy : Fits y1) (w : World) (hc : w.cell? ⟨tb, 0, none⟩ = some (.bool b)) :
    Calls Try.prog 38 #[.agg #[.int .i64 x1, .int .i64 x2], .agg #[.int .i64 y1, .int .i64 y2], .pointer (some ⟨tb, 0, none⟩)] w fun e w' => e = .returned (.bool r) ∧ Below w.heap.size w w' := by
  have ht := lt_of_cell hc
  subst hr
  obtain ⟨p1, p2⟩ := hx
  obtain ⟨p3, p4⟩ := hy
  cases b with
  | true =>
    go_enter Try.func38, Try.ntmps38
    go_wp2
    go_ret
    exact ⟨ret_bool (by simp [keyP]), ((Below.refl _ _).alloc (Nat.le_refl _) _).alloc (by simp) _⟩
  | false =>
    go_enter Try.func38, Try.ntmps38
    go_wp2
    go_ret
    exact ⟨ret_bool (by simp [keyP]), ((Below.refl _ _).alloc (Nat.le_refl _) _).alloc (by simp) _⟩
theorem cellsH_two_len (l : List Pair) : (cellsH two l).length = l.length * 2 := cellsH_len (F := 2) (fun _ => rfl) l
theorem cellsH_two_snoc (l : List Pair) (x : Pair) : cellsH two l ++ [.int .i64 x.1, .int .i64 x.2] = cellsH two (l ++ [x]) := by simp [cellsH, two]
theorem cellsH_two_set : ∀ (l : List Pair) (i : Nat) (x : Pair), ((cellsH two l).set (i * 2) (.int .i64 x.1)).set (i * 2 + 1) (.int .i64 x.2) = cellsH two (l.set i x)
  | [], i, x => by simp [cellsH]
  | a :: l, 0, x => by simp [cellsH, two]
  | a :: l, i + 1, x => by
    have ih := cellsH_two_set l i x
    have e : cellsH two (a :: l) = .int .i64 a.1 :: .int .i64 a.2 :: cellsH two l := by simp [cellsH, two]
    have e2 : cellsH two ((a :: l).set (i + 1) x) = .int .i64 a.1 :: .int .i64 a.2 :: cellsH two (l.set i x) := by simp [cellsH, two]
    rw [e, e2, ← ih, show (i + 1) * 2 = i * 2 + 1 + 1 by omega, show i * 2 + 1 + 1 + 1 = (i * 2 + 1) + 1 + 1 by omega]
    rfl
theorem cellsH_two_at {l : List Pair} {i : Nat} {x : Pair} (h : l[i]? = some x) : (cellsH two l)[i * 2]? = some (.int .i64 x.1) ∧ (cellsH two l)[i * 2 + 1]? = some (.int .i64 x.2) := by
  have h1 := flat_at (enc := two) (F := 2) (j := 0) l i (fun _ _ => rfl) h (v := x.1) rfl
  have h2 := flat_at (enc := two) (F := 2) (j := 1) l i (fun _ _ => rfl) h (v := x.2) rfl
  rw [Nat.add_zero] at h1
  unfold cellsH
  rw [List.getElem?_map, List.getElem?_map, h1, h2]
  exact ⟨rfl, rfl⟩
theorem pair_at {tb hb N g c i : Nat} {l : List Pair} {x : Pair} {w : World} (h : HP tb w hb (.slice (some ⟨g, 0, none⟩) N c) l) (hN : l.length = N) (hx : l[i]? = some x) :
    w.cell? ⟨g, i * 2, none⟩ = some (.int .i64 x.1) ∧ w.cell? ⟨g, i * 2 + 1, none⟩ = some (.int .i64 x.2) ∧ w.frozen? ⟨g, i * 2, none⟩ = false ∧ w.frozen? ⟨g, i * 2 + 1, none⟩ = false := by
  have hr := h.row
  rw [hN] at hr
  have hlt := (List.getElem?_eq_some_iff.1 hx).1
  obtain ⟨h1, h2⟩ := cellsH_two_at hx
  exact ⟨by rw [hr.cellAt _ (by omega), h1], by rw [hr.cellAt _ (by omega), h2], hr.frozenAt _, hr.frozenAt _⟩
theorem pair_set {tb hb N g c i : Nat} {l : List Pair} {x : Pair} {w : World} (h : HP tb w hb (.slice (some ⟨g, 0, none⟩) N c) l) (hN : l.length = N) :
    HP tb ((w.setCell ⟨g, i * 2, none⟩ (.int .i64 x.1)).setCell ⟨g, i * 2 + 1, none⟩ (.int .i64 x.2)) hb (.slice (some ⟨g, 0, none⟩) N c) (l.set i x) ∧ Step (InH hb (.slice (some ⟨g, 0, none⟩) N c)) w ((w.setCell ⟨g, i * 2, none⟩ (.int .i64 x.1)).setCell ⟨g, i * 2 + 1, none⟩ (.int .i64 x.2)) := by
  have hr := h.row
  rw [hN] at hr
  have hg := (hr.lt g rfl).1
  refine ⟨⟨(h.blk.far (p := ⟨g, _, none⟩) (by show hb ≠ g; omega) _).far (p := ⟨g, _, none⟩) (by show hb ≠ g; omega) _, ?_⟩, ((Step.refl _ w).set (p := ⟨g, _, none⟩) (.inr rfl) _).set (p := ⟨g, _, none⟩) (.inr rfl) _⟩
  rw [List.length_set, hN]
  have h1 := (((hr.stored (i * 2) (.int .i64 x.1)).1).stored (i * 2 + 1) (.int .i64 x.2)).1
  rw [cellsH_two_set] at h1
  exact h1
theorem pair_swap {tb hb N g c i j : Nat} {l : List Pair} {x y : Pair} {w : World} (h : HP tb w hb (.slice (some ⟨g, 0, none⟩) N c) l) (hN : l.length = N) (hx : l[i]? = some x) (hy : l[j]? = some y) :
    HP tb ((((w.setCell ⟨g, i * 2, none⟩ (.int .i64 y.1)).setCell ⟨g, i * 2 + 1, none⟩ (.int .i64 y.2)).setCell ⟨g, j * 2, none⟩ (.int .i64 x.1)).setCell ⟨g, j * 2 + 1, none⟩ (.int .i64 x.2)) hb (.slice (some ⟨g, 0, none⟩) N c) (swap l i j) ∧ Step (InH hb (.slice (some ⟨g, 0, none⟩) N c)) w ((((w.setCell ⟨g, i * 2, none⟩ (.int .i64 y.1)).setCell ⟨g, i * 2 + 1, none⟩ (.int .i64 y.2)).setCell ⟨g, j * 2, none⟩ (.int .i64 x.1)).setCell ⟨g, j * 2 + 1, none⟩ (.int .i64 x.2)) := by
  obtain ⟨h1, s1⟩ := pair_set (i := i) (x := y) h hN
  obtain ⟨h2, s2⟩ := pair_set (i := j) (x := x) h1 (by rw [List.length_set]; exact hN)
  rw [swap_is hx hy]
  exact ⟨h2, s1.trans s2⟩
theorem pair_shrink {tb hb n g c : Nat} {l : List Pair} {w : World} (h : HP tb w hb (.slice (some ⟨g, 0, none⟩) (n + 1) c) l) (hN : l.length = n + 1) :
    HP tb (w.setCell ⟨hb, 1, none⟩ (.slice (some ⟨g, 0, none⟩) n c)) hb (.slice (some ⟨g, 0, none⟩) n c) (l.take n) ∧ Step (InH hb (.slice (some ⟨g, 0, none⟩) n c)) w (w.setCell ⟨hb, 1, none⟩ (.slice (some ⟨g, 0, none⟩) n c)) := by
  have hr := h.row
  rw [hN] at hr
  have hg := (hr.lt g rfl).1
  refine ⟨⟨h.blk.put 1 _, ?_⟩, (Step.refl _ w).set (p := ⟨hb, 1, none⟩) (.inl rfl) _⟩
  have h1 := own_less hr (m := n) (by omega) (by omega)
  rw [cellsH_take (enc := two) (F := 2) (fun _ => rfl) l n (by omega)] at h1
  have hl : (l.take n).length = n := by rw [List.length_take]; omega
  rw [hl]
  exact own_step h1 ((Step.refl (fun k => k = hb) w).set (p := ⟨hb, 1, none⟩) rfl _) (fun k hk e => by have := (h1.lt k hk).1; omega)
theorem pair_app {tb hb N : Nat} {A : Option Addr} {c : Nat} {v' : Value} {l : List Pair} {x : Pair} {w w0 w1 : World} (h : HP tb w hb (.slice A N c) l) (hN : l.length = N)
    (hown : w1.ownsRow (hb + 1) 62 2 v' (N + 1) (cellsH two l ++ [.int .i64 x.1, .int .i64 x.2])) (hw0 : Below w.heap.size w w0) (hg : w0.grownBy w1 (Value.slice A N c).ownBlock) (hat : v'.ownBlock = (Value.slice A N c).ownBlock ∨ v'.ownBlock = some w0.heap.size) :
    HP tb (w1.setCell ⟨hb, 1, none⟩ v') hb v' (l ++ [x]) ∧ Step (InH hb (.slice A N c)) w (w1.setCell ⟨hb, 1, none⟩ v') ∧ Grew w (.slice A N c) v' := by
  have hlt := h.blk.lt
  have hrow : ∀ g, (Value.slice A N c).ownBlock = some g → hb + 1 ≤ g := fun g hg => (h.row.lt g hg).1
  have d0 : Bk w1 hb 87 #[ordV tb, .slice A N c] := (h.blk.below hw0 hlt).grown hg (fun e => by have := hrow _ e.symm; omega)
  refine ⟨⟨d0.put 1 v', ?_⟩, ?_, ?_⟩
  · rw [cellsH_two_snoc] at hown
    rw [List.length_append, hN]
    exact own_step hown ((Step.refl (fun k => k = hb) w1).set (p := ⟨hb, 1, none⟩) rfl v') (fun g hg' e => by have := (hown.lt g hg').1; omega)
  · exact (((Step.of hw0 (InH hb (.slice A N c))).grown hg (fun r hr => .inl (.inr hr))).set (p := ⟨hb, 1, none⟩) (.inl rfl) v')
  · rcases hat with h1 | h1
    · exact .inl h1
    · exact .inr ⟨_, hw0.size, h1⟩
theorem goNewP (tb : Nat) (w : World) : Calls Try.prog 37 #[ordV tb] w fun e w' => e = .returned (.pointer (some ⟨w.heap.size, 0, none⟩)) ∧ w' = w.alloc (.cells #[ordV tb, .slice none 0 0] 87) := by
  unfold ordV
  go_enter Try.func37, Try.ntmps37
  go_wp2
  go_ret
  exact ⟨rfl, rfl⟩
theorem pair_new (tb : Nat) (w : World) : HP tb (w.alloc (.cells #[ordV tb, .slice none 0 0] 87)) w.heap.size (.slice none 0 0) [] := ⟨Bk.new _ _ _, World.ownsRow_nil _ _ _ _⟩
theorem goIsP {tb hb : Nat} {v : Value} {l : List Pair} {w : World} (h : HP tb w hb v l) : Calls Try.prog 55 #[.pointer (some ⟨hb, 0, none⟩)] w fun e w' => e = .returned (.bool true) ∧ w = w' := by
  have c0 := h.blk.cell 0
  have HH := Lib.hid h
  clear h
  unfold ordV at c0
  have hrun : Sem.run Try.prog (binOp BinOp.neq 66 (Value.func (.func 38) #[] #[.pointer (some ⟨tb, 0, none⟩)]) Value.nilFunc) w = .ok (.bool true) w := by kernel_rfl
  go_enter Try.func55, Try.ntmps55
  go_wp2
  go_ret
  exact ⟨rfl, rfl⟩
theorem goLenP {tb hb N c : Nat} {A : Option Addr} {l : List Pair} {w : World} (h : HP tb w hb (.slice A N c) l) : Calls Try.prog 36 #[.pointer (some ⟨hb, 0, none⟩)] w fun e w' => e = .returned (.int .i64 N) ∧ w = w' := by
  have c1 := h.blk.cell 1
  have HH := Lib.hid h
  clear h
  go_enter Try.func36, Try.ntmps36
  go_wp2_with fail
  refine (goIsP HH.out).mono ?_
  rintro e w' ⟨rfl, rfl⟩
  go_wp2_with fail
  go_ret
  exact ⟨rfl, rfl⟩
theorem goTopP_none {tb hb c : Nat} {A : Option Addr} {l : List Pair} {w : World} (h : HP tb w hb (.slice A 0 c) l) : Calls Try.prog 56 #[.pointer (some ⟨hb, 0, none⟩)] w fun e w' => e = .returned (.tuple #[.agg #[.int .i64 0, .int .i64 0], .bool false]) ∧ Below w.heap.size w w' := by
  have HH := Lib.hid (h.step (Step.of ((Below.refl _ w).alloc (Nat.le_refl _) (.cells #[.int .i64 0, .int .i64 0] 62)) (fun _ => False)) (fun _ h => h.elim))
  clear h
  go_enter Try.func56, Try.ntmps56
  go_wp2_with fail
  refine (goLenP HH.out).mono ?_
  rintro e w' ⟨rfl, rfl⟩
  go_wp2_with fail
  refine bodyPost_ret (v := .tuple #[.agg #[.int .i64 0, .int .i64 0], .bool false]) ?_ rfl ⟨rfl, ((Below.refl _ _).alloc (Nat.le_refl _) _).alloc (by simp) _⟩
  simp [results, Try.f56, go_sem]
theorem goTopP_some {tb hb N c : Nat} {A : Option Addr} {l : List Pair} {x : Pair} {w : World} (h : HP tb w hb (.slice A N c) l) (hN : l.length = N) (hx : l[0]? = some x) : Calls Try.prog 56 #[.pointer (some ⟨hb, 0, none⟩)] w fun e w' => e = .returned (.tuple #[.agg #[.int .i64 x.1, .int .i64 x.2], .bool true]) ∧ Below w.heap.size w w' := by
  have hl := (List.getElem?_eq_some_iff.1 hx).1
  have hr := h.row
  rw [hN] at hr
  obtain ⟨g, c', he⟩ := own_form hr (by omega)
  simp only [Value.slice.injEq] at he
  obtain ⟨rfl, _, rfl⟩ := he
  have HH := Lib.hid (h.step (Step.of ((Below.refl _ w).alloc (Nat.le_refl _) (.cells #[.int .i64 0, .int .i64 0] 62)) (fun _ => False)) (fun _ h => h.elim))
  obtain ⟨e0, e1, e2, e3⟩ := pair_at HH.out hN hx
  have c1 := HH.out.blk.cell 1
  have b0 : ((N : Int) == 0) = false := by simp; omega
  have n0 : (0 : Int) < N := by omega
  have hgl := (h.row.lt g rfl)
  have hbl := h.blk.lt
  rw [Nat.zero_mul] at e0 e1
  clear h hr hN
  go_enter Try.func56, Try.ntmps56
  go_wp2_with fail
  refine (goLenP HH.out).mono ?_
  rintro e w' ⟨rfl, rfl⟩
  go_wp2_with fail
  refine bodyPost_ret (v := .tuple #[.agg #[.int .i64 x.1, .int .i64 x.2], .bool true]) ?_ rfl ⟨rfl, (Below.refl _ _).alloc (Nat.le_refl _) _⟩
  simp [results, Try.f56, go_sem]
end Go.Proofs.Ytgaonfeljijebaa
