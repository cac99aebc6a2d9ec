/-
  segment.Join and Span: all legs as one, and how long they take. Conditions: the reading of the legs; that they are right.
-/
import Derived.Test.YtceohmbjajhlcaaSegT
import Derived.BigRegion
namespace Go.Proofs.Ytceohmbjajhlcaa
open Go.ChangeShapes Go.WideShapes Go.ChangeAt Go.RowKit
set_option linter.unusedVariables false

/-- How long the first k legs take. -/
def spanTo (l : List Leg) : Nat → Int
  | 0 => 0
  | k + 1 => spanTo l k + ((l.getD k (0, 0, 0, 0)).2.2.2 - (l.getD k (0, 0, 0, 0)).2.2.1)
theorem spanTo_bd {l : List Leg} (h : TimedL l) : ∀ k, k ≤ l.length → 0 ≤ spanTo l k ∧ spanTo l k ≤ 1099511627776 * k
  | 0, _ => by simp [spanTo]
  | k + 1, hk => by
    have h1 := spanTo_bd h k (by omega)
    have e : l[k]? = some l[k] := List.getElem?_eq_getElem (by omega)
    have h2 := h _ (List.mem_of_getElem? e)
    rw [spanTo, getD_of e]
    omega
theorem goSpan (A : Option Addr) (n c : Nat) (l : List Leg) (w : World) (h : Rd four 4 w A n l) (hm : n ≤ 100) (ht : TimedL l) :
    Calls Try.prog 35 #[.slice A n c] w fun e w' => e = .returned (.int .i64 (spanTo l n)) ∧ Below w.heap.size w w' := by
  have HN := Lib.hid h.1
  have HT := Lib.hid ht
  clear ht
  go_enter Try.func35, Try.ntmps35
  go_wp2
  go_loopw [3, 8] (fun v i wr => ∃ (k : Nat) (S : Int), k ≤ n ∧ i = .int .i64 k ∧ v = .int .i64 S ∧ Hid (S = spanTo l k) ∧ Hid (Below w.heap.size w wr)) (fun _ i _ => n - (intOf i).toNat)
  case atStart => exact ⟨0, 0, Nat.zero_le _, rfl, rfl, rfl, Below.refl _ _⟩
  case round =>
    obtain ⟨k, S, hk, rfl, rfl, hS, hb⟩ := hrel
    have hsz := hb.out.size
    by_cases hlt : k < n
    · obtain ⟨f, t, s, e, b, off, hA, hx, hc0, hc1, hc2, hc3⟩ := (h.below hb.out (Nat.le_refl _)).at4 hlt
      subst hA
      have lb := lt_of_cell hc0
      obtain ⟨t0, t1, t2⟩ := HT.out _ (mem_of_at hx.out)
      dsimp only at t0 t1 t2
      have hn := HN.out
      obtain ⟨s0, s1⟩ := spanTo_bd HT.out k (by omega)
      have NX : Hid (S + (e - s) = spanTo l (k + 1)) := by show _ = _; rw [spanTo, getD_of hx.out, hS.out]
      rw [← hS.out] at s0 s1
      have s2 : S ≤ 109951162777600 := by omega
      clear hn s1
      go_wp2
      go_roundw
      case rel => exact ⟨k + 1, S + (e - s), by omega, by go_num, rfl, NX.out, hb.out.alloc hsz _⟩
      case measure => simp [intOf]; omega
    · obtain rfl : k = n := by omega
      go_wp2
      go_ret
      exact ⟨ret_int (by rw [hS.out]), hb.out⟩

theorem goJoin_none (A : Option Addr) (c : Nat) (w : World) : Calls Try.prog 34 #[.slice A 0 c] w fun e w' => e = .returned (.tuple #[.agg #[.int .i64 0, .int .i64 0, .int .i64 0, .int .i64 0], .bool false]) ∧ Below w.heap.size w w' := by
  go_enter Try.func34, Try.ntmps34
  go_wp2
  refine bodyPost_ret (v := .tuple #[.agg #[.int .i64 0, .int .i64 0, .int .i64 0, .int .i64 0], .bool false]) ?_ rfl ⟨rfl, (Below.refl _ _).alloc (Nat.le_refl _) _⟩
  simp [results, Try.f34, go_sem]
theorem goJoin (A : Option Addr) (n c : Nat) (l : List Leg) (f t s e f' t' s' e' : Int) (w : World) (h : Rd four 4 w A n l) (hm : n ≤ 100) (h0 : 0 < n) (ha : l[0]? = some (f, t, s, e)) (hz : l[n - 1]? = some (f', t', s', e')) :
    Calls Try.prog 34 #[.slice A n c] w fun r w' => r = .returned (.tuple #[.agg #[.int .i64 f, .int .i64 t', .int .i64 s, .int .i64 e'], .bool true]) ∧ Below w.heap.size w w' := by
  have b0 : ((n : Int) == 0) = false := by simp; omega
  obtain ⟨j, rfl⟩ : ∃ j, n = j + 1 := ⟨n - 1, by omega⟩
  have HR := Lib.hid h
  obtain ⟨x0, x1, x2, x3, b, off, hA, hx, _, _, _, _⟩ := h.at4 (k := 0) (by omega)
  subst hA
  have HA := Lib.hid ha
  have HZ := Lib.hid hz
  clear ha hz h hx
  go_enter Try.func34, Try.ntmps34
  go_wp2_with fail
  obtain ⟨wo, hwo⟩ : ∃ wo, w.alloc (.cells #[.int .i64 0, .int .i64 0, .int .i64 0, .int .i64 0] 64) = wo := ⟨_, rfl⟩
  have BO : Hid (Bk wo w.heap.size 64 #[.int .i64 0, .int .i64 0, .int .i64 0, .int .i64 0]) := by show Bk _ _ _ _; rw [← hwo]; exact Bk.new _ _ _
  have Ro : Hid (Rd four 4 wo (some ⟨b, off, none⟩) (j + 1) l) := by show Rd _ _ _ _ _ _; rw [← hwo]; exact HR.out.alloc _
  have Bo : Hid (Below w.heap.size w wo) := by show Below _ _ _; rw [← hwo]; exact (Below.refl _ _).alloc (Nat.le_refl _) _
  have zo : Hid (wo.heap.size = w.heap.size + 1) := by show _ = _; rw [← hwo]; simp
  rw [hwo]
  clear hwo HR
  obtain ⟨x0', x1', x2', x3', b', off', hA, hx, d0, d1, d2, d3⟩ := Ro.out.at4 (k := 0) (by omega)
  simp only [Option.some.injEq, Addr.mk.injEq, and_true] at hA
  obtain ⟨rfl, rfl⟩ := hA
  rw [Nat.zero_mul, Nat.add_zero] at d0 d1 d2 d3
  obtain ⟨rfl, rfl, rfl, rfl⟩ : x0' = f ∧ x1' = t ∧ x2' = s ∧ x3' = e := by
    have h1 := hx.out
    rw [HA.out] at h1
    simp only [Option.some.injEq, Prod.mk.injEq] at h1
    exact ⟨h1.1.symm, h1.2.1.symm, h1.2.2.1.symm, h1.2.2.2.symm⟩
  obtain ⟨y0, y1, y2, y3, b', off', hA, hy, e0, e1, e2, e3⟩ := Ro.out.at4 (k := j) (by omega)
  simp only [Option.some.injEq, Addr.mk.injEq, and_true] at hA
  obtain ⟨rfl, rfl⟩ := hA
  obtain ⟨rfl, rfl, rfl, rfl⟩ : y0 = f' ∧ y1 = t' ∧ y2 = s' ∧ y3 = e' := by
    have h1 := HZ.out
    rw [show j + 1 - 1 = j by omega, hy.out] at h1
    simpa using h1
  have n0 := World.new_ne wo _ d0
  have n1 := World.new_ne wo _ e0
  have n4 : wo.heap.size + 1 ≠ b := by have := Ro.out.lt (by omega); omega
  have wj : IntKind.i64.wrap (j : Int) = (j : Int) := IntWalk.i64_in _ (by omega)
  have j0 : (0 : Int) ≤ j := by omega
  have j1 : (j : Int) < (j : Int) + 1 := by omega
  go_region_held3 (fun w' => (w'.cell? ⟨b, off, none⟩ = some (.int .i64 x0') ∧ w'.cell? ⟨b, off + 1, none⟩ = some (.int .i64 x1') ∧ w'.cell? ⟨b, off + 2, none⟩ = some (.int .i64 x2') ∧ w'.cell? ⟨b, off + 3, none⟩ = some (.int .i64 x3')) ∧ w'.cell? ⟨b, off + j * 4, none⟩ = some (.int .i64 y0) ∧ w'.cell? ⟨b, off + j * 4 + 1, none⟩ = some (.int .i64 y1) ∧ w'.cell? ⟨b, off + j * 4 + 2, none⟩ = some (.int .i64 y2) ∧ w'.cell? ⟨b, off + j * 4 + 3, none⟩ = some (.int .i64 y3)) (go_keep) (fail)
  · obtain ⟨W1, hW1⟩ : ∃ W1, ((wo.alloc (.cells #[.int .i64 x0', .int .i64 x1', .int .i64 x2', .int .i64 x3'] 64)).alloc (.cells #[.int .i64 y0, .int .i64 y1, .int .i64 y2, .int .i64 y3] 64)).drew = W1 := ⟨_, rfl⟩
    have B6 : Hid (Bk W1 wo.heap.size 64 #[.int .i64 x0', .int .i64 x1', .int .i64 x2', .int .i64 x3']) := by show Bk _ _ _ _; rw [← hW1]; exact (Bk.new _ _ _).alloc _
    have B7 : Hid (Bk W1 (wo.heap.size + 1) 64 #[.int .i64 y0, .int .i64 y1, .int .i64 y2, .int .i64 y3]) := by
      show Bk _ _ _ _
      rw [← hW1]
      have h1 := Bk.new (wo.alloc (.cells #[.int .i64 x0', .int .i64 x1', .int .i64 x2', .int .i64 x3'] 64)) 64 #[.int .i64 y0, .int .i64 y1, .int .i64 y2, .int .i64 y3]
      rw [World.size_alloc] at h1
      exact h1
    have B8 : Hid (Bk W1 w.heap.size 64 #[.int .i64 0, .int .i64 0, .int .i64 0, .int .i64 0]) := by show Bk _ _ _ _; rw [← hW1]; exact (BO.out.alloc _).alloc _
    have D1 : Hid (Below w.heap.size w W1) := by show Below _ _ _; rw [← hW1]; exact below_dN ((Bo.out.alloc Bo.out.size _).alloc (by have := Bo.out.size; simp; omega) _) 1
    rw [hW1]
    clear hW1
    have a0 := B6.out.cell 0
    have a1 := B6.out.cell 1
    have a2 := B6.out.cell 2
    have a3 := B6.out.cell 3
    have a4 := B7.out.cell 0
    have a5 := B7.out.cell 1
    have a6 := B7.out.cell 2
    have a7 := B7.out.cell 3
    have f0 := B8.out.free 0
    have f1 := B8.out.free 1
    have f2 := B8.out.free 2
    have f3 := B8.out.free 3
    have r0 := B8.out.cell 0
    have r1 := B8.out.cell 1
    have r2 := B8.out.cell 2
    have r3 := B8.out.cell 3
    go_wp2_with fail
    have BF := ((((B8.out.put 0 (.int .i64 x0')).put 1 (.int .i64 y1)).put 2 (.int .i64 x2')).put 3 (.int .i64 y3))
    have k0 := BF.cell 0
    have k1 := BF.cell 1
    have k2 := BF.cell 2
    have k3 := BF.cell 3
    refine bodyPost_ret (v := .tuple #[.agg #[.int .i64 x0', .int .i64 y1, .int .i64 x2', .int .i64 y3], .bool true]) ?_ rfl ⟨rfl, (((D1.out.setCell (p := ⟨w.heap.size, 0, none⟩) (Nat.le_refl _) _).setCell (p := ⟨w.heap.size, 1, none⟩) (Nat.le_refl _) _).setCell (p := ⟨w.heap.size, 2, none⟩) (Nat.le_refl _) _).setCell (p := ⟨w.heap.size, 3, none⟩) (Nat.le_refl _) _⟩
    simp [results, Try.f34, go_sem, k0, k1, k2, k3]
  · obtain ⟨W1, hW1⟩ : ∃ W1, ((wo.alloc (.cells #[.int .i64 y0, .int .i64 y1, .int .i64 y2, .int .i64 y3] 64)).alloc (.cells #[.int .i64 x0', .int .i64 x1', .int .i64 x2', .int .i64 x3'] 64)).drew = W1 := ⟨_, rfl⟩
    have B6 : Hid (Bk W1 wo.heap.size 64 #[.int .i64 y0, .int .i64 y1, .int .i64 y2, .int .i64 y3]) := by show Bk _ _ _ _; rw [← hW1]; exact (Bk.new _ _ _).alloc _
    have B7 : Hid (Bk W1 (wo.heap.size + 1) 64 #[.int .i64 x0', .int .i64 x1', .int .i64 x2', .int .i64 x3']) := by
      show Bk _ _ _ _
      rw [← hW1]
      have h1 := Bk.new (wo.alloc (.cells #[.int .i64 y0, .int .i64 y1, .int .i64 y2, .int .i64 y3] 64)) 64 #[.int .i64 x0', .int .i64 x1', .int .i64 x2', .int .i64 x3']
      rw [World.size_alloc] at h1
      exact h1
    have B8 : Hid (Bk W1 w.heap.size 64 #[.int .i64 0, .int .i64 0, .int .i64 0, .int .i64 0]) := by show Bk _ _ _ _; rw [← hW1]; exact (BO.out.alloc _).alloc _
    have D1 : Hid (Below w.heap.size w W1) := by show Below _ _ _; rw [← hW1]; exact below_dN ((Bo.out.alloc Bo.out.size _).alloc (by have := Bo.out.size; simp; omega) _) 1
    rw [hW1]
    clear hW1
    have a0 := B6.out.cell 0
    have a1 := B6.out.cell 1
    have a2 := B6.out.cell 2
    have a3 := B6.out.cell 3
    have a4 := B7.out.cell 0
    have a5 := B7.out.cell 1
    have a6 := B7.out.cell 2
    have a7 := B7.out.cell 3
    have f0 := B8.out.free 0
    have f1 := B8.out.free 1
    have f2 := B8.out.free 2
    have f3 := B8.out.free 3
    have r0 := B8.out.cell 0
    have r1 := B8.out.cell 1
    have r2 := B8.out.cell 2
    have r3 := B8.out.cell 3
    go_wp2_with fail
    have BF := ((((B8.out.put 0 (.int .i64 x0')).put 1 (.int .i64 y1)).put 2 (.int .i64 x2')).put 3 (.int .i64 y3))
    have k0 := BF.cell 0
    have k1 := BF.cell 1
    have k2 := BF.cell 2
    have k3 := BF.cell 3
    refine bodyPost_ret (v := .tuple #[.agg #[.int .i64 x0', .int .i64 y1, .int .i64 x2', .int .i64 y3], .bool true]) ?_ rfl ⟨rfl, (((D1.out.setCell (p := ⟨w.heap.size, 0, none⟩) (Nat.le_refl _) _).setCell (p := ⟨w.heap.size, 1, none⟩) (Nat.le_refl _) _).setCell (p := ⟨w.heap.size, 2, none⟩) (Nat.le_refl _) _).setCell (p := ⟨w.heap.size, 3, none⟩) (Nat.le_refl _) _⟩
    simp [results, Try.f34, go_sem, k0, k1, k2, k3]
end Go.Proofs.Ytceohmbjajhlcaa
