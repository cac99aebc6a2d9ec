/-
  The reference's Legs, and its Same for legs. Conditions: the arguments' readings.
-/
import Derived.Test.YtceohmbjajhlcaaSegC
import Derived.Test.YtceohmbjajhlcaaRefRuns
namespace Go.Proofs.Ytceohmbjajhlcaa
open Go.ChangeShapes Go.WideShapes Go.ChangeAt Go.RowKit
set_option linter.unusedVariables false

set_option maxRecDepth 100000 in
set_option maxHeartbeats 4000000 in
theorem refLegs (A : Option Addr) (n c : Nat) (l : List Run) (least : Int) (w : World) (hl : Rd three 3 w A n l) (ht : Timed l) (hn : n ≤ 100) (hnc : n ≤ c) (hcm : c ≤ maxLen) (hf : Fits least) :
    Calls Try.prog 18 #[.slice A n c, .int .i64 least] w fun e w' => ∃ A' N c', e = .returned (.slice A' N c') ∧ Rd four 4 w' A' N (legsOf l least) ∧ Below w.heap.size w w' := by
  unfold maxLen at hcm
  have HL := Lib.hid hl
  have HT := Lib.hid ht
  have HN := Lib.hid hl.1
  clear hl ht
  obtain ⟨i0, hi, hz0, hz1, hz2⟩ := info_parts Try.info64
  go_enter Try.func18, Try.ntmps18
  go_wp2
  go_loopw [5, 6] (fun v i wr => ∃ (m p : Nat) (o : List Leg), m ≤ p ∧ (p < n ∨ n = 0 ∧ p = 0) ∧ i = .int .i64 p ∧ Hid (st l least m = (p, o)) ∧ Hid (wr.ownsRow w.heap.size 64 4 v o.length (cellsL o)) ∧ Hid (Below w.heap.size w wr)) (fun _ i _ => n - (intOf i).toNat)
  case atStart => exact ⟨0, 0, [], Nat.le_refl _, by omega, rfl, rfl, World.ownsRow_nil _ _ _ _, Below.refl _ _⟩
  case round =>
    obtain ⟨m, p, o, hmp, hpn, rfl, hst, hO, hB⟩ := hrel
    have z2 := hB.out.size
    obtain ⟨Av, cv, rfl⟩ := own_any hO.out
    have OL : o.length ≤ 100 := by
      have h1 := st_len (l := l) (least := least) m
      rw [hst.out] at h1
      dsimp only at h1
      omega
    by_cases hlt : p + 1 < n
    · have hR := Lib.hid (HL.out.below hB.out (Nat.le_refl _))
      obtain ⟨x0, y0, t0, b, off, hA, hx0, _, _, _⟩ := hR.out.at3 (k := p) (by omega)
      subst hA
      have hRd := Lib.hid (hR.out.drop (m := p) (by omega))
      have hpc : ¬ p = c := by omega
      have hpc' : ¬ c = p := by omega
      go_wp2_with fail
      refine (refChk _ _ _ _ _ _ hRd.out (by omega) (HT.out.drop p) (by omega)).mono ?_
      rintro e w1 ⟨k, hck, rfl, nq, hw1⟩
      have kq : p + k < n := by have := hck.1; rw [List.length_drop, ← HN.out] at this; omega
      have k1 : 1 ≤ k := chk_pos hck (by rw [List.length_drop, ← HN.out]; omega)
      have HCK := Lib.hid hck
      obtain ⟨r, hr⟩ : ∃ r, p + k = r := ⟨_, rfl⟩
      have hrc : (p : Int) + (k : Int) = (r : Int) := by omega
      have rn : r < n := by omega
      have Ro : Hid (Rd three 3 w1 (some ⟨b, off, none⟩) n l) := by show Rd _ _ _ _ _ _; rw [hw1]; exact hR.out.drewN nq
      have Oo : Hid (w1.ownsRow w.heap.size 64 4 (.slice Av o.length cv) o.length (cellsL o)) := by show World.ownsRow _ _ _ _ _ _ _; rw [hw1]; exact hO.out
      have Bo : Hid (Below w.heap.size w w1) := by show Below _ _ _; rw [hw1]; exact below_dN hB.out nq
      clear hw1 hck hO hB hR hRd
      have z3 := Bo.out.size
      obtain ⟨x1, y1, t1, b', off', hA, hx1, e0, e1, e2⟩ := Ro.out.at3 rn
      simp only [Option.some.injEq, Addr.mk.injEq, and_true] at hA
      obtain ⟨rfl, rfl⟩ := hA
      obtain ⟨u0, v0, s0, b', off', hA, hu0, d0, d1, d2⟩ := Ro.out.at3 (k := p) (by omega)
      simp only [Option.some.injEq, Addr.mk.injEq, and_true] at hA
      obtain ⟨rfl, rfl⟩ := hA
      have LEG : Hid (legAt l p k = (u0, x1, s0, y1)) := by
        show _ = _
        unfold legAt
        rw [hr, getD_of hu0.out, getD_of hx1.out]
      have NST : Hid (st l least (m + 1) = (r, o ++ [(u0, x1, s0, y1)])) := by
        show _ = _
        rw [st_more hst.out (by have := HN.out; omega) HCK.out, LEG.out, hr]
      have blt : b < w.heap.size := HL.out.lt (by omega)
      have p0 : (p : Int) < n := by omega
      have r0 : (r : Int) < n := by omega
      have r1 : (0 : Int) ≤ r := by omega
      have p1 : (0 : Int) ≤ p := by omega
      go_wp2_with fail
      have wj : IntKind.i64.wrap (r : Int) = (r : Int) := IntWalk.i64_in _ (by omega)
      go_region_held3 (fun w' => w'.cell? ⟨b, off + p * 3, none⟩ = some (.int .i64 u0) ∧ w'.cell? ⟨b, off + p * 3 + 2, none⟩ = some (.int .i64 s0) ∧ w'.cell? ⟨b, off + r * 3, none⟩ = some (.int .i64 x1) ∧ w'.cell? ⟨b, off + r * 3 + 1, none⟩ = some (.int .i64 y1))
        (first
          | go_keep
          | (go_split_ands
             refine ⟨?_, ?_, ?_, ?_⟩ <;>
             (rw [hgrow.cell_far _ (by simp; omega) (fun e => by have := (Oo.out.lt _ e.symm).1; simp at this; omega)]; assumption)))
        ((refine step_append_lies _ (by rfl) _ _ _ (by rfl) w.heap.size 64 i0 _ 4 32 Try.underlying33 hi hz0 hz1 hz2 rfl (by omega) _ _ (cellsL o) (by rfl) ((Oo.out.alloc _).drew)
            ⟨w1.heap.size, 0, none⟩ 1 1 [.int .i64 u0, .int .i64 x1, .int .i64 s0, .int .i64 y1] (by rfl) (by rfl) (World.news_of_block (cs := #[.int .i64 u0, .int .i64 x1, .int .i64 s0, .int .i64 y1]) (t := 64) (fr := (0, 0)) (heap_alloc_new w1 _)) (by simp [Value.oneCell'])
            (by omega) (by unfold maxLen; omega) (by omega) (by simp; omega) (w1.heap.size + 1) (by simp) ?_; intro gg cap w2 hown1 hgrow hat hlt1))
      go_wp2_with fail
      have HH : Hid (Below w.heap.size w w2) := by
        show Below _ _ _
        first
          | exact Below.grown (a := w) (below_dN (Bo.out.alloc Bo.out.size _) 1) hgrow (by simp; omega) (fun k hk => (Oo.out.lt k hk).1)
          | exact Below.grown (a := w) ((below_dN Bo.out 1).alloc Bo.out.size _) hgrow (by simp; omega) (fun k hk => (Oo.out.lt k hk).1)
      have HW : Hid (w2.ownsRow w.heap.size 64 4 (.slice (some ⟨gg, 0, none⟩) (o.length + 1) cap) (o ++ [(u0, x1, s0, y1)]).length (cellsL (o ++ [(u0, x1, s0, y1)]))) := by
        show World.ownsRow _ _ _ _ _ _ _
        rw [List.length_append, cellsL_snoc]
        exact hown1
      go_roundw
      case rel => exact ⟨m + 1, r, o ++ [(u0, x1, s0, y1)], by omega, .inl rn, rfl, NST.out, HW.out, HH.out⟩
      case measure => simp [intOf]; omega
    · have E : Hid (legsOf l least = o) := legs_end hst.out (by have := HN.out; omega) (by have := HN.out; omega)
      go_wp2_with fail
      go_ret
      exact ⟨_, _, _, rfl, by rw [E.out]; exact rd_cellsL hO.out, hB.out⟩

def legB (l l' : List Leg) : Bool := decide (l = l')
set_option maxHeartbeats 400000 in
theorem sameL (A B : Option Addr) (n c c' : Nat) (l : List Leg) (w : World) (h : Rd four 4 w A n l) (h' : Rd four 4 w B n l) (hm : n ≤ 1000) :
    Calls Try.prog 17 #[.slice A n c, .slice B n c'] w fun e w' => e = .returned (.bool true) ∧ Below w.heap.size w w' := by
  go_enter Try.func17, Try.ntmps17
  go_wp2
  go_loopw [5] (fun i wr => ∃ k m : Nat, k ≤ n ∧ i = .int .i64 k ∧ Hid (wr = w.drewN m)) (fun i _ => n - (intOf i).toNat)
  case atStart => exact ⟨0, 0, Nat.zero_le _, rfl, rfl⟩
  case round =>
    obtain ⟨k, m, hk, rfl, hw⟩ := hrel
    have hR : Rd four 4 wr A n l := by rw [hw.out]; exact h.drewN _
    have hR' : Rd four 4 wr B n l := by rw [hw.out]; exact h'.drewN _
    by_cases hlt : k < n
    · obtain ⟨x, y, z, u, b, off, hA, hx, hc0, hc1, hc2, hc3⟩ := hR.at4 hlt
      obtain ⟨x', y', z', u', b', off', hB, hx', hc0', hc1', hc2', hc3'⟩ := hR'.at4 hlt
      obtain ⟨rfl, rfl, rfl, rfl⟩ : x' = x ∧ y' = y ∧ z' = z ∧ u' = u := by
        have h1 := hx.out
        rw [hx'.out] at h1
        simpa using h1
      subst hA hB
      go_wp2
      go_quiet (fail)
      go_wp2
      go_roundw
      case rel => exact ⟨k + 1, m + nq, by omega, by go_num, drewN_more hw.out nq⟩
      case measure => simp [intOf]; omega
    · obtain rfl : k = n := by omega
      go_wp2
      go_ret
      exact ⟨rfl, by rw [hw.out]; exact below_dN (Below.refl _ _) m⟩
end Go.Proofs.Ytceohmbjajhlcaa
