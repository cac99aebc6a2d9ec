/-
  The law CleanKeeps returns true, for every filter and every trace, and leaves what was there as it was. No conditions but the arguments' readings.
-/
import Derived.Test.YtgaonfeljijebaaCleanA
namespace Go.Proofs.Ytgaonfeljijebaa.cleanKeepsWalk
open Go.ChangeShapes Go.WideShapes Go.ChangeAt Go.RowKit
set_option linter.unusedVariables false

set_option maxRecDepth 100000 in
set_option maxHeartbeats 4000000 in
theorem walk (s0a s0b : Int) (A1 : Option Addr) (n1 c1 : Nat) (l1 : List (Int × Int × Int)) (w : World) (ws0a : Fits s0a) (ws0b : Fits s0b) (rd1 : Rd three 3 w A1 n1 l1) (ft1 : ∀ r ∈ l1, ∀ v ∈ three r, Fits v) (ge1 : n1 ≤ c1) (mx1 : c1 ≤ maxLen) :
    Calls Try.prog 4 #[.agg #[.int .i64 s0a, .int .i64 s0b], .slice A1 n1 c1] w fun e w' => e = .returned (.bool true) ∧ Below w.heap.size w w' := by
  have hm : n1 ≤ 9223372036854775807 := by unfold maxLen at mx1; omega
  obtain ⟨b, hb⟩ : ∃ b, Hid (fltB s0a s0b = b) := ⟨_, rfl⟩
  obtain ⟨er, her⟩ : ∃ er, Hid (errK s0a s0b l1 = er) := ⟨_, rfl⟩
  obtain ⟨CB, hCB⟩ : ∃ CB : Run → Run → Bool, Hid (∀ a b, canB s0a s0b a b = CB a b) := ⟨_, fun _ _ => rfl⟩
  clear ws0a ws0b ft1 ge1 mx1
  go_enter Try.func4, Try.ntmps4
  go_wp2_with fail
  refine (awake20 _).mono ?_
  rintro e w1 ⟨rfl, b1⟩
  have z0 : w1.cell? ⟨w.heap.size, 0, none⟩ = some (.int .i64 s0a) := (b1.cell (p := ⟨w.heap.size, 0, none⟩) (by simp)).trans (by first | rfl | simp)
  have z1 : w1.cell? ⟨w.heap.size, 1, none⟩ = some (.int .i64 s0b) := (b1.cell (p := ⟨w.heap.size, 1, none⟩) (by simp)).trans (by first | rfl | simp)
  have bw : Below w.heap.size w w1 := ((Below.refl _ _).alloc (Nat.le_refl _) _).trans (b1.mono (by simp))
  have hs : w.heap.size < w1.heap.size := Nat.lt_of_lt_of_le (by simp) b1.size
  have hR : Rd three 3 w1 A1 n1 l1 := rd1.below bw (Nat.le_refl _)
  clear b1 rd1
  by_cases hl : 2100 < n1
  · go_wp2_with fail
    go_ret
    exact ⟨rfl, bw⟩
  go_wp2_with fail
  refine (goKeep s0a s0b A1 n1 c1 l1 _ hR hm).mono ?_
  rintro e w2 ⟨AK, NK, CK, rfl, rK, b2⟩
  rw [her.out]
  have z0' := (b2.cell (p := ⟨w.heap.size, 0, none⟩) hs).trans z0
  have z1' := (b2.cell (p := ⟨w.heap.size, 1, none⟩) hs).trans z1
  have hR2 := hR.below b2 (Nat.le_refl _)
  have hs2 := b2.size
  clear z0 z1
  go_wp2_with fail
  refine (goDropped s0a s0b A1 n1 c1 l1 _ hR2 hm).mono ?_
  rintro e w3 ⟨AD, ND, CD, rfl, rD, b3⟩
  rw [her.out]
  have z0 := (b3.cell (p := ⟨w.heap.size, 0, none⟩) (by show w.heap.size < _; omega)).trans z0'
  have z1 := (b3.cell (p := ⟨w.heap.size, 1, none⟩) (by show w.heap.size < _; omega)).trans z1'
  have hR3 := hR2.below b3 (Nat.le_refl _)
  have hs3 := b3.size
  clear z0' z1'
  go_wp2_with fail
  refine (refKeep s0a s0b A1 n1 c1 l1 _ hR3 hm).mono ?_
  rintro e w4 ⟨AW, NW, CW, AX, NX, CX, rfl, rW, rX, b4⟩
  rw [her.out]
  have z0' := (b4.cell (p := ⟨w.heap.size, 0, none⟩) (by show w.heap.size < _; omega)).trans z0
  have z1' := (b4.cell (p := ⟨w.heap.size, 1, none⟩) (by show w.heap.size < _; omega)).trans z1
  have hR4 := hR3.below b4 (Nat.le_refl _)
  have hs4 := b4.size
  have bw4 : Below w.heap.size w w4 := ((bw.trans (b2.mono bw.size)).trans (b3.mono (by omega))).trans (b4.mono (by omega))
  have rK4 := (rK.below b3 (Nat.le_refl _)).below b4 (Nat.le_refl _)
  have rD4 := rD.below b4 (Nat.le_refl _)
  clear z0 z1 rK rD hR hR2 hR3 b2 b3 b4 bw
  have NK1 : NK ≤ 9223372036854775807 := by have := rK4.1; have := keptL_len s0a s0b l1; omega
  have ND1 : ND ≤ 9223372036854775807 := by have := rD4.1; have := dropI_len s0a s0b l1; omega
  have f0 : ∀ t : Later w4, t.w.cell? ⟨w.heap.size, 0, none⟩ = some (.int .i64 s0a) := fun t => Later.cell z0' t
  have f1 : ∀ t : Later w4, t.w.cell? ⟨w.heap.size, 1, none⟩ = some (.int .i64 s0b) := fun t => Later.cell z1' t
  have RK : Hid (∀ t : Later w4, Rd three 3 t.w AK NK (keptL s0a s0b l1)) := fun t => rK4.below t.below (Nat.le_refl _)
  have RW : Hid (∀ t : Later w4, Rd three 3 t.w AW NW (keptL s0a s0b l1)) := fun t => rW.below t.below (Nat.le_refl _)
  have RD : Hid (∀ t : Later w4, Rd one 1 t.w AD ND (dropI s0a s0b l1)) := fun t => rD4.below t.below (Nat.le_refl _)
  have RX : Hid (∀ t : Later w4, Rd one 1 t.w AX NX (dropI s0a s0b l1)) := fun t => rX.below t.below (Nat.le_refl _)
  clear rK4 rW rD4 rX
  go_wp2_with fail
  refine wp_region_later (by kernel_rfl) (by kernel_rfl) ?_
  all_goals
    repeat (go_big_quiet_step (first
      | (go_at_call 18; exact calls_later (goFlt_b s0a s0b _ hb.out _))
      | (go_at_call 19; exact calls_later (refFlt_b s0a s0b _ hb.out _))
      | (go_at_call 20; exact calls_later (same_self AK AW NK CK NW CW _ _ (RK.out _) (RW.out _) NK1))
      | (go_at_call 21; exact calls_later (sameI_self AD AX ND CD NX CX _ _ (RD.out _) (RX.out _) ND1))))
    refine wpQuiet_nil ?_
    rintro w5 ⟨t, rfl⟩
    have b5 := t.below
    generalize t.w = w5 at b5 ⊢
    clear f0 f1 RK RW RD RX t
    have z0 := (b5.cell (p := ⟨w.heap.size, 0, none⟩) (by show w.heap.size < _; omega)).trans z0'
    have z1 := (b5.cell (p := ⟨w.heap.size, 1, none⟩) (by show w.heap.size < _; omega)).trans z1'
    have hR := hR4.below b5 (Nat.le_refl _)
    have hs5 := b5.size
    have bw5 : Below w.heap.size w w5 := bw4.trans (b5.mono (by omega))
    have h5 : w.heap.size < w5.heap.size := by omega
    clear z0' z1' hR4 b5 bw4
    go_wp2_with fail
    go_loopw [12] (fun i wr => ∃ k : Nat, k + 1 ≤ 20 ∧ i = .int .i64 ((k : Int) + 1) ∧ Below w5.heap.size w5 wr) (fun i _ => 20 - (intOf i).toNat)
    case atStart => exact ⟨0, by omega, rfl, Below.refl _ _⟩
    case round =>
      obtain ⟨k, hk, rfl, hb2⟩ := hrel
      have hsz := hb2.size
      by_cases hlt : k + 1 < n1
      · by_cases h20 : k + 1 < 20
        · obtain ⟨x, y, z, bb, off, hA, hx, hd0, hd1, hd2⟩ := (hR.below hb2 (Nat.le_refl _)).at3 hlt
          subst hA
          obtain ⟨x', y', z', b', off', hA', hx', hp0, hp1, hp2⟩ := (hR.below hb2 (Nat.le_refl _)).at3 (k := k) (by omega)
          obtain ⟨rfl, rfl⟩ : bb = b' ∧ off = off' := by simpa using hA'
          obtain ⟨x0, y0, z0_, b', off', hA', hx0, hq0, hq1, hq2⟩ := (hR.below hb2 (Nat.le_refl _)).hd3 (by omega)
          obtain ⟨rfl, rfl⟩ : bb = b' ∧ off = off' := by simpa using hA'
          clear hA'
          have d0 : ∀ t : Later wr, t.w.cell? ⟨bb, off + (k + 1) * 3, none⟩ = some (.int .i64 x) := fun t => Later.cell hd0 t
          have d1 : ∀ t : Later wr, t.w.cell? ⟨bb, off + (k + 1) * 3 + 1, none⟩ = some (.int .i64 y) := fun t => Later.cell hd1 t
          have d2 : ∀ t : Later wr, t.w.cell? ⟨bb, off + (k + 1) * 3 + 2, none⟩ = some (.int .i64 z) := fun t => Later.cell hd2 t
          have p0 : ∀ t : Later wr, t.w.cell? ⟨bb, off + k * 3, none⟩ = some (.int .i64 x') := fun t => Later.cell hp0 t
          have p1 : ∀ t : Later wr, t.w.cell? ⟨bb, off + k * 3 + 1, none⟩ = some (.int .i64 y') := fun t => Later.cell hp1 t
          have p2 : ∀ t : Later wr, t.w.cell? ⟨bb, off + k * 3 + 2, none⟩ = some (.int .i64 z') := fun t => Later.cell hp2 t
          have q0 : ∀ t : Later wr, t.w.cell? ⟨bb, off, none⟩ = some (.int .i64 x0) := fun t => Later.cell hq0 t
          have q1 : ∀ t : Later wr, t.w.cell? ⟨bb, off + 1, none⟩ = some (.int .i64 y0) := fun t => Later.cell hq1 t
          have q2 : ∀ t : Later wr, t.w.cell? ⟨bb, off + 2, none⟩ = some (.int .i64 z0_) := fun t => Later.cell hq2 t
          have f0 : ∀ t : Later wr, t.w.cell? ⟨w.heap.size, 0, none⟩ = some (.int .i64 s0a) := fun t => Later.cell ((hb2.cell (p := ⟨w.heap.size, _, none⟩) h5).trans z0) t
          have f1 : ∀ t : Later wr, t.w.cell? ⟨w.heap.size, 1, none⟩ = some (.int .i64 s0b) := fun t => Later.cell ((hb2.cell (p := ⟨w.heap.size, _, none⟩) h5).trans z1) t
          have wk0 : (0 : Int) ≤ k := by omega
          have wk1 : (k : Int) < n1 := by omega
          have wk2 : (k : Int) + 1 < n1 := by omega
          have wn : (0 : Int) < n1 := by omega
          have WJ : Hid (IntKind.i64.wrap (k : Int) = (k : Int)) := IntWalk.i64_in _ (by omega)
          clear hd0 hd1 hd2 hp0 hp1 hp2 hq0 hq1 hq2
          go_wp2_with fail
          refine wp_region_later (by kernel_rfl) (by kernel_rfl) ?_
          have wj := WJ.out
          all_goals
            repeat (go_big_quiet_step (first
              | (go_at_call 22; exact calls_later (goCan_is s0a s0b _ _ _ _ _ _ _ (hCB.out _ _) _))
              | (go_at_call 23; exact calls_later (refCan_is s0a s0b _ _ _ _ _ _ _ (hCB.out _ _) _))))
            refine wpQuiet_nil ?_
            rintro w6 ⟨t, rfl⟩
            have hb3 := t.below
            generalize t.w = w6 at hb3 ⊢
            clear d0 d1 d2 p0 p1 p2 q0 q1 q2 f0 f1 t wj
            go_wp2
            go_roundw
            case rel => exact ⟨k + 1, by omega, by go_num, hb2.trans (hb3.mono hsz)⟩
            case measure => simp [intOf]; omega
        · have hk20 : k = 19 := by omega
          subst hk20
          go_wp2
          go_ret
          exact ⟨rfl, bw5.trans (hb2.mono bw5.size)⟩
      · go_wp2
        go_ret
        exact ⟨rfl, bw5.trans (hb2.mono bw5.size)⟩
end Go.Proofs.Ytgaonfeljijebaa.cleanKeepsWalk
