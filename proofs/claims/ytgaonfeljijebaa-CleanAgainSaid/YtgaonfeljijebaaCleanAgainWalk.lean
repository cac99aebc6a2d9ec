/-
  The law CleanAgain returns true, for every filter and every trace, and leaves what was there as it was. No conditions but the arguments' readings.
-/
import Derived.Test.YtgaonfeljijebaaCleanQ
namespace Go.Proofs.Ytgaonfeljijebaa.cleanAgainWalk
open Go.ChangeShapes Go.WideShapes Go.ChangeAt Go.RowKit
set_option linter.unusedVariables false

set_option maxRecDepth 100000 in
set_option maxHeartbeats 4000000 in
theorem walk (s0a s0b : Int) (A1 : Option Addr) (n1 c1 : Nat) (l1 : List (Int × Int × Int)) (w : World) (ws0a : Fits s0a) (ws0b : Fits s0b) (rd1 : Rd three 3 w A1 n1 l1) (ft1 : ∀ r ∈ l1, ∀ v ∈ three r, Fits v) (ge1 : n1 ≤ c1) (mx1 : c1 ≤ maxLen) :
    Calls Try.prog 5 #[.agg #[.int .i64 s0a, .int .i64 s0b], .slice A1 n1 c1] w fun e w' => e = .returned (.bool true) ∧ Below w.heap.size w w' := by
  have hm : n1 ≤ 9223372036854775807 := by unfold maxLen at mx1; omega
  obtain ⟨er, her⟩ : ∃ er, Hid (errK s0a s0b l1 = er) := ⟨_, rfl⟩
  clear ws0a ws0b ft1 ge1 mx1
  go_enter Try.func5, Try.ntmps5
  go_wp2_with fail
  refine (awake20 _).mono ?_
  rintro e w1 ⟨rfl, b1⟩
  have z0 : w1.cell? ⟨w.heap.size, 0, none⟩ = some (.int .i64 s0a) := (b1.cell (p := ⟨w.heap.size, 0, none⟩) (by simp)).trans (by first | rfl | simp)
  have z1 : w1.cell? ⟨w.heap.size, 1, none⟩ = some (.int .i64 s0b) := (b1.cell (p := ⟨w.heap.size, 1, none⟩) (by simp)).trans (by first | rfl | simp)
  have bw : Below w.heap.size w w1 := ((Below.refl _ _).alloc (Nat.le_refl _) _).trans (b1.mono (by simp))
  have hs : w.heap.size < w1.heap.size := Nat.lt_of_lt_of_le (by simp) b1.size
  have hR : Rd three 3 w1 A1 n1 l1 := rd1.below bw (Nat.le_refl _)
  clear b1 rd1
  by_cases hl : 500 < n1
  · go_wp2_with fail
    go_ret
    exact ⟨rfl, bw⟩
  go_wp2_with fail
  refine (goKeep s0a s0b A1 n1 c1 l1 _ hR hm).mono ?_
  rintro e w2 ⟨AK, NK, CK, rfl, rK, b2⟩
  rw [her.out]
  have z0' := (b2.cell (p := ⟨w.heap.size, 0, none⟩) hs).trans z0
  have z1' := (b2.cell (p := ⟨w.heap.size, 1, none⟩) hs).trans z1
  have hR2 := hR.below b2 (Nat.le_refl _)
  have hs2 := b2.size
  clear z0 z1
  go_wp2_with fail
  refine (goDropped s0a s0b A1 n1 c1 l1 _ hR2 hm).mono ?_
  rintro e w3 ⟨AD, ND, CD, rfl, rD, b3⟩
  rw [her.out]
  have z0 := (b3.cell (p := ⟨w.heap.size, 0, none⟩) (by show w.heap.size < _; omega)).trans z0'
  have z1 := (b3.cell (p := ⟨w.heap.size, 1, none⟩) (by show w.heap.size < _; omega)).trans z1'
  have hR3 := hR2.below b3 (Nat.le_refl _)
  have rK3 := rK.below b3 (Nat.le_refl _)
  have hs3 := b3.size
  have bw3 : Below w.heap.size w w3 := (bw.trans (b2.mono bw.size)).trans (b3.mono (by omega))
  clear z0' z1' rK hR hR2 b2 b3 bw
  have NK1 : NK ≤ 2048 := by have := rK3.1; have := keptL_len s0a s0b l1; omega
  have ND1 : ND ≤ 2048 := by have := rD.1; have := dropI_len s0a s0b l1; omega
  by_cases he : er = 0
  · subst he
    have HE : Hid (errK s0a s0b l1 = 0) := her
    have hsum : NK + ND = n1 := by have := kept_sum HE.out; have := rK3.1; have := rD.1; have := hR3.1; omega
    clear rD
    go_wp2_with fail
    refine (goKeep s0a s0b AK NK CK _ _ rK3 (by omega)).mono ?_
    rw [again_kept HE.out, again_err HE.out]
    rintro e w4 ⟨AG, NG, CG, rfl, rG, b4⟩
    have z0' := (b4.cell (p := ⟨w.heap.size, 0, none⟩) (by show w.heap.size < _; omega)).trans z0
    have z1' := (b4.cell (p := ⟨w.heap.size, 1, none⟩) (by show w.heap.size < _; omega)).trans z1
    have hR4 := hR3.below b4 (Nat.le_refl _)
    have rK4 := rK3.below b4 (Nat.le_refl _)
    have hs4 := b4.size
    clear z0 z1
    go_wp2_with fail
    refine (goDropped s0a s0b AK NK CK _ _ rK4 (by omega)).mono ?_
    rw [again_drop HE.out, again_err HE.out]
    rintro e w5 ⟨AN, NN, CN, rfl, rN, b5⟩
    obtain rfl : NN = 0 := rN.1
    have z0 := (b5.cell (p := ⟨w.heap.size, 0, none⟩) (by show w.heap.size < _; omega)).trans z0'
    have z1 := (b5.cell (p := ⟨w.heap.size, 1, none⟩) (by show w.heap.size < _; omega)).trans z1'
    have hR5 := hR4.below b5 (Nat.le_refl _)
    have rK5 := rK4.below b5 (Nat.le_refl _)
    have rG5 := rG.below b5 (Nat.le_refl _)
    have hs5 := b5.size
    have bw5 : Below w.heap.size w w5 := (bw3.trans (b4.mono (by omega))).trans (b5.mono (by omega))
    clear z0' z1' rN hR4 hR3 rK4 rK3 rG b4 b5 bw3
    obtain rfl : n1 = NK + ND := hsum.symm
    clear hsum
    go_wp2_with fail
    refine (same_self AG AK NG CG NK CK _ _ rG5 rK5 (by have := rG5.1; have := rK5.1; omega)).mono ?_
    rintro e w6 ⟨rfl, b6⟩
    have z0' := (b6.cell (p := ⟨w.heap.size, 0, none⟩) (by show w.heap.size < _; omega)).trans z0
    have z1' := (b6.cell (p := ⟨w.heap.size, 1, none⟩) (by show w.heap.size < _; omega)).trans z1
    have hR := hR5.below b6 (Nat.le_refl _)
    have rK := rK5.below b6 (Nat.le_refl _)
    have hs6 := b6.size
    have bw6 : Below w.heap.size w w6 := bw5.trans (b6.mono (by omega))
    have h6 : w.heap.size < w6.heap.size := by omega
    clear z0 z1 hR5 rK5 rG5 b6 bw5
    go_wp2_with fail
    go_loopw [13] (fun i wr => ∃ k : Nat, k ≤ NK ∧ i = .int .i64 ((k : Int) + 1) ∧ Below w6.heap.size w6 wr) (fun i _ => NK + 1 - (intOf i).toNat)
    case atStart => exact ⟨0, Nat.zero_le _, rfl, Below.refl _ _⟩
    case round =>
      obtain ⟨k, hk, rfl, hb2⟩ := hrel
      have hsz := hb2.size
      by_cases hlt : k + 1 < NK
      · obtain ⟨x, y, z, bb, off, hA, hx, hd0, hd1, hd2⟩ := (rK.below hb2 (Nat.le_refl _)).at3 hlt
        subst hA
        obtain ⟨x', y', z', b', off', hA', hx', hp0, hp1, hp2⟩ := (rK.below hb2 (Nat.le_refl _)).at3 (k := k) (by omega)
        obtain ⟨rfl, rfl⟩ : bb = b' ∧ off = off' := by simpa using hA'
        clear hA'
        have HC := Lib.hid (kept_link HE.out hx'.out hx.out).1
        have hgap : ¬ x - x' < s0b := by have := (kept_link HE.out hx'.out hx.out).2.1; simp only at this; omega
        have dg : decide (x - x' < s0b) = false := decide_eq_false hgap
        obtain ⟨x0, x1, _⟩ := mayB_iff.1 (kept_may HE.out hx.out)
        obtain ⟨x0', x1', _⟩ := mayB_iff.1 (kept_may HE.out hx'.out)
        have d0 : ∀ t : Later wr, t.w.cell? ⟨bb, off + (k + 1) * 3, none⟩ = some (.int .i64 x) := fun t => Later.cell hd0 t
        have d1 : ∀ t : Later wr, t.w.cell? ⟨bb, off + (k + 1) * 3 + 1, none⟩ = some (.int .i64 y) := fun t => Later.cell hd1 t
        have d2 : ∀ t : Later wr, t.w.cell? ⟨bb, off + (k + 1) * 3 + 2, none⟩ = some (.int .i64 z) := fun t => Later.cell hd2 t
        have p0 : ∀ t : Later wr, t.w.cell? ⟨bb, off + k * 3, none⟩ = some (.int .i64 x') := fun t => Later.cell hp0 t
        have p1 : ∀ t : Later wr, t.w.cell? ⟨bb, off + k * 3 + 1, none⟩ = some (.int .i64 y') := fun t => Later.cell hp1 t
        have p2 : ∀ t : Later wr, t.w.cell? ⟨bb, off + k * 3 + 2, none⟩ = some (.int .i64 z') := fun t => Later.cell hp2 t
        have f0 : ∀ t : Later wr, t.w.cell? ⟨w.heap.size, 0, none⟩ = some (.int .i64 s0a) := fun t => Later.cell ((hb2.cell (p := ⟨w.heap.size, _, none⟩) h6).trans z0') t
        have f1 : ∀ t : Later wr, t.w.cell? ⟨w.heap.size, 1, none⟩ = some (.int .i64 s0b) := fun t => Later.cell ((hb2.cell (p := ⟨w.heap.size, _, none⟩) h6).trans z1') t
        have wk0 : (0 : Int) ≤ k := by omega
        have wk1 : (k : Int) < NK := by omega
        have wk2 : (k : Int) + 1 < NK := by omega
        have WJ : Hid (IntKind.i64.wrap (k : Int) = (k : Int)) := IntWalk.i64_in _ (by omega)
        clear hd0 hd1 hd2 hp0 hp1 hp2
        go_wp2_with fail
        refine wp_region_later (by kernel_rfl) (by kernel_rfl) ?_
        have wj := WJ.out
        repeat (go_big_quiet_step ((go_at_call 22; exact calls_later (goCan_is s0a s0b x' y' z' x y z true HC.out _))))
        refine wpQuiet_nil ?_
        rintro w7 ⟨t, rfl⟩
        have hb3 := t.below
        generalize t.w = w7 at hb3 ⊢
        clear d0 d1 d2 p0 p1 p2 f0 f1 t wj
        go_wp2
        go_roundw
        case rel => exact ⟨k + 1, by omega, by go_num, hb2.trans (hb3.mono hsz)⟩
        case measure => simp [intOf]; omega
      · go_wp2_with fail
        have hRr := hR.below hb2 (Nat.le_refl _)
        have rKr := rK.below hb2 (Nat.le_refl _)
        by_cases hn0 : NK + ND = 0
        · obtain rfl : NK = 0 := by omega
          obtain rfl : ND = 0 := by omega
          have wn : ¬ (0 : Int) < 0 := by omega
          refine wp_region_later (by kernel_rfl) (by kernel_rfl) ?_
          repeat (go_big_quiet_step (fail))
          refine wpQuiet_nil ?_
          rintro w7 ⟨t, rfl⟩
          have hb3 := t.below
          generalize t.w = w7 at hb3 ⊢
          clear t
          go_wp2_with fail
          go_loopw [144, 14] (fun i v14 wr2 => i = .int .i64 0 ∧ v14 = .int .i64 0 ∧ Below w7.heap.size w7 wr2) (fun _ _ _ => 0)
          case atStart => exact ⟨rfl, rfl, Below.refl _ _⟩
          case round =>
            obtain ⟨rfl, rfl, hb4⟩ := hrel
            go_wp2
            go_ret
            exact ⟨rfl, bw6.trans ((hb2.trans (hb3.mono hsz)).mono (by omega) |>.trans (hb4.mono (by have := hb3.size; omega)))⟩
        · obtain ⟨x, y, z, bb, off, hA, hx, hd0, hd1, hd2⟩ := hRr.hd3 (by omega)
          subst hA
          have hkh := kept_head HE.out hx.out
          have hK0 : 0 < NK := by have := (List.getElem?_eq_some_iff.1 hkh).1; have := rK.1; omega
          obtain ⟨x', y', z', b', off', hA', hx', hp0, hp1, hp2⟩ := rKr.hd3 hK0
          subst hA'
          obtain ⟨rfl, rfl, rfl⟩ : x = x' ∧ y = y' ∧ z = z' := by have := hkh.symm.trans hx'.out; simpa using this
          have d0 : ∀ t : Later wr, t.w.cell? ⟨bb, off, none⟩ = some (.int .i64 x) := fun t => Later.cell hd0 t
          have d1 : ∀ t : Later wr, t.w.cell? ⟨bb, off + 1, none⟩ = some (.int .i64 y) := fun t => Later.cell hd1 t
          have d2 : ∀ t : Later wr, t.w.cell? ⟨bb, off + 2, none⟩ = some (.int .i64 z) := fun t => Later.cell hd2 t
          have p0 : ∀ t : Later wr, t.w.cell? ⟨b', off', none⟩ = some (.int .i64 x) := fun t => Later.cell hp0 t
          have p1 : ∀ t : Later wr, t.w.cell? ⟨b', off' + 1, none⟩ = some (.int .i64 y) := fun t => Later.cell hp1 t
          have p2 : ∀ t : Later wr, t.w.cell? ⟨b', off' + 2, none⟩ = some (.int .i64 z) := fun t => Later.cell hp2 t
          have wn : (0 : Int) < (NK : Int) + ND := by omega
          have wK : (0 : Int) < NK := by omega
          have bK : ((NK : Int) == 0) = false := by simp; omega
          refine wp_region_later (by kernel_rfl) (by kernel_rfl) ?_
          repeat (go_big_quiet_step (fail))
          refine wpQuiet_nil ?_
          rintro w7 ⟨t, rfl⟩
          have hb3 := t.below
          generalize t.w = w7 at hb3 ⊢
          have hb7 : Below w6.heap.size w6 w7 := hb2.trans (hb3.mono hsz)
          clear d0 d1 d2 p0 p1 p2 t hb3 hkh hx hx' hd0 hd1 hd2 hp0 hp1 hp2 hRr rKr
          have hR7 := hR.below hb7 (Nat.le_refl _)
          have rK7 := rK.below hb7 (Nat.le_refl _)
          have hs7 := hb7.size
          have bw7 := bw6.trans (hb7.mono (by omega))
          have HL : Hid (l1.length = NK + ND) := hR.1.symm
          have HK : Hid ((keptL s0a s0b l1).length = NK) := rK.1.symm
          clear hb7 hb2 hR rK
          go_wp2_with fail
          go_loopw [144, 14] (fun i v14 wr2 => ∃ k : Nat, k ≤ NK + ND ∧ i = .int .i64 k ∧ Hid (v14 = .int .i64 (ahead s0a s0b l1 k : Nat)) ∧ Hid (ahead s0a s0b l1 k ≤ NK) ∧ Below w7.heap.size w7 wr2) (fun i _ _ => NK + ND - (intOf i).toNat)
          case atStart => exact ⟨0, Nat.zero_le _, rfl, rfl, Nat.zero_le _, Below.refl _ _⟩
          case round =>
            clear hlt hk
            obtain ⟨i, hi, rfl, hv, hle, hb4⟩ := hrel
            obtain rfl := hv.out
            have hsz4 := hb4.size
            by_cases hlt : i < NK + ND
            · obtain ⟨x, y, z, b2, off2, hA, hx, hd0, hd1, hd2⟩ := (hR7.below hb4 (Nat.le_refl _)).at3 hlt
              obtain ⟨rfl, rfl⟩ : bb = b2 ∧ off = off2 := by simpa using hA
              clear hA
              have hsb : wr.heap.size ≤ (wr.alloc (.cells #[.int .i64 x, .int .i64 y, .int .i64 z] 46)).heap.size := by simp
              have BA : Hid (Below wr.heap.size wr (wr.alloc (.cells #[.int .i64 x, .int .i64 y, .int .i64 z] 46))) := (Below.refl wr.heap.size wr).alloc (Nat.le_refl _) _
              have hbb : Below w7.heap.size w7 (wr.alloc (.cells #[.int .i64 x, .int .i64 y, .int .i64 z] 46)) := hb4.alloc hsz4 _
              have hszb := hbb.size
              have e0 : ∀ t : Later (wr.alloc (.cells #[.int .i64 x, .int .i64 y, .int .i64 z] 46)), t.w.cell? ⟨wr.heap.size, 0, none⟩ = some (.int .i64 x) := fun t => Later.cell (by first | rfl | simp) t
              have e1 : ∀ t : Later (wr.alloc (.cells #[.int .i64 x, .int .i64 y, .int .i64 z] 46)), t.w.cell? ⟨wr.heap.size, 1, none⟩ = some (.int .i64 y) := fun t => Later.cell (by first | rfl | simp) t
              have e2 : ∀ t : Later (wr.alloc (.cells #[.int .i64 x, .int .i64 y, .int .i64 z] 46)), t.w.cell? ⟨wr.heap.size, 2, none⟩ = some (.int .i64 z) := fun t => Later.cell (by first | rfl | simp) t
              obtain ⟨P, hP⟩ : ∃ P, Hid (ahead s0a s0b l1 i = P) := ⟨_, rfl⟩
              rw [hP.out]
              have hPle : P ≤ NK := by rw [← hP.out]; exact hle.out
              have wP0 : (0 : Int) ≤ P := by omega
              rcases hok : okK s0a s0b l1 (kd s0a s0b l1 i).1 i with _ | _
              · have HS : Hid (ahead s0a s0b l1 (i + 1) = P) := by show _ = _; rw [ahead_same hok, hP.out]
                by_cases hPK : P < NK
                · have HNO := Lib.hid (fun b hb => ahead_no (b := b) HE.out hx.out hok hb)
                  rw [hP.out] at HNO
                  obtain ⟨x', y', z', b3, off3, hA, hx', hp0, hp1, hp2⟩ := (rK7.below hb4 (Nat.le_refl _)).at3 (k := P) hPK
                  obtain ⟨rfl, rfl⟩ : b' = b3 ∧ off' = off3 := by simpa using hA
                  clear hA
                  have hlt' := HNO.out _ hx'.out
                  have hb' : (x' == x) = false := by have hlt' : x < x' := hlt'; simp; omega
                  have wPK : (P : Int) < NK := by omega
                  have p0 : ∀ t : Later (wr.alloc (.cells #[.int .i64 x, .int .i64 y, .int .i64 z] 46)), t.w.cell? ⟨b', off' + P * 3, none⟩ = some (.int .i64 x') := fun t => Later.cell ((BA.out.cell (p := ⟨b', _, none⟩) (lt_of_cell hp0)).trans hp0) t
                  have p1 : ∀ t : Later (wr.alloc (.cells #[.int .i64 x, .int .i64 y, .int .i64 z] 46)), t.w.cell? ⟨b', off' + P * 3 + 1, none⟩ = some (.int .i64 y') := fun t => Later.cell ((BA.out.cell (p := ⟨b', _, none⟩) (lt_of_cell hp1)).trans hp1) t
                  have p2 : ∀ t : Later (wr.alloc (.cells #[.int .i64 x, .int .i64 y, .int .i64 z] 46)), t.w.cell? ⟨b', off' + P * 3 + 2, none⟩ = some (.int .i64 z') := fun t => Later.cell ((BA.out.cell (p := ⟨b', _, none⟩) (lt_of_cell hp2)).trans hp2) t
                  clear hp0 hp1 hp2 hok HNO hlt'
                  go_wp2_with fail
                  refine wp_region_later (by kernel_rfl) (by kernel_rfl) ?_
                  repeat (go_big_quiet_step (fail))
                  refine wpQuiet_nil ?_
                  rintro w8 ⟨t, rfl⟩
                  have hb5 := t.below
                  generalize t.w = w8 at hb5 ⊢
                  clear e0 e1 e2 p0 p1 p2 t
                  go_wp2
                  go_roundw
                  case rel => exact ⟨i + 1, by omega, by go_num, by show _ = _; rw [HS.out], by show _ ≤ _; rw [HS.out]; exact hPle, hbb.trans (hb5.mono hszb)⟩
                  case measure => simp [intOf]; omega
                · have wPK : ¬ (P : Int) < NK := by omega
                  clear hok
                  go_wp2_with fail
                  refine wp_region_later (by kernel_rfl) (by kernel_rfl) ?_
                  repeat (go_big_quiet_step (fail))
                  refine wpQuiet_nil ?_
                  rintro w8 ⟨t, rfl⟩
                  have hb5 := t.below
                  generalize t.w = w8 at hb5 ⊢
                  clear e0 e1 e2 t
                  go_wp2
                  go_roundw
                  case rel => exact ⟨i + 1, by omega, by go_num, by show _ = _; rw [HS.out], by show _ ≤ _; rw [HS.out]; exact hPle, hbb.trans (hb5.mono hszb)⟩
                  case measure => simp [intOf]; omega
              · have hy := ahead_yes HE.out hx.out hok
                rw [hP.out] at hy
                have hPK : P < NK := by have := (List.getElem?_eq_some_iff.1 hy.1).1; have := HK.out; omega
                have HS := Lib.hid hy.2
                obtain ⟨x', y', z', b3, off3, hA, hx', hp0, hp1, hp2⟩ := (rK7.below hb4 (Nat.le_refl _)).at3 (k := P) hPK
                obtain ⟨rfl, rfl⟩ : b' = b3 ∧ off' = off3 := by simpa using hA
                clear hA
                obtain ⟨rfl, rfl, rfl⟩ : x = x' ∧ y = y' ∧ z = z' := by have := hy.1.symm.trans hx'.out; simpa using this
                have wPK : (P : Int) < NK := by omega
                have p0 : ∀ t : Later (wr.alloc (.cells #[.int .i64 x, .int .i64 y, .int .i64 z] 46)), t.w.cell? ⟨b', off' + P * 3, none⟩ = some (.int .i64 x) := fun t => Later.cell ((BA.out.cell (p := ⟨b', _, none⟩) (lt_of_cell hp0)).trans hp0) t
                have p1 : ∀ t : Later (wr.alloc (.cells #[.int .i64 x, .int .i64 y, .int .i64 z] 46)), t.w.cell? ⟨b', off' + P * 3 + 1, none⟩ = some (.int .i64 y) := fun t => Later.cell ((BA.out.cell (p := ⟨b', _, none⟩) (lt_of_cell hp1)).trans hp1) t
                have p2 : ∀ t : Later (wr.alloc (.cells #[.int .i64 x, .int .i64 y, .int .i64 z] 46)), t.w.cell? ⟨b', off' + P * 3 + 2, none⟩ = some (.int .i64 z) := fun t => Later.cell ((BA.out.cell (p := ⟨b', _, none⟩) (lt_of_cell hp2)).trans hp2) t
                clear hp0 hp1 hp2 hok hy
                go_wp2_with fail
                refine wp_region_later (by kernel_rfl) (by kernel_rfl) ?_
                repeat (go_big_quiet_step (fail))
                refine wpQuiet_nil ?_
                rintro w8 ⟨t, rfl⟩
                have hb5 := t.below
                generalize t.w = w8 at hb5 ⊢
                clear e0 e1 e2 p0 p1 p2 t
                go_wp2
                go_roundw
                case rel => exact ⟨i + 1, by omega, by go_num, by show _ = _; rw [HS.out]; go_num, by show _ ≤ _; rw [HS.out]; omega, hbb.trans (hb5.mono hszb)⟩
                case measure => simp [intOf]; omega
            · have hin : i = NK + ND := by omega
              have hend : Hid (ahead s0a s0b l1 i = NK) := by show _ = _; rw [hin, ← HL.out, ahead_end HE.out, HK.out]
              rw [hend.out]
              go_wp2_with fail
              go_ret
              exact ⟨rfl, bw7.trans (hb4.mono (by omega))⟩
  · have HN := kept_none (s := s0a) (g := s0b) (l := l1) (by rw [her.out]; exact he)
    rw [HN.1] at rK3
    rw [HN.2] at rD
    obtain rfl : NK = 0 := rK3.1
    obtain rfl : ND = 0 := rD.1
    clear HN rK3 rD
    have b0 : (er == 0) = false := by simpa using he
    go_wp2_with fail
    go_ret
    exact ⟨rfl, bw3⟩
end Go.Proofs.Ytgaonfeljijebaa.cleanAgainWalk
