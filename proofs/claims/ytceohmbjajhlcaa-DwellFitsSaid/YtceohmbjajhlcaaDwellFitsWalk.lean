/-
  The law DwellFits returns true, for every list of stops, every list of samples and every two times to last, and leaves what was there as it was. No conditions but the arguments' readings.
-/
import Derived.Test.YtceohmbjajhlcaaDwellF
import Derived.Test.YtceohmbjajhlcaaDwellRunsWalk
import Derived.Test.YtceohmbjajhlcaaDwellTellsWalk
namespace Go.Proofs.Ytceohmbjajhlcaa.dwellFitsWalk
open Go.ChangeShapes Go.WideShapes Go.ChangeAt Go.RowKit
set_option linter.unusedVariables false

theorem step_in {st : List Int} {l : List Run} {n i kk : Nat} (h : Rise l n) (hi : i < n) (hk : kk = if i = 0 then 0 else kx st l (i - 1)) :
    ∃ r r' : Run, (runsTo st l n)[kk]? = some r ∧ (runsTo st l n)[kx st l i]? = some r' ∧ r'.1 = St st i ∧ r'.2.1 ≤ Tm l i ∧ Tm l i ≤ r'.2.2 ∧ ((Tm l i ≤ r.2.2 ∧ kx st l i = kk) ∨ (r.2.2 < Tm l i ∧ kx st l i = kk + 1)) := by
  obtain ⟨m, rfl⟩ : ∃ m, n = m + 1 := ⟨n - 1, by omega⟩
  obtain ⟨r', hr', g1, g2, g3, _, _⟩ := lies (st := st) h m (by omega) i (by omega)
  rcases Nat.eq_zero_or_pos i with rfl | hpos
  · rw [if_pos rfl] at hk
    subst hk
    exact ⟨r', r', hr', hr', g1, g2, g3, .inl ⟨g3, rfl⟩⟩
  · obtain ⟨j, rfl⟩ : ∃ j, i = j + 1 := ⟨i - 1, by omega⟩
    rw [if_neg (by omega), show j + 1 - 1 = j by omega] at hk
    subst hk
    obtain ⟨r, hr, k1, k2, k3, k4, k5⟩ := lies (st := st) h m (by omega) j (by omega)
    refine ⟨r, r', hr, hr', g1, g2, g3, ?_⟩
    by_cases e : St st (j + 1) = St st j
    · exact .inl ⟨k5 (by omega) e, kx_same e⟩
    · have h1 := k4 (by omega) e
      have h2 := h.2 j hi
      exact .inr ⟨by omega, kx_next e⟩

set_option maxRecDepth 100000 in
theorem capped (A0 : Option Addr) (n0 c0 : Nat) (l0 : List Int) (A1 : Option Addr) (n1 c1 : Nat) (s2a s2b : Int) (w : World) (hm0 : n0 ≤ 9223372036854775807) (hm1 : n1 ≤ 9223372036854775807) (h : 200 < n0 ∨ 200 < n1) :
    Calls Try.prog 6 #[.slice A0 n0 c0, .slice A1 n1 c1, .agg #[.int .u16 s2a, .int .u16 s2b]] w fun e w' => e = .returned (.bool true) ∧ Below w.heap.size w w' := by
  by_cases h0 : 200 < n0
  · clear h
    go_enter Try.func6, Try.ntmps6
    go_wp2_with (go_at_call 10; refine (awake24 _).mono ?_; rintro e w1 ⟨rfl, hb⟩)
    go_ret
    exact ⟨rfl, below_boxed hb⟩
  · have h1 : 200 < n1 := by omega
    clear h
    go_enter Try.func6, Try.ntmps6
    go_wp2_with (go_at_call 10; refine (awake24 _).mono ?_; rintro e w1 ⟨rfl, hb⟩)
    go_ret
    exact ⟨rfl, below_boxed hb⟩

set_option maxRecDepth 100000 in
theorem failed (A0 : Option Addr) (n0 c0 : Nat) (l0 : List Int) (A1 : Option Addr) (n1 c1 : Nat) (l1 : List (Int × Int × Int)) (s2a s2b : Int) (w : World) (rd0 : Rd one 1 w A0 n0 l0) (rd1 : Rd three 3 w A1 n1 l1) (h0 : n0 ≤ 200) (h1 : n1 ≤ 200) (hE : errR l0 l1 ≠ 0) :
    Calls Try.prog 6 #[.slice A0 n0 c0, .slice A1 n1 c1, .agg #[.int .u16 s2a, .int .u16 s2b]] w fun e w' => e = .returned (.bool true) ∧ Below w.heap.size w w' := by
  have hm0 : n0 ≤ 9223372036854775807 := by omega
  have hm1 : n1 ≤ 9223372036854775807 := by omega
  have hR : Hid (runsOf l0 l1 = []) := by show _ = _; rw [runsOf, if_neg hE]
  obtain ⟨er, he⟩ : ∃ er, Hid (errR l0 l1 = er) := ⟨_, rfl⟩
  have b0 : (er != 0) = true := by have := he.out; simpa using (fun h => hE (this.trans h))
  clear hE
  go_enter Try.func6, Try.ntmps6
  go_wp2_with fail
  refine (awake24 _).mono ?_
  rintro e w1 ⟨rfl, b1⟩
  have ra := (rd0.alloc (.cells #[.int .u16 s2a, .int .u16 s2b] 44)).below b1 (Nat.le_refl _)
  have rb := (rd1.alloc (.cells #[.int .u16 s2a, .int .u16 s2b] 44)).below b1 (Nat.le_refl _)
  go_wp2_with fail
  refine (goRuns_is hR.out he.out ra rb hm0 hm1).mono ?_
  rintro e w2 ⟨A2, N2, c2, rfl, R2, b2'⟩
  have hN : N2 = 0 := R2.1
  subst hN
  have b2 := b1.trans (b2'.mono b1.size)
  go_wp2_with fail
  go_ret
  exact ⟨rfl, below_boxed b2⟩

set_option maxRecDepth 100000 in
set_option maxHeartbeats 2000000 in
theorem fits (A0 : Option Addr) (n c0 : Nat) (l0 : List Int) (A1 : Option Addr) (c1 : Nat) (l1 : List (Int × Int × Int)) (s2a s2b : Int) (w : World) (rd0 : Rd one 1 w A0 n l0) (rd1 : Rd three 3 w A1 n l1) (h0 : n ≤ 200) (hE : errR l0 l1 = 0) (hS : Sound l0 l1 l1.length)
    (ha0 : 0 ≤ s2a) (ha1 : s2a ≤ 65535) (hb0 : 0 ≤ s2b) (hb1 : s2b ≤ 65535) (hpos : 0 < n) :
    Calls Try.prog 6 #[.slice A0 n c0, .slice A1 n c1, .agg #[.int .u16 s2a, .int .u16 s2b]] w fun e w' => e = .returned (.bool true) ∧ Below w.heap.size w w' := by
  have hm0 : n ≤ 9223372036854775807 := by omega
  have hl := Lib.hid rd1.1
  have hst := Lib.hid rd0.1
  have hRo : Hid (runsOf l0 l1 = runsTo l0 l1 n) := by show _ = _; rw [runsOf, if_pos hE, ← rd1.1]
  have HE := Lib.hid hE
  have rise := rise_of hS
  rw [← hl.out] at rise
  have HR := Lib.hid rise
  have hright : Hid (rightR (runsTo l0 l1 n) = true) := by
    have := runs_rightR (st := l0) (l := l1) (by rw [← hl.out]; exact rise)
    rwa [← hl.out] at this
  obtain ⟨RS, hRS⟩ : ∃ RS, Hid (runsTo l0 l1 n = RS) := ⟨_, rfl⟩
  have hT : Hid (Timed RS) := by have := right_timed hright.out; rw [hRS.out] at this; exact this
  have HTA : Hid (Timely RS ∧ Adj RS) := by
    obtain ⟨m, rfl⟩ : ∃ m, n = m + 1 := ⟨n - 1, by omega⟩
    have := runs_right (st := l0) rise m (by omega)
    rw [hRS.out] at this
    exact this
  have hlen : 0 < RS.length ∧ RS.length ≤ n := by
    rw [← hRS.out]
    obtain ⟨m, rfl⟩ : ∃ m, n = m + 1 := ⟨n - 1, by omega⟩
    exact ⟨by rw [runs_len]; omega, runsTo_len l0 l1 (m + 1)⟩
  obtain ⟨hlen0, hlen1⟩ := hlen
  obtain ⟨ca, hca⟩ := chk_ex RS (min s2a s2b) (RS.length - 1) 0 (by omega) (fun j h1 h2 => absurd h2 (by omega))
  obtain ⟨cb, hcb⟩ := chk_ex RS (max s2a s2b) (RS.length - 1) 0 (by omega) (fun j h1 h2 => absurd h2 (by omega))
  have hab := chk_mono (by omega) hca hcb
  have hpos2 : 2 ≤ RS.length → 1 ≤ ca := chk_pos hca
  have HPO := Lib.hid hpos2
  have HCA := Lib.hid hca
  have HCB := Lib.hid hcb
  clear hE hS rise hca hcb hpos2
  go_enter Try.func6, Try.ntmps6
  go_wp2_with fail
  refine (awake24 _).mono ?_
  rintro e w1 ⟨rfl, b1⟩
  have ra := (rd0.alloc (.cells #[.int .u16 s2a, .int .u16 s2b] 44)).below b1 (Nat.le_refl _)
  have rb := (rd1.alloc (.cells #[.int .u16 s2a, .int .u16 s2b] 44)).below b1 (Nat.le_refl _)
  go_wp2_with fail
  refine (goRuns_is (hRo.out.trans hRS.out) HE.out ra rb hm0 hm0).mono ?_
  rintro e w2 ⟨A2, N, c2, rfl, R2, b2'⟩
  have b2 := b1.trans (b2'.mono b1.size)
  have HN := Lib.hid R2.1
  have hN0 : 0 < N := by have := HN.out; omega
  have hN1 : N ≤ 200 := by have := HN.out; omega
  have hN2 : N ≤ 9223372036854775807 := by omega
  have bN : ((N : Int) == 0) = false := by simp; omega
  have bn : ((n : Int) == 0) = false := by simp; omega
  go_wp2_with fail
  refine (goRightR_is (l := RS) (b := true) (by rw [← hRS.out]; exact hright.out) R2 hN2).mono ?_
  rintro e wL ⟨rfl, b3'⟩
  have bL := b2.trans (b3'.mono b2.size)
  have raL := (rd0.alloc (.cells #[.int .u16 s2a, .int .u16 s2b] 44)).below bL (Nat.le_refl _)
  have rbL := (rd1.alloc (.cells #[.int .u16 s2a, .int .u16 s2b] 44)).below bL (Nat.le_refl _)
  have RL := R2.below b3' (Nat.le_refl _)
  clear ra rb b1 b2 b2' b3' R2
  go_wp2_with fail
  go_loopw [55, 9] (fun i k wr => ∃ (j kk : Nat), j ≤ n ∧ i = .int .i64 j ∧ k = .int .i64 kk ∧ Hid (kk = if j = 0 then 0 else kx l0 l1 (j - 1)) ∧ Below wL.heap.size wL wr) (fun i _ _ => n - (intOf i).toNat)
  case atStart => exact ⟨0, 0, Nat.zero_le _, rfl, rfl, rfl, Below.refl _ _⟩
  case round =>
    obtain ⟨j, kk, hj, rfl, rfl, hkk, hb⟩ := hrel
    have hsz := hb.size
    by_cases hlt : j < n
    · obtain ⟨r, r', hr, hr', e1, e2, e3, hstep⟩ := step_in HR.out hlt hkk.out
      rw [hRS.out] at hr hr'
      obtain ⟨s, bs, os, hA, hs, hcs⟩ := (raL.below hb (Nat.le_refl _)).at1 hlt
      obtain ⟨t, x, y, bl, ol, hB, ht, hct, hcx, hcy⟩ := (rbL.below hb (Nat.le_refl _)).at3 hlt
      have eT : Tm l1 j = t := by rw [Tm, getD_of ht.out]
      have eS : St l0 j = s := by rw [St, getD_of hs.out]
      rw [eT] at e2 e3 hstep
      rw [eS] at e1
      obtain ⟨fx, fy, fz⟩ := r
      obtain ⟨gx, gy, gz⟩ := r'
      dsimp only at e1 e2 e3 hstep
      have HAT : Hid (atTo RS t N = (gx, true)) := by
        have h9 := (List.getElem?_eq_some_iff.1 hr').1
        have := at_in HTA.out.1 HTA.out.2 hr' e2 e3 (N - (kx l0 l1 j + 1)) (by have := HN.out; omega)
        rwa [show kx l0 l1 j + 1 + (N - (kx l0 l1 j + 1)) = N by have := HN.out; omega] at this
      have hkN : kk < N := by have := (List.getElem?_eq_some_iff.1 hr).1; have := HN.out; omega
      have hgN : kx l0 l1 j < N := by have := (List.getElem?_eq_some_iff.1 hr').1; have := HN.out; omega
      subst e1
      have HS := Lib.hid hs.out
      rcases hstep with ⟨q1, q2⟩ | ⟨q1, q2⟩
      · rw [q2] at hr'
        have HK : Hid (kk = if j + 1 = 0 then 0 else kx l0 l1 (j + 1 - 1)) := by
          show _ = _
          rw [if_neg (by omega), show j + 1 - 1 = j by omega]; exact q2.symm
        have HR' := Lib.hid hr'
        clear hr hr' q2 hgN hkk eT eS
        obtain ⟨cx, cy, cz, bR, oR, hAR, hcR, rx, ry, rz⟩ := (RL.below hb (Nat.le_refl _)).at3 (k := kk) hkN
        obtain ⟨rfl, rfl, rfl⟩ : gx = cx ∧ gy = cy ∧ gz = cz := by have := hcR.out; rw [HR'.out] at this; simpa using this
        subst hA hB hAR
        have k0 : (0 : Int) ≤ kk := by omega
        have kN : (kk : Int) < N := by omega
        have j0 : (0 : Int) ≤ j := by omega
        have jn : (j : Int) < n := by omega
        have d1 : decide ((N : Int) ≤ (kk : Int)) = false := by simp; omega
        have d3 : decide (t < gy) = false := by simp; omega
        have lR := lt_of_cell rx
        have lb := lt_of_cell hcs
        go_wp2_with fail
        go_quiet (fail)
        go_wp2_with fail
        go_quiet (fail)
        go_wp2_with fail
        refine (goAt_is HAT.out (((RL.below hb (Nat.le_refl _)).alloc _).drewN _) hN2).mono ?_
        rintro e w9 ⟨rfl, rfl⟩
        go_wp2_with fail
        go_roundw
        case rel => exact ⟨j + 1, kk, by omega, by go_num, rfl, HK.out, below_dN (hb.alloc hsz _) _⟩
        case measure => simp [intOf]; omega
      · rw [q2] at hr' hgN
        have HK : Hid (kk + 1 = if j + 1 = 0 then 0 else kx l0 l1 (j + 1 - 1)) := by
          show _ = _
          rw [if_neg (by omega), show j + 1 - 1 = j by omega]; exact q2.symm
        have HR1 := Lib.hid hr
        have HR' := Lib.hid hr'
        clear hr hr' q2 hkk eT eS
        obtain ⟨cx, cy, cz, bR, oR, hAR, hcR, rx, ry, rz⟩ := (RL.below hb (Nat.le_refl _)).at3 (k := kk + 1) hgN
        obtain ⟨dx, dy, dz, bR', oR', hAR', hcR', px, py, pz⟩ := (RL.below hb (Nat.le_refl _)).at3 (k := kk) hkN
        obtain ⟨rfl, rfl, rfl⟩ : gx = cx ∧ gy = cy ∧ gz = cz := by have := hcR.out; rw [HR'.out] at this; simpa using this
        obtain ⟨rfl, rfl, rfl⟩ : fx = dx ∧ fy = dy ∧ fz = dz := by have := hcR'.out; rw [HR1.out] at this; simpa using this
        subst hA hB hAR
        obtain ⟨rfl, rfl⟩ : bR = bR' ∧ oR = oR' := by simpa using hAR'
        clear hAR'
        have k0 : (0 : Int) ≤ kk := by omega
        have kN : (kk : Int) < N := by omega
        have k0' : (0 : Int) ≤ (kk : Int) + 1 := by omega
        have kN' : (kk : Int) + 1 < N := by omega
        have j0 : (0 : Int) ≤ j := by omega
        have jn : (j : Int) < n := by omega
        have d1 : decide ((N : Int) ≤ (kk : Int) + 1) = false := by simp; omega
        have d3 : decide (t < gy) = false := by simp; omega
        have lR := lt_of_cell rx
        have lb := lt_of_cell hcs
        go_wp2_with fail
        go_quiet (fail)
        go_wp2_with fail
        go_quiet (fail)
        go_wp2_with fail
        refine (goAt_is HAT.out (((RL.below hb (Nat.le_refl _)).alloc _).drewN _) hN2).mono ?_
        rintro e w9 ⟨rfl, rfl⟩
        go_wp2_with fail
        go_roundw
        case rel => exact ⟨j + 1, kk + 1, by omega, by go_num, by go_num, HK.out, below_dN (hb.alloc hsz _) _⟩
        case measure => simp [intOf]; omega
    · obtain rfl : j = n := by omega
      have bw := bL.trans (hb.mono bL.size)
      have q0 := boxed_cell bw 0
      have q1 := boxed_cell bw 1
      have RW := RL.below hb (Nat.le_refl _)
      have hgo : 2 ≤ N → 1 ≤ ca := fun h => HPO.out (by have := HN.out; omega)
      by_cases h2 : N < 2
      · have h2' : (N : Int) < 2 := by omega
        clear hgo
        rcases Int.lt_trichotomy s2a s2b with hc | rfl | hc
        · rw [Int.min_eq_left (by omega)] at HCA
          rw [Int.max_eq_right (by omega)] at HCB
          go_wp2_with fail
          go_quiet (fail)
          go_wp2_with fail
          refine ((goChk _ _ _ _ _ _ (RW.drewN nq) hN2 hT.out hN0).mono fun _ _ h => chk_told HCA.out h).mono ?_
          rintro e w9 ⟨rfl, m9, rfl⟩
          go_wp2_with fail
          refine ((goChk _ _ _ _ _ _ (RW.drewN (nq + m9)) hN2 hT.out hN0).mono fun _ _ h => chk_told HCB.out h).mono ?_
          rintro e w10 ⟨rfl, m10, rfl⟩
          go_wp2_with fail
          go_ret
          exact ⟨ret_bool (by first | rfl | (simp; done) | (simp; omega)), below_boxed (below_dN bw (nq + m9 + m10))⟩
        · rw [Int.min_eq_left (by omega)] at HCA
          rw [Int.max_eq_right (by omega)] at HCB
          go_wp2_with fail
          go_quiet (fail)
          go_wp2_with fail
          refine ((goChk _ _ _ _ _ _ (RW.drewN nq) hN2 hT.out hN0).mono fun _ _ h => chk_told HCA.out h).mono ?_
          rintro e w9 ⟨rfl, m9, rfl⟩
          go_wp2_with fail
          refine ((goChk _ _ _ _ _ _ (RW.drewN (nq + m9)) hN2 hT.out hN0).mono fun _ _ h => chk_told HCB.out h).mono ?_
          rintro e w10 ⟨rfl, m10, rfl⟩
          go_wp2_with fail
          go_ret
          exact ⟨ret_bool (by first | rfl | (simp; done) | (simp; omega)), below_boxed (below_dN bw (nq + m9 + m10))⟩
        · rw [Int.min_eq_right (by omega)] at HCA
          rw [Int.max_eq_left (by omega)] at HCB
          go_wp2_with fail
          go_quiet (fail)
          go_wp2_with fail
          refine ((goChk _ _ _ _ _ _ (RW.drewN nq) hN2 hT.out hN0).mono fun _ _ h => chk_told HCA.out h).mono ?_
          rintro e w9 ⟨rfl, m9, rfl⟩
          go_wp2_with fail
          refine ((goChk _ _ _ _ _ _ (RW.drewN (nq + m9)) hN2 hT.out hN0).mono fun _ _ h => chk_told HCB.out h).mono ?_
          rintro e w10 ⟨rfl, m10, rfl⟩
          go_wp2_with fail
          go_ret
          exact ⟨ret_bool (by first | rfl | (simp; done) | (simp; omega)), below_boxed (below_dN bw (nq + m9 + m10))⟩
      · have h1c := hgo (by omega)
        have h2' : ¬ (N : Int) < 2 := by omega
        clear hgo
        rcases Int.lt_trichotomy s2a s2b with hc | rfl | hc
        · rw [Int.min_eq_left (by omega)] at HCA
          rw [Int.max_eq_right (by omega)] at HCB
          go_wp2_with fail
          go_quiet (fail)
          go_wp2_with fail
          refine ((goChk _ _ _ _ _ _ (RW.drewN nq) hN2 hT.out hN0).mono fun _ _ h => chk_told HCA.out h).mono ?_
          rintro e w9 ⟨rfl, m9, rfl⟩
          go_wp2_with fail
          refine ((goChk _ _ _ _ _ _ (RW.drewN (nq + m9)) hN2 hT.out hN0).mono fun _ _ h => chk_told HCB.out h).mono ?_
          rintro e w10 ⟨rfl, m10, rfl⟩
          go_wp2_with fail
          go_ret
          exact ⟨ret_bool (by first | rfl | (simp; done) | (simp; omega)), below_boxed (below_dN bw (nq + m9 + m10))⟩
        · rw [Int.min_eq_left (by omega)] at HCA
          rw [Int.max_eq_right (by omega)] at HCB
          go_wp2_with fail
          go_quiet (fail)
          go_wp2_with fail
          refine ((goChk _ _ _ _ _ _ (RW.drewN nq) hN2 hT.out hN0).mono fun _ _ h => chk_told HCA.out h).mono ?_
          rintro e w9 ⟨rfl, m9, rfl⟩
          go_wp2_with fail
          refine ((goChk _ _ _ _ _ _ (RW.drewN (nq + m9)) hN2 hT.out hN0).mono fun _ _ h => chk_told HCB.out h).mono ?_
          rintro e w10 ⟨rfl, m10, rfl⟩
          go_wp2_with fail
          go_ret
          exact ⟨ret_bool (by first | rfl | (simp; done) | (simp; omega)), below_boxed (below_dN bw (nq + m9 + m10))⟩
        · rw [Int.min_eq_right (by omega)] at HCA
          rw [Int.max_eq_left (by omega)] at HCB
          go_wp2_with fail
          go_quiet (fail)
          go_wp2_with fail
          refine ((goChk _ _ _ _ _ _ (RW.drewN nq) hN2 hT.out hN0).mono fun _ _ h => chk_told HCA.out h).mono ?_
          rintro e w9 ⟨rfl, m9, rfl⟩
          go_wp2_with fail
          refine ((goChk _ _ _ _ _ _ (RW.drewN (nq + m9)) hN2 hT.out hN0).mono fun _ _ h => chk_told HCB.out h).mono ?_
          rintro e w10 ⟨rfl, m10, rfl⟩
          go_wp2_with fail
          go_ret
          exact ⟨ret_bool (by first | rfl | (simp; done) | (simp; omega)), below_boxed (below_dN bw (nq + m9 + m10))⟩

set_option maxRecDepth 100000 in
set_option maxHeartbeats 1000000 in
theorem none_ (A0 : Option Addr) (c0 : Nat) (l0 : List Int) (A1 : Option Addr) (c1 : Nat) (l1 : List (Int × Int × Int)) (s2a s2b : Int) (w : World) (rd0 : Rd one 1 w A0 0 l0) (rd1 : Rd three 3 w A1 0 l1)
    (ha0 : 0 ≤ s2a) (ha1 : s2a ≤ 65535) (hb0 : 0 ≤ s2b) (hb1 : s2b ≤ 65535) :
    Calls Try.prog 6 #[.slice A0 0 c0, .slice A1 0 c1, .agg #[.int .u16 s2a, .int .u16 s2b]] w fun e w' => e = .returned (.bool true) ∧ Below w.heap.size w w' := by
  have h0 : l0 = [] := List.eq_nil_of_length_eq_zero rd0.1.symm
  have h1 : l1 = [] := List.eq_nil_of_length_eq_zero rd1.1.symm
  subst h0 h1
  have hR : Hid (runsOf [] [] = []) := rfl
  have HE : Hid (errR [] [] = 0) := rfl
  have hright : Hid (rightR [] = true) := rfl
  go_enter Try.func6, Try.ntmps6
  go_wp2_with fail
  refine (awake24 _).mono ?_
  rintro e w1 ⟨rfl, b1⟩
  have ra := (rd0.alloc (.cells #[.int .u16 s2a, .int .u16 s2b] 44)).below b1 (Nat.le_refl _)
  have rb := (rd1.alloc (.cells #[.int .u16 s2a, .int .u16 s2b] 44)).below b1 (Nat.le_refl _)
  go_wp2_with fail
  refine (goRuns_is hR.out HE.out ra rb (by omega) (by omega)).mono ?_
  rintro e w2 ⟨A2, N, c2, rfl, R2, b2'⟩
  have hN : N = 0 := R2.1
  subst hN
  have b2 := b1.trans (b2'.mono b1.size)
  go_wp2_with fail
  refine (goRightR_is hright.out R2 (by omega)).mono ?_
  rintro e wL ⟨rfl, b3'⟩
  have bL := b2.trans (b3'.mono b2.size)
  have q0 := boxed_cell bL 0
  have q1 := boxed_cell bL 1
  clear ra rb b1 b2 b2' b3' R2
  go_wp2_with fail
  go_loop [55, 9] (fun i k => i = .int .i64 0 ∧ k = .int .i64 0) (fun _ _ => 0)
  case atStart => exact ⟨rfl, rfl⟩
  case round =>
    obtain ⟨rfl, rfl⟩ := hrel
    go_wp2_with fail
    go_quiet (fail)
    go_wp2_with fail
    all_goals
      refine goChk_zero.mono ?_
      rintro e w9 ⟨rfl, rfl⟩
      go_wp2_with fail
      refine goChk_zero.mono ?_
      rintro e w9 ⟨rfl, rfl⟩
      go_wp2_with fail
      go_ret
      exact ⟨rfl, below_boxed (below_dN bL nq)⟩

theorem walk (A0 : Option Addr) (n0 c0 : Nat) (l0 : List Int) (A1 : Option Addr) (n1 c1 : Nat) (l1 : List (Int × Int × Int)) (s2a s2b : Int) (w : World) (rd0 : Rd one 1 w A0 n0 l0) (ft0 : ∀ r ∈ l0, Fits r) (ge0 : n0 ≤ c0) (mx0 : c0 ≤ maxLen) (rd1 : Rd three 3 w A1 n1 l1) (ft1 : ∀ r ∈ l1, ∀ v ∈ three r, Fits v) (ge1 : n1 ≤ c1) (mx1 : c1 ≤ maxLen) (ws2a : (Lit.int .u16 s2a).wf = true) (ws2b : (Lit.int .u16 s2b).wf = true) :
    Calls Try.prog 6 #[.slice A0 n0 c0, .slice A1 n1 c1, .agg #[.int .u16 s2a, .int .u16 s2b]] w fun e w' => e = .returned (.bool true) ∧ Below w.heap.size w w' := by
  have hm0 : n0 ≤ 9223372036854775807 := by unfold maxLen at mx0; omega
  have hm1 : n1 ≤ 9223372036854775807 := by unfold maxLen at mx1; omega
  have ha : 0 ≤ s2a ∧ s2a ≤ 65535 := by simpa [Lit.wf, IntKind.min, IntKind.max, IntKind.signed, IntKind.bits] using ws2a
  have hb : 0 ≤ s2b ∧ s2b ≤ 65535 := by simpa [Lit.wf, IntKind.min, IntKind.max, IntKind.signed, IntKind.bits] using ws2b
  by_cases h : 200 < n0 ∨ 200 < n1
  · exact capped A0 n0 c0 l0 A1 n1 c1 s2a s2b w hm0 hm1 h
  · by_cases hE : errR l0 l1 = 0
    · have hg : l1.length ≤ 2048 ∧ l0.length = l1.length ∧ allS l0 l1 = true := by
        unfold errR at hE
        split at hE
        · omega
        · split at hE
          · rename_i h1 h2
            exact ⟨by omega, h2.1, h2.2⟩
          · omega
      have hn : n0 = n1 := by rw [rd0.1, rd1.1]; exact hg.2.1
      have hS : Sound l0 l1 l1.length := fun j hj => by
        have := hg.2.2
        unfold allS at this
        rw [List.all_eq_true] at this
        exact this j (by simpa using hj)
      subst hn
      rcases Nat.eq_zero_or_pos n0 with h0 | hpos
      · subst h0
        exact none_ A0 c0 l0 A1 c1 l1 s2a s2b w rd0 rd1 ha.1 ha.2 hb.1 hb.2
      · exact fits A0 n0 c0 l0 A1 c1 l1 s2a s2b w rd0 rd1 (by omega) hE hS ha.1 ha.2 hb.1 hb.2 hpos
    · exact failed A0 n0 c0 l0 A1 n1 c1 l1 s2a s2b w rd0 rd1 (by omega) (by omega) hE
end Go.Proofs.Ytceohmbjajhlcaa.dwellFitsWalk
