/-
  The law BandRises returns true, for every list of bands, every price over them and every two distances, and leaves what was there as it was. No conditions but the arguments' readings.
-/
import Derived.Test.YtceohmbjajhlcaaBandPricesWalk
import Derived.Test.YtceohmbjajhlcaaBandR
namespace Go.Proofs.Ytceohmbjajhlcaa.bandRisesWalk
open Go.ChangeShapes Go.WideShapes Go.ChangeAt Go.RowKit
set_option linter.unusedVariables false
theorem long (A0 : Option Addr) (n0 c0 : Nat) (l0 : List (Int × Int)) (a1 : Int) (s2a s2b : Int) (w : World) (rd0 : Rd two 2 w A0 n0 l0) (hm0 : n0 ≤ 9223372036854775807) (h : 200 < n0) :
    Calls Try.prog 8 #[.slice A0 n0 c0, .int .i64 a1, .agg #[.int .i64 s2a, .int .i64 s2b]] w fun e w' => e = .returned (.bool true) ∧ Below w.heap.size w w' := by
  go_enter Try.func8, Try.ntmps8
  go_wp2_with (go_at_call 24; refine (awake27 _).mono ?_; rintro e w1 ⟨rfl, b1⟩)
  go_ret
  exact ⟨rfl, below_boxed b1⟩
theorem wrong (A0 : Option Addr) (n0 c0 : Nat) (l0 : List (Int × Int)) (a1 : Int) (s2a s2b : Int) (w : World) (rd0 : Rd two 2 w A0 n0 l0) (hm0 : n0 ≤ 9223372036854775807) (h : n0 ≤ 200) (hB : bandB l0 a1 = false) :
    Calls Try.prog 8 #[.slice A0 n0 c0, .int .i64 a1, .agg #[.int .i64 s2a, .int .i64 s2b]] w fun e w' => e = .returned (.bool true) ∧ Below w.heap.size w w' := by
  have HB := Lib.hid hB
  clear hB
  go_enter Try.func8, Try.ntmps8
  go_wp2_with (first
    | (go_at_call 24; refine (awake27 _).mono ?_; rintro e w1 ⟨rfl, b1⟩; have r1 := (rd0.alloc _).below b1 (Nat.le_refl _))
    | (go_at_call 27; refine (goBand_is HB.out r1 hm0).mono ?_; rintro e w2 ⟨rfl, b2'⟩; have b2 := b1.trans (b2'.mono b1.size)))
  go_ret
  exact ⟨rfl, below_boxed b2⟩

/-- What Price answers at one distance, in every world that holds the bands. -/
def Answers (l : List (Int × Int)) (over far p q : Int) (A : Option Addr) (n c : Nat) : Prop := ∀ w, Rd two 2 w A n l → Calls Try.prog 25 #[.slice A n c, .int .i64 over, .int .i64 far] w fun e w' => e = .returned (.tuple #[.int .i64 p, .int .i64 q]) ∧ Below w.heap.size w w'
theorem answers (l : List (Int × Int)) (over far : Int) (A : Option Addr) (n c : Nat) (hB : bandB l over = true) (hm0 : n ≤ 9223372036854775807) :
    (0 ≤ far ∧ far ≤ 4294967296 ∧ Answers l over far (bPrice l over far) 0 A n c) ∨ Answers l over far 0 2 A n c := by
  by_cases h : 0 ≤ far ∧ far ≤ 4294967296
  · exact .inl ⟨h.1, h.2, fun w hr => price_yes A n c l over far w hr hB h.1 h.2⟩
  · exact .inr fun w hr => price_no A n c l over far w hr hm0 (fun hh => h hh.2)

set_option maxRecDepth 100000 in
set_option maxHeartbeats 1600000 in
theorem both (A0 : Option Addr) (n0 c0 : Nat) (l0 : List (Int × Int)) (a1 : Int) (s2a s2b p p' : Int) (w : World) (rd0 : Rd two 2 w A0 n0 l0) (hm0 : n0 ≤ 9223372036854775807) (h : n0 ≤ 200) (hB : bandB l0 a1 = true)
    (hp : Answers l0 a1 (min s2a s2b) p 0 A0 n0 c0) (hp' : Answers l0 a1 (max s2a s2b) p' 0 A0 n0 c0) (hpm : p ∈ bSteps l0 a1) (hpm' : p' ∈ bSteps l0 a1) (hpp : p ≤ p') :
    Calls Try.prog 8 #[.slice A0 n0 c0, .int .i64 a1, .agg #[.int .i64 s2a, .int .i64 s2b]] w fun e w' => e = .returned (.bool true) ∧ Below w.heap.size w w' := by
  have HB := Lib.hid hB
  have hl := Lib.hid rd0.1
  have h5 : n0 ≤ 100000 := by omega
  have HC := Lib.hid (cnt_found hB hpm hpm')
  have HP := Lib.hid hp
  have HP' := Lib.hid hp'
  clear hB hp hp' hpm hpm'
  go_enter Try.func8, Try.ntmps8
  go_wp2_with (first
    | (go_at_call 24; refine (awake27 _).mono ?_; rintro e w1 ⟨rfl, b1⟩; have r1 := (rd0.alloc (.cells #[.int .i64 s2a, .int .i64 s2b] 58)).below b1 (Nat.le_refl _))
    | (go_at_call 27; refine (goBand_is HB.out r1 hm0).mono ?_; rintro e w2 ⟨rfl, b2'⟩; have b2 := b1.trans (b2'.mono b1.size); have r2 := (rd0.alloc (.cells #[.int .i64 s2a, .int .i64 s2b] 58)).below b2 (Nat.le_refl _))
    | (go_at_call 29; refine (goSteps _ _ _ _ _ _ r2 h5).mono ?_; rintro e w3 ⟨A3, N3, c3, rfl, R3, b3'⟩; have b3 := b2.trans (b3'.mono b2.size)))
  have hN3 : N3 ≤ 9223372036854775807 := steps_small R3 hl.out h
  clear r1 r2 b1 b2 b2' b3'
  go_loopw [8] (fun i wr => ∃ k m : Nat, 1 ≤ k ∧ (k ≤ N3 ∨ k = 1) ∧ i = .int .i64 k ∧ Hid (wr = w3.drewN m)) (fun i _ => N3 + 1 - (intOf i).toNat)
  case atStart => exact ⟨1, 0, Nat.le_refl _, .inr rfl, rfl, rfl⟩
  case round =>
    obtain ⟨k, m, hk1, hk, rfl, hw⟩ := hrel
    have hR : Rd one 1 wr A3 N3 (bSteps l0 a1) := by rw [hw.out]; exact R3.drewN m
    by_cases hlt : k < N3
    · obtain ⟨j, rfl⟩ : ∃ j, k = j + 1 := ⟨k - 1, by omega⟩
      obtain ⟨x, b, off, hA, hx, hcx⟩ := hR.at1 hlt
      obtain ⟨y, b', off', hA', hy, hcy⟩ := hR.at1 (k := j) (by omega)
      subst hA
      obtain ⟨rfl, rfl⟩ : b = b' ∧ off = off' := by simpa using hA'
      clear hA'
      have hup := steps_up HB.out hx.out hy.out
      have WJ : Hid (IntKind.i64.wrap (j : Int) = (j : Int)) := IntWalk.i64_in _ (by omega)
      go_wp2
      have wj0 : (0 : Int) ≤ j := by omega
      have wjn : (j : Int) < N3 := by omega
      have wj := WJ.out
      go_quiet (fail)
      clear wj wj0 wjn
      go_wp2
      go_roundw
      case rel => exact ⟨j + 1 + 1, m + nq, by omega, by omega, by go_num, b_drewN hw.out nq⟩
      case measure => simp [intOf]; omega
    · have bw : Below (w.alloc (.cells #[.int .i64 s2a, .int .i64 s2b] 58)).heap.size (w.alloc (.cells #[.int .i64 s2a, .int .i64 s2b] 58)) wr := by rw [hw.out]; exact below_dN b3 m
      clear R3 hw b3
      have rr := (rd0.alloc (.cells #[.int .i64 s2a, .int .i64 s2b] 58)).below bw (Nat.le_refl _)
      have q0 := boxed_cell bw 0
      have q1 := boxed_cell bw 1
      go_wp2_with fail
      refine (HP.out _ rr).mono ?_
      rintro e w4 ⟨rfl, b4'⟩
      have b4 := bw.trans (b4'.mono bw.size)
      clear q0 q1
      have rr4 := (rd0.alloc (.cells #[.int .i64 s2a, .int .i64 s2b] 58)).below b4 (Nat.le_refl _)
      have q0 := boxed_cell b4 0
      have q1 := boxed_cell b4 1
      have hR4 : Rd one 1 w4 A3 N3 (bSteps l0 a1) := hR.below b4' (Nat.le_refl _)
      clear hR rr bw b4'
      go_wp2_with fail
      refine (HP'.out _ rr4).mono ?_
      rintro e w5 ⟨rfl, b5'⟩
      have b5 := b4.trans (b5'.mono b4.size)
      have rr5 := (rd0.alloc (.cells #[.int .i64 s2a, .int .i64 s2b] 58)).below b5 (Nat.le_refl _)
      have hR5 : Rd one 1 w5 A3 N3 (bSteps l0 a1) := hR4.below b5' (Nat.le_refl _)
      clear hR4 rr4 b4 b5' q0 q1
      go_wp2_with fail
      go_loop [13, 80] (fun f i => ∃ (k : Nat) (d : Int), k ≤ N3 ∧ f = .int .i64 d ∧ i = .int .i64 k ∧ 0 ≤ d ∧ d ≤ k ∧ Hid (cnt p p' ((bSteps l0 a1).take k) = d)) (fun _ i => N3 - (intOf i).toNat)
      case atStart => exact ⟨0, 0, Nat.zero_le _, rfl, rfl, Int.le_refl _, Int.le_refl _, rfl⟩
      case round =>
        obtain ⟨k, d, hk, rfl, rfl, hd0, hdk, hd⟩ := hrel
        by_cases hlt : k < N3
        · obtain ⟨x, b, off, hA, hx, hcx⟩ := hR5.at1 hlt
          subst hA
          have HT : Hid (cnt p p' ((bSteps l0 a1).take (k + 1)) = d + if x = p ∨ x = p' then 1 else 0) := by
            show _ = _
            rw [take_succ_of hx.out, cnt_snoc, hd.out]
          by_cases e1 : x = p
          · have b0 : (x == p) = true := by simpa using e1
            have HE : Hid (cnt p p' ((bSteps l0 a1).take (k + 1)) = d + 1) := by show _ = _; rw [HT.out, if_pos (.inl e1)]
            clear e1
            go_wp2
            go_round
            case rel => exact ⟨k + 1, d + 1, by omega, rfl, by go_num, by omega, by omega, HE.out⟩
            case measure => simp [intOf]; omega
          · have b0 : (x == p) = false := by simpa using e1
            by_cases e2 : x = p'
            · have b00 : (x == p') = true := by simpa using e2
              have HE : Hid (cnt p p' ((bSteps l0 a1).take (k + 1)) = d + 1) := by show _ = _; rw [HT.out, if_pos (.inr e2)]
              clear e1 e2
              go_wp2
              go_round
              case rel => exact ⟨k + 1, d + 1, by omega, rfl, by go_num, by omega, by omega, HE.out⟩
              case measure => simp [intOf]; omega
            · have b00 : (x == p') = false := by simpa using e2
              have HE : Hid (cnt p p' ((bSteps l0 a1).take (k + 1)) = d) := by show _ = _; rw [HT.out, if_neg (fun hh => hh.elim e1 e2)]; omega
              clear e1 e2
              go_wp2
              go_round
              case rel => exact ⟨k + 1, d, by omega, rfl, by go_num, by omega, by omega, HE.out⟩
              case measure => simp [intOf]; omega
        · obtain rfl : k = N3 := by omega
          have HD : Hid (d = if p = p' then 1 else 2) := by
            show _ = _
            rw [← HC.out, ← hd.out]
            congr 1
            exact List.take_of_length_le (by rw [← hR5.1]; exact Nat.le_refl _)
          by_cases e : p = p'
          · obtain rfl : d = 1 := by rw [HD.out, if_pos e]
            subst e
            clear HD hd hR5
            go_wp2_with fail
            go_loopw [113] (fun i wq => ∃ k : Nat, k ≤ n0 ∧ i = .int .i64 k ∧ Below (w.alloc (.cells #[.int .i64 s2a, .int .i64 s2b] 58)).heap.size (w.alloc (.cells #[.int .i64 s2a, .int .i64 s2b] 58)) wq) (fun i _ => n0 - (intOf i).toNat)
            case atStart => exact ⟨0, Nat.zero_le _, rfl, b5⟩
            case round =>
              obtain ⟨k, hk, rfl, bq⟩ := hrel
              have rq := (rd0.alloc (.cells #[.int .i64 s2a, .int .i64 s2b] 58)).below bq (Nat.le_refl _)
              have hqs := bq.size
              by_cases hlt : k < n0
              · obtain ⟨x, y, b, off, hA, hx, hcx, hcy⟩ := rq.at2 hlt
                have hbd := bUp_bd (fun j hj => (bandB_up HB.out).1 j (by have := hl.out; omega)) hx.out
                obtain ⟨x0, x1, _, _⟩ := hbd
                have PO := Lib.hid (price_own HB.out hx.out)
                subst hA
                go_wp2_with (go_at_call 25; refine (price_is PO.out (rq.alloc (.cells #[.int .i64 x, .int .i64 y] 60)) HB.out x0 x1).mono ?_; rintro e w6 ⟨rfl, b6'⟩; have b6 : Below (w.alloc (.cells #[.int .i64 s2a, .int .i64 s2b] 58)).heap.size (w.alloc (.cells #[.int .i64 s2a, .int .i64 s2b] 58)) w6 := (bq.alloc hqs _).trans (b6'.mono (by simp at hqs ⊢; omega)); have z0 := boxed_cell b6' 0; have z1 := boxed_cell b6' 1)
                go_roundw
                case rel => exact ⟨k + 1, by omega, by go_num, b6⟩
                case measure => simp [intOf]; omega
              · go_wp2
                go_ret
                exact ⟨rfl, below_boxed bq⟩
          · obtain rfl : d = 2 := by rw [HD.out, if_neg e]
            have b0 : (p != p') = true := by simpa using e
            clear HD hd hR5 e
            go_wp2_with fail
            go_loopw [113] (fun i wq => ∃ k : Nat, k ≤ n0 ∧ i = .int .i64 k ∧ Below (w.alloc (.cells #[.int .i64 s2a, .int .i64 s2b] 58)).heap.size (w.alloc (.cells #[.int .i64 s2a, .int .i64 s2b] 58)) wq) (fun i _ => n0 - (intOf i).toNat)
            case atStart => exact ⟨0, Nat.zero_le _, rfl, b5⟩
            case round =>
              obtain ⟨k, hk, rfl, bq⟩ := hrel
              have rq := (rd0.alloc (.cells #[.int .i64 s2a, .int .i64 s2b] 58)).below bq (Nat.le_refl _)
              have hqs := bq.size
              by_cases hlt : k < n0
              · obtain ⟨x, y, b, off, hA, hx, hcx, hcy⟩ := rq.at2 hlt
                have hbd := bUp_bd (fun j hj => (bandB_up HB.out).1 j (by have := hl.out; omega)) hx.out
                obtain ⟨x0, x1, _, _⟩ := hbd
                have PO := Lib.hid (price_own HB.out hx.out)
                subst hA
                go_wp2_with (go_at_call 25; refine (price_is PO.out (rq.alloc (.cells #[.int .i64 x, .int .i64 y] 60)) HB.out x0 x1).mono ?_; rintro e w6 ⟨rfl, b6'⟩; have b6 : Below (w.alloc (.cells #[.int .i64 s2a, .int .i64 s2b] 58)).heap.size (w.alloc (.cells #[.int .i64 s2a, .int .i64 s2b] 58)) w6 := (bq.alloc hqs _).trans (b6'.mono (by simp at hqs ⊢; omega)); have z0 := boxed_cell b6' 0; have z1 := boxed_cell b6' 1)
                go_roundw
                case rel => exact ⟨k + 1, by omega, by go_num, b6⟩
                case measure => simp [intOf]; omega
              · go_wp2
                go_ret
                exact ⟨rfl, below_boxed bq⟩
set_option maxRecDepth 100000 in
set_option maxHeartbeats 1600000 in
theorem noA (A0 : Option Addr) (n0 c0 : Nat) (l0 : List (Int × Int)) (a1 : Int) (s2a s2b p p' : Int) (w : World) (rd0 : Rd two 2 w A0 n0 l0) (hm0 : n0 ≤ 9223372036854775807) (h : n0 ≤ 200) (hB : bandB l0 a1 = true)
    (hp : Answers l0 a1 (min s2a s2b) p 2 A0 n0 c0) (hp' : Answers l0 a1 (max s2a s2b) p' 0 A0 n0 c0) :
    Calls Try.prog 8 #[.slice A0 n0 c0, .int .i64 a1, .agg #[.int .i64 s2a, .int .i64 s2b]] w fun e w' => e = .returned (.bool true) ∧ Below w.heap.size w w' := by
  have HB := Lib.hid hB
  have hl := Lib.hid rd0.1
  have h5 : n0 ≤ 100000 := by omega
  have HP := Lib.hid hp
  have HP' := Lib.hid hp'
  clear hB hp hp'
  go_enter Try.func8, Try.ntmps8
  go_wp2_with (first
    | (go_at_call 24; refine (awake27 _).mono ?_; rintro e w1 ⟨rfl, b1⟩; have r1 := (rd0.alloc (.cells #[.int .i64 s2a, .int .i64 s2b] 58)).below b1 (Nat.le_refl _))
    | (go_at_call 27; refine (goBand_is HB.out r1 hm0).mono ?_; rintro e w2 ⟨rfl, b2'⟩; have b2 := b1.trans (b2'.mono b1.size); have r2 := (rd0.alloc (.cells #[.int .i64 s2a, .int .i64 s2b] 58)).below b2 (Nat.le_refl _))
    | (go_at_call 29; refine (goSteps _ _ _ _ _ _ r2 h5).mono ?_; rintro e w3 ⟨A3, N3, c3, rfl, R3, b3'⟩; have b3 := b2.trans (b3'.mono b2.size)))
  have hN3 : N3 ≤ 9223372036854775807 := steps_small R3 hl.out h
  clear r1 r2 b1 b2 b2' b3'
  go_loopw [8] (fun i wr => ∃ k m : Nat, 1 ≤ k ∧ (k ≤ N3 ∨ k = 1) ∧ i = .int .i64 k ∧ Hid (wr = w3.drewN m)) (fun i _ => N3 + 1 - (intOf i).toNat)
  case atStart => exact ⟨1, 0, Nat.le_refl _, .inr rfl, rfl, rfl⟩
  case round =>
    obtain ⟨k, m, hk1, hk, rfl, hw⟩ := hrel
    have hR : Rd one 1 wr A3 N3 (bSteps l0 a1) := by rw [hw.out]; exact R3.drewN m
    by_cases hlt : k < N3
    · obtain ⟨j, rfl⟩ : ∃ j, k = j + 1 := ⟨k - 1, by omega⟩
      obtain ⟨x, b, off, hA, hx, hcx⟩ := hR.at1 hlt
      obtain ⟨y, b', off', hA', hy, hcy⟩ := hR.at1 (k := j) (by omega)
      subst hA
      obtain ⟨rfl, rfl⟩ : b = b' ∧ off = off' := by simpa using hA'
      clear hA'
      have hup := steps_up HB.out hx.out hy.out
      have WJ : Hid (IntKind.i64.wrap (j : Int) = (j : Int)) := IntWalk.i64_in _ (by omega)
      go_wp2
      have wj0 : (0 : Int) ≤ j := by omega
      have wjn : (j : Int) < N3 := by omega
      have wj := WJ.out
      go_quiet (fail)
      clear wj wj0 wjn
      go_wp2
      go_roundw
      case rel => exact ⟨j + 1 + 1, m + nq, by omega, by omega, by go_num, b_drewN hw.out nq⟩
      case measure => simp [intOf]; omega
    · have bw : Below (w.alloc (.cells #[.int .i64 s2a, .int .i64 s2b] 58)).heap.size (w.alloc (.cells #[.int .i64 s2a, .int .i64 s2b] 58)) wr := by rw [hw.out]; exact below_dN b3 m
      clear R3 hw b3
      have rr := (rd0.alloc (.cells #[.int .i64 s2a, .int .i64 s2b] 58)).below bw (Nat.le_refl _)
      have q0 := boxed_cell bw 0
      have q1 := boxed_cell bw 1
      go_wp2_with fail
      refine (HP.out _ rr).mono ?_
      rintro e w4 ⟨rfl, b4'⟩
      have b4 := bw.trans (b4'.mono bw.size)
      clear q0 q1
      have rr4 := (rd0.alloc (.cells #[.int .i64 s2a, .int .i64 s2b] 58)).below b4 (Nat.le_refl _)
      have q0 := boxed_cell b4 0
      have q1 := boxed_cell b4 1
      have hR4 : Rd one 1 w4 A3 N3 (bSteps l0 a1) := hR.below b4' (Nat.le_refl _)
      clear hR rr bw b4'
      go_wp2_with fail
      refine (HP'.out _ rr4).mono ?_
      rintro e w5 ⟨rfl, b5'⟩
      have b5 := b4.trans (b5'.mono b4.size)
      have rr5 := (rd0.alloc (.cells #[.int .i64 s2a, .int .i64 s2b] 58)).below b5 (Nat.le_refl _)
      have hR5 : Rd one 1 w5 A3 N3 (bSteps l0 a1) := hR4.below b5' (Nat.le_refl _)
      clear hR4 rr4 b4 b5' q0 q1
      go_wp2_with fail
      clear hR5
      go_loopw [113] (fun i wq => ∃ k : Nat, k ≤ n0 ∧ i = .int .i64 k ∧ Below (w.alloc (.cells #[.int .i64 s2a, .int .i64 s2b] 58)).heap.size (w.alloc (.cells #[.int .i64 s2a, .int .i64 s2b] 58)) wq) (fun i _ => n0 - (intOf i).toNat)
      case atStart => exact ⟨0, Nat.zero_le _, rfl, b5⟩
      case round =>
        obtain ⟨k, hk, rfl, bq⟩ := hrel
        have rq := (rd0.alloc (.cells #[.int .i64 s2a, .int .i64 s2b] 58)).below bq (Nat.le_refl _)
        have hqs := bq.size
        by_cases hlt : k < n0
        · obtain ⟨x, y, b, off, hA, hx, hcx, hcy⟩ := rq.at2 hlt
          have hbd := bUp_bd (fun j hj => (bandB_up HB.out).1 j (by have := hl.out; omega)) hx.out
          obtain ⟨x0, x1, _, _⟩ := hbd
          have PO := Lib.hid (price_own HB.out hx.out)
          subst hA
          go_wp2_with (go_at_call 25; refine (price_is PO.out (rq.alloc (.cells #[.int .i64 x, .int .i64 y] 60)) HB.out x0 x1).mono ?_; rintro e w6 ⟨rfl, b6'⟩; have b6 : Below (w.alloc (.cells #[.int .i64 s2a, .int .i64 s2b] 58)).heap.size (w.alloc (.cells #[.int .i64 s2a, .int .i64 s2b] 58)) w6 := (bq.alloc hqs _).trans (b6'.mono (by simp at hqs ⊢; omega)); have z0 := boxed_cell b6' 0; have z1 := boxed_cell b6' 1)
          go_roundw
          case rel => exact ⟨k + 1, by omega, by go_num, b6⟩
          case measure => simp [intOf]; omega
        · go_wp2
          go_ret
          exact ⟨rfl, below_boxed bq⟩

set_option maxRecDepth 100000 in
set_option maxHeartbeats 1600000 in
theorem noB (A0 : Option Addr) (n0 c0 : Nat) (l0 : List (Int × Int)) (a1 : Int) (s2a s2b p p' : Int) (w : World) (rd0 : Rd two 2 w A0 n0 l0) (hm0 : n0 ≤ 9223372036854775807) (h : n0 ≤ 200) (hB : bandB l0 a1 = true)
    (hp : Answers l0 a1 (min s2a s2b) p 2 A0 n0 c0) (hp' : Answers l0 a1 (max s2a s2b) p' 2 A0 n0 c0) :
    Calls Try.prog 8 #[.slice A0 n0 c0, .int .i64 a1, .agg #[.int .i64 s2a, .int .i64 s2b]] w fun e w' => e = .returned (.bool true) ∧ Below w.heap.size w w' := by
  have HB := Lib.hid hB
  have hl := Lib.hid rd0.1
  have h5 : n0 ≤ 100000 := by omega
  have HP := Lib.hid hp
  have HP' := Lib.hid hp'
  clear hB hp hp'
  go_enter Try.func8, Try.ntmps8
  go_wp2_with (first
    | (go_at_call 24; refine (awake27 _).mono ?_; rintro e w1 ⟨rfl, b1⟩; have r1 := (rd0.alloc (.cells #[.int .i64 s2a, .int .i64 s2b] 58)).below b1 (Nat.le_refl _))
    | (go_at_call 27; refine (goBand_is HB.out r1 hm0).mono ?_; rintro e w2 ⟨rfl, b2'⟩; have b2 := b1.trans (b2'.mono b1.size); have r2 := (rd0.alloc (.cells #[.int .i64 s2a, .int .i64 s2b] 58)).below b2 (Nat.le_refl _))
    | (go_at_call 29; refine (goSteps _ _ _ _ _ _ r2 h5).mono ?_; rintro e w3 ⟨A3, N3, c3, rfl, R3, b3'⟩; have b3 := b2.trans (b3'.mono b2.size)))
  have hN3 : N3 ≤ 9223372036854775807 := steps_small R3 hl.out h
  clear r1 r2 b1 b2 b2' b3'
  go_loopw [8] (fun i wr => ∃ k m : Nat, 1 ≤ k ∧ (k ≤ N3 ∨ k = 1) ∧ i = .int .i64 k ∧ Hid (wr = w3.drewN m)) (fun i _ => N3 + 1 - (intOf i).toNat)
  case atStart => exact ⟨1, 0, Nat.le_refl _, .inr rfl, rfl, rfl⟩
  case round =>
    obtain ⟨k, m, hk1, hk, rfl, hw⟩ := hrel
    have hR : Rd one 1 wr A3 N3 (bSteps l0 a1) := by rw [hw.out]; exact R3.drewN m
    by_cases hlt : k < N3
    · obtain ⟨j, rfl⟩ : ∃ j, k = j + 1 := ⟨k - 1, by omega⟩
      obtain ⟨x, b, off, hA, hx, hcx⟩ := hR.at1 hlt
      obtain ⟨y, b', off', hA', hy, hcy⟩ := hR.at1 (k := j) (by omega)
      subst hA
      obtain ⟨rfl, rfl⟩ : b = b' ∧ off = off' := by simpa using hA'
      clear hA'
      have hup := steps_up HB.out hx.out hy.out
      have WJ : Hid (IntKind.i64.wrap (j : Int) = (j : Int)) := IntWalk.i64_in _ (by omega)
      go_wp2
      have wj0 : (0 : Int) ≤ j := by omega
      have wjn : (j : Int) < N3 := by omega
      have wj := WJ.out
      go_quiet (fail)
      clear wj wj0 wjn
      go_wp2
      go_roundw
      case rel => exact ⟨j + 1 + 1, m + nq, by omega, by omega, by go_num, b_drewN hw.out nq⟩
      case measure => simp [intOf]; omega
    · have bw : Below (w.alloc (.cells #[.int .i64 s2a, .int .i64 s2b] 58)).heap.size (w.alloc (.cells #[.int .i64 s2a, .int .i64 s2b] 58)) wr := by rw [hw.out]; exact below_dN b3 m
      clear R3 hw b3
      have rr := (rd0.alloc (.cells #[.int .i64 s2a, .int .i64 s2b] 58)).below bw (Nat.le_refl _)
      have q0 := boxed_cell bw 0
      have q1 := boxed_cell bw 1
      go_wp2_with fail
      refine (HP.out _ rr).mono ?_
      rintro e w4 ⟨rfl, b4'⟩
      have b4 := bw.trans (b4'.mono bw.size)
      clear q0 q1
      have rr4 := (rd0.alloc (.cells #[.int .i64 s2a, .int .i64 s2b] 58)).below b4 (Nat.le_refl _)
      have q0 := boxed_cell b4 0
      have q1 := boxed_cell b4 1
      have hR4 : Rd one 1 w4 A3 N3 (bSteps l0 a1) := hR.below b4' (Nat.le_refl _)
      clear hR rr bw b4'
      go_wp2_with fail
      refine (HP'.out _ rr4).mono ?_
      rintro e w5 ⟨rfl, b5'⟩
      have b5 := b4.trans (b5'.mono b4.size)
      have rr5 := (rd0.alloc (.cells #[.int .i64 s2a, .int .i64 s2b] 58)).below b5 (Nat.le_refl _)
      have hR5 : Rd one 1 w5 A3 N3 (bSteps l0 a1) := hR4.below b5' (Nat.le_refl _)
      clear hR4 rr4 b4 b5' q0 q1
      go_wp2_with fail
      clear hR5
      go_loopw [113] (fun i wq => ∃ k : Nat, k ≤ n0 ∧ i = .int .i64 k ∧ Below (w.alloc (.cells #[.int .i64 s2a, .int .i64 s2b] 58)).heap.size (w.alloc (.cells #[.int .i64 s2a, .int .i64 s2b] 58)) wq) (fun i _ => n0 - (intOf i).toNat)
      case atStart => exact ⟨0, Nat.zero_le _, rfl, b5⟩
      case round =>
        obtain ⟨k, hk, rfl, bq⟩ := hrel
        have rq := (rd0.alloc (.cells #[.int .i64 s2a, .int .i64 s2b] 58)).below bq (Nat.le_refl _)
        have hqs := bq.size
        by_cases hlt : k < n0
        · obtain ⟨x, y, b, off, hA, hx, hcx, hcy⟩ := rq.at2 hlt
          have hbd := bUp_bd (fun j hj => (bandB_up HB.out).1 j (by have := hl.out; omega)) hx.out
          obtain ⟨x0, x1, _, _⟩ := hbd
          have PO := Lib.hid (price_own HB.out hx.out)
          subst hA
          go_wp2_with (go_at_call 25; refine (price_is PO.out (rq.alloc (.cells #[.int .i64 x, .int .i64 y] 60)) HB.out x0 x1).mono ?_; rintro e w6 ⟨rfl, b6'⟩; have b6 : Below (w.alloc (.cells #[.int .i64 s2a, .int .i64 s2b] 58)).heap.size (w.alloc (.cells #[.int .i64 s2a, .int .i64 s2b] 58)) w6 := (bq.alloc hqs _).trans (b6'.mono (by simp at hqs ⊢; omega)); have z0 := boxed_cell b6' 0; have z1 := boxed_cell b6' 1)
          go_roundw
          case rel => exact ⟨k + 1, by omega, by go_num, b6⟩
          case measure => simp [intOf]; omega
        · go_wp2
          go_ret
          exact ⟨rfl, below_boxed bq⟩

set_option maxRecDepth 100000 in
set_option maxHeartbeats 1600000 in
theorem noC (A0 : Option Addr) (n0 c0 : Nat) (l0 : List (Int × Int)) (a1 : Int) (s2a s2b p p' : Int) (w : World) (rd0 : Rd two 2 w A0 n0 l0) (hm0 : n0 ≤ 9223372036854775807) (h : n0 ≤ 200) (hB : bandB l0 a1 = true)
    (hp : Answers l0 a1 (min s2a s2b) p 0 A0 n0 c0) (hp' : Answers l0 a1 (max s2a s2b) p' 2 A0 n0 c0) :
    Calls Try.prog 8 #[.slice A0 n0 c0, .int .i64 a1, .agg #[.int .i64 s2a, .int .i64 s2b]] w fun e w' => e = .returned (.bool true) ∧ Below w.heap.size w w' := by
  have HB := Lib.hid hB
  have hl := Lib.hid rd0.1
  have h5 : n0 ≤ 100000 := by omega
  have HP := Lib.hid hp
  have HP' := Lib.hid hp'
  clear hB hp hp'
  go_enter Try.func8, Try.ntmps8
  go_wp2_with (first
    | (go_at_call 24; refine (awake27 _).mono ?_; rintro e w1 ⟨rfl, b1⟩; have r1 := (rd0.alloc (.cells #[.int .i64 s2a, .int .i64 s2b] 58)).below b1 (Nat.le_refl _))
    | (go_at_call 27; refine (goBand_is HB.out r1 hm0).mono ?_; rintro e w2 ⟨rfl, b2'⟩; have b2 := b1.trans (b2'.mono b1.size); have r2 := (rd0.alloc (.cells #[.int .i64 s2a, .int .i64 s2b] 58)).below b2 (Nat.le_refl _))
    | (go_at_call 29; refine (goSteps _ _ _ _ _ _ r2 h5).mono ?_; rintro e w3 ⟨A3, N3, c3, rfl, R3, b3'⟩; have b3 := b2.trans (b3'.mono b2.size)))
  have hN3 : N3 ≤ 9223372036854775807 := steps_small R3 hl.out h
  clear r1 r2 b1 b2 b2' b3'
  go_loopw [8] (fun i wr => ∃ k m : Nat, 1 ≤ k ∧ (k ≤ N3 ∨ k = 1) ∧ i = .int .i64 k ∧ Hid (wr = w3.drewN m)) (fun i _ => N3 + 1 - (intOf i).toNat)
  case atStart => exact ⟨1, 0, Nat.le_refl _, .inr rfl, rfl, rfl⟩
  case round =>
    obtain ⟨k, m, hk1, hk, rfl, hw⟩ := hrel
    have hR : Rd one 1 wr A3 N3 (bSteps l0 a1) := by rw [hw.out]; exact R3.drewN m
    by_cases hlt : k < N3
    · obtain ⟨j, rfl⟩ : ∃ j, k = j + 1 := ⟨k - 1, by omega⟩
      obtain ⟨x, b, off, hA, hx, hcx⟩ := hR.at1 hlt
      obtain ⟨y, b', off', hA', hy, hcy⟩ := hR.at1 (k := j) (by omega)
      subst hA
      obtain ⟨rfl, rfl⟩ : b = b' ∧ off = off' := by simpa using hA'
      clear hA'
      have hup := steps_up HB.out hx.out hy.out
      have WJ : Hid (IntKind.i64.wrap (j : Int) = (j : Int)) := IntWalk.i64_in _ (by omega)
      go_wp2
      have wj0 : (0 : Int) ≤ j := by omega
      have wjn : (j : Int) < N3 := by omega
      have wj := WJ.out
      go_quiet (fail)
      clear wj wj0 wjn
      go_wp2
      go_roundw
      case rel => exact ⟨j + 1 + 1, m + nq, by omega, by omega, by go_num, b_drewN hw.out nq⟩
      case measure => simp [intOf]; omega
    · have bw : Below (w.alloc (.cells #[.int .i64 s2a, .int .i64 s2b] 58)).heap.size (w.alloc (.cells #[.int .i64 s2a, .int .i64 s2b] 58)) wr := by rw [hw.out]; exact below_dN b3 m
      clear R3 hw b3
      have rr := (rd0.alloc (.cells #[.int .i64 s2a, .int .i64 s2b] 58)).below bw (Nat.le_refl _)
      have q0 := boxed_cell bw 0
      have q1 := boxed_cell bw 1
      go_wp2_with fail
      refine (HP.out _ rr).mono ?_
      rintro e w4 ⟨rfl, b4'⟩
      have b4 := bw.trans (b4'.mono bw.size)
      clear q0 q1
      have rr4 := (rd0.alloc (.cells #[.int .i64 s2a, .int .i64 s2b] 58)).below b4 (Nat.le_refl _)
      have q0 := boxed_cell b4 0
      have q1 := boxed_cell b4 1
      have hR4 : Rd one 1 w4 A3 N3 (bSteps l0 a1) := hR.below b4' (Nat.le_refl _)
      clear hR rr bw b4'
      go_wp2_with fail
      refine (HP'.out _ rr4).mono ?_
      rintro e w5 ⟨rfl, b5'⟩
      have b5 := b4.trans (b5'.mono b4.size)
      have rr5 := (rd0.alloc (.cells #[.int .i64 s2a, .int .i64 s2b] 58)).below b5 (Nat.le_refl _)
      have hR5 : Rd one 1 w5 A3 N3 (bSteps l0 a1) := hR4.below b5' (Nat.le_refl _)
      clear hR4 rr4 b4 b5' q0 q1
      go_wp2_with fail
      clear hR5
      go_loopw [113] (fun i wq => ∃ k : Nat, k ≤ n0 ∧ i = .int .i64 k ∧ Below (w.alloc (.cells #[.int .i64 s2a, .int .i64 s2b] 58)).heap.size (w.alloc (.cells #[.int .i64 s2a, .int .i64 s2b] 58)) wq) (fun i _ => n0 - (intOf i).toNat)
      case atStart => exact ⟨0, Nat.zero_le _, rfl, b5⟩
      case round =>
        obtain ⟨k, hk, rfl, bq⟩ := hrel
        have rq := (rd0.alloc (.cells #[.int .i64 s2a, .int .i64 s2b] 58)).below bq (Nat.le_refl _)
        have hqs := bq.size
        by_cases hlt : k < n0
        · obtain ⟨x, y, b, off, hA, hx, hcx, hcy⟩ := rq.at2 hlt
          have hbd := bUp_bd (fun j hj => (bandB_up HB.out).1 j (by have := hl.out; omega)) hx.out
          obtain ⟨x0, x1, _, _⟩ := hbd
          have PO := Lib.hid (price_own HB.out hx.out)
          subst hA
          go_wp2_with (go_at_call 25; refine (price_is PO.out (rq.alloc (.cells #[.int .i64 x, .int .i64 y] 60)) HB.out x0 x1).mono ?_; rintro e w6 ⟨rfl, b6'⟩; have b6 : Below (w.alloc (.cells #[.int .i64 s2a, .int .i64 s2b] 58)).heap.size (w.alloc (.cells #[.int .i64 s2a, .int .i64 s2b] 58)) w6 := (bq.alloc hqs _).trans (b6'.mono (by simp at hqs ⊢; omega)); have z0 := boxed_cell b6' 0; have z1 := boxed_cell b6' 1)
          go_roundw
          case rel => exact ⟨k + 1, by omega, by go_num, b6⟩
          case measure => simp [intOf]; omega
        · go_wp2
          go_ret
          exact ⟨rfl, below_boxed bq⟩

theorem walk (A0 : Option Addr) (n0 c0 : Nat) (l0 : List (Int × Int)) (a1 : Int) (s2a s2b : Int) (w : World) (rd0 : Rd two 2 w A0 n0 l0) (ft0 : ∀ r ∈ l0, ∀ v ∈ two r, Fits v) (ge0 : n0 ≤ c0) (mx0 : c0 ≤ maxLen) (w1 : (Lit.int .i64 a1).wf = true) (ws2a : (Lit.int .i64 s2a).wf = true) (ws2b : (Lit.int .i64 s2b).wf = true) :
    Calls Try.prog 8 #[.slice A0 n0 c0, .int .i64 a1, .agg #[.int .i64 s2a, .int .i64 s2b]] w fun e w' => e = .returned (.bool true) ∧ Below w.heap.size w w' := by
  have hm0 : n0 ≤ 9223372036854775807 := by unfold maxLen at mx0; omega
  rcases Nat.lt_or_ge 200 n0 with h | h
  · exact long A0 n0 c0 l0 a1 s2a s2b w rd0 hm0 h
  · rcases hB : bandB l0 a1 with _ | _
    · exact wrong A0 n0 c0 l0 a1 s2a s2b w rd0 hm0 h hB
    · rcases answers l0 a1 (min s2a s2b) A0 n0 c0 hB hm0 with ⟨_, h2, h3⟩ | h3 <;> rcases answers l0 a1 (max s2a s2b) A0 n0 c0 hB hm0 with ⟨_, k2, k3⟩ | k3
      · exact both A0 n0 c0 l0 a1 s2a s2b _ _ w rd0 hm0 h hB h3 k3 (price_in hB h2) (price_in hB k2) (bPrice_mono hB (by omega))
      · exact noC A0 n0 c0 l0 a1 s2a s2b _ _ w rd0 hm0 h hB h3 k3
      · exact noA A0 n0 c0 l0 a1 s2a s2b _ _ w rd0 hm0 h hB h3 k3
      · exact noB A0 n0 c0 l0 a1 s2a s2b _ _ w rd0 hm0 h hB h3 k3
end Go.Proofs.Ytceohmbjajhlcaa.bandRisesWalk
