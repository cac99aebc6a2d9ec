/-
  The functions of the package dwell, and of its reference, on runs: which runs are right, the checkout, the stop of a time. No conditions but the arguments' readings; the checkout for runs that are right.
-/
import Derived.Test.YtceohmbjajhlcaaRows
import Derived.Test.YtceohmbjajhlcaaBase
import Derived.ScopeJumps
namespace Go.Proofs.Ytceohmbjajhlcaa
open Go.ChangeShapes Go.WideShapes Go.ChangeAt Go.RowKit
set_option linter.unusedVariables false

/-- A run: the stop, from, to. -/
abbrev Run := Int × Int × Int
theorem drewN_more {w wr : World} {m : Nat} (h : wr = w.drewN m) (k : Nat) : wr.drewN k = w.drewN (m + k) := by rw [h, World.drewN_drewN]

/-- Of the first k runs the last one that began by then: its stop, and whether there is one. -/
def atTo (l : List Run) (t : Int) : Nat → Int × Bool
  | 0 => (0, false)
  | k + 1 => match l[k]? with
    | some r => if r.2.1 ≤ t then (r.1, true) else atTo l t k
    | none => atTo l t k
theorem atTo_yes {l : List Run} {t x y z : Int} {k : Nat} (h : l[k]? = some (x, y, z)) (hy : y ≤ t) : atTo l t (k + 1) = (x, true) := by
  rw [atTo, h]; exact if_pos hy
theorem atTo_no {l : List Run} {t x y z : Int} {k : Nat} (h : l[k]? = some (x, y, z)) (hy : ¬ y ≤ t) : atTo l t (k + 1) = atTo l t k := by
  rw [atTo, h]; exact if_neg hy

theorem goAt (A : Option Addr) (n c : Nat) (l : List Run) (t : Int) (w : World) (h : Rd three 3 w A n l) (hm : n ≤ 9223372036854775807) :
    Calls Try.prog 22 #[.slice A n c, .int .i64 t] w fun e w' => e = .returned (.tuple #[.int .i64 (atTo l t n).1, .bool (atTo l t n).2]) ∧ w' = w := by
  go_enter Try.func22, Try.ntmps22
  go_wp2
  refine wp_scope_jumps 0 (fun a' w' => w' = w ∧ ∃ (k : Nat) (u7 u8 u9 u10 u11 u12 u13 u14 u15 u16 u17 u18 u19 u20 u21 u22 u23 u24 u25 : Value), a' = { tmps := #[.slice A n c, .int .i64 t, undef, undef, .int .i64 0, .bool false, .int .i64 ((k : Int) - 1), u7, u8, u9, u10, u11, u12, u13, u14, u15, u16, u17, u18, u19, u20, u21, u22, u23, u24, u25], defers := [] } ∧ k ≤ n ∧ Hid (atTo l t k = atTo l t n)) (fun a' _ => (intOf (a'.tmps.getD 6 undef) + 1).toNat) rfl ?_ ?_
  · go_wp2
    go_step3
    rcases Nat.eq_zero_or_pos n with rfl | hpos
    · go_wp2
      simp only [Exit.jump]
      go_ret2
      exact ⟨ret_ib rfl rfl, rfl⟩
    · obtain ⟨j, rfl⟩ : ∃ j, n = j + 1 := ⟨n - 1, by omega⟩
      obtain ⟨x, y, z, b, off, hA, hx, hc0, hc1, hc2⟩ := h.at3 (k := j) (by omega)
      subst hA
      by_cases hy : y ≤ t
      · go_wp2
        simp only [Exit.jump]
        go_ret2
        exact ⟨ret_ib (by rw [atTo_yes hx.out hy]) (by rw [atTo_yes hx.out hy]), rfl⟩
      · go_wp2
        go_step3
        exact ⟨rfl, rfl, j, _, _, _, _, _, _, _, _, _, _, _, _, _, _, _, _, _, _, _, rfl, by omega, (atTo_no hx.out (by omega)).symm⟩
  · rintro a' w' ⟨rfl, k, u7, u8, u9, u10, u11, u12, u13, u14, u15, u16, u17, u18, u19, u20, u21, u22, u23, u24, u25, rfl, hk, hs⟩
    rcases Nat.eq_zero_or_pos k with rfl | hpos
    · go_wp2
      simp only [Exit.jump]
      go_ret2
      exact ⟨ret_ib (by rw [← hs.out]; rfl) (by rw [← hs.out]; rfl), rfl⟩
    · obtain ⟨j, rfl⟩ : ∃ j, k = j + 1 := ⟨k - 1, by omega⟩
      obtain ⟨x, y, z, b, off, hA, hx, hc0, hc1, hc2⟩ := h.at3 (k := j) (by omega)
      subst hA
      by_cases hy : y ≤ t
      · go_wp2
        simp only [Exit.jump]
        go_ret2
        exact ⟨ret_ib (by rw [← hs.out, atTo_yes hx.out hy]) (by rw [← hs.out, atTo_yes hx.out hy]), rfl⟩
      · go_wp2
        go_step3
        refine ⟨rfl, ⟨rfl, j, _, _, _, _, _, _, _, _, _, _, _, _, _, _, _, _, _, _, _, rfl, by omega, (atTo_no hx.out (by omega)).symm.trans hs.out⟩, ?_⟩
        simp [intOf]

theorem refAt (A : Option Addr) (n c : Nat) (l : List Run) (t : Int) (w : World) (h : Rd three 3 w A n l) (hm : n ≤ 9223372036854775807) :
    Calls Try.prog 23 #[.slice A n c, .int .i64 t] w fun e w' => e = .returned (.tuple #[.int .i64 (atTo l t n).1, .bool (atTo l t n).2]) ∧ w' = w := by
  go_enter Try.func23, Try.ntmps23
  go_wp2
  go_loop [8, 6, 7] (fun i s o => ∃ (k : Nat) (S : Int) (O : Bool), k ≤ n ∧ i = .int .i64 k ∧ s = .int .i64 S ∧ o = .bool O ∧ Hid (atTo l t k = (S, O))) (fun i _ _ => n - (intOf i).toNat)
  case atStart => exact ⟨0, 0, false, Nat.zero_le _, rfl, rfl, rfl, rfl⟩
  case round =>
    obtain ⟨k, S, O, hk, rfl, rfl, rfl, hs⟩ := hrel
    by_cases hlt : k < n
    · obtain ⟨x, y, z, b, off, hA, hx, hc0, hc1, hc2⟩ := h.at3 hlt
      subst hA
      by_cases hy : y ≤ t
      · have G := Lib.hid (atTo_yes hx.out hy)
        go_wp2
        go_round
        case rel => exact ⟨k + 1, x, true, by omega, by go_num, rfl, rfl, G.out⟩
        case measure => simp [intOf]; omega
      · have G := Lib.hid (atTo_no hx.out hy)
        go_wp2
        go_round
        case rel => exact ⟨k + 1, S, O, by omega, by go_num, rfl, rfl, G.out.trans hs.out⟩
        case measure => simp [intOf]; omega
    · obtain rfl : k = n := by omega
      go_wp2
      go_ret2
      exact ⟨ret_ib (by rw [hs.out]) (by rw [hs.out]), rfl⟩

/-- Does a run last as long? -/
def lasts (l : List Run) (least : Int) (j : Nat) : Prop := ∃ r, l[j]? = some r ∧ least ≤ r.2.2 - r.2.1
/-- The checkout of runs, of which there are some. -/
def IsChk (l : List Run) (least : Int) (i : Nat) : Prop := i < l.length ∧ (∀ j, 1 ≤ j → j < i → ¬ lasts l least j) ∧ (i + 1 = l.length ∨ 1 ≤ i ∧ lasts l least i)
theorem chk_same {l : List Run} {least : Int} {i k : Nat} (h : IsChk l least i) (h' : IsChk l least k) : i = k := by
  rcases Nat.lt_trichotomy i k with hlt | rfl | hlt
  · obtain ⟨h1, _, h3⟩ := h
    rcases h3 with h3 | ⟨h3, h4⟩
    · have := h'.1; omega
    · exact absurd h4 (h'.2.1 i h3 hlt)
  · rfl
  · obtain ⟨h1, _, h3⟩ := h'
    rcases h3 with h3 | ⟨h3, h4⟩
    · have := h.1; omega
    · exact absurd h4 (h.2.1 k h3 hlt)
theorem lasts_iff {l : List Run} {least x y z : Int} {j : Nat} (h : l[j]? = some (x, y, z)) : lasts l least j ↔ least ≤ z - y := by
  unfold lasts
  rw [h]
  simp
/-- Times of runs that are right. -/
def Timed (l : List Run) : Prop := ∀ r ∈ l, 0 ≤ r.2.1 ∧ r.2.1 ≤ r.2.2 ∧ r.2.2 ≤ 1099511627776
def ToldChk (l : List Run) (least : Int) (w : World) (e : Ending) (w' : World) : Prop := ∃ i : Nat, IsChk l least i ∧ e = .returned (.tuple #[.int .i64 i, .bool true]) ∧ ∃ m, w' = w.drewN m

theorem refChk_none (A : Option Addr) (c : Nat) (least : Int) (w : World) :
    Calls Try.prog 21 #[.slice A 0 c, .int .i64 least] w fun e w' => e = .returned (.tuple #[.int .i64 0, .bool false]) ∧ w' = w := by
  go_enter Try.func21, Try.ntmps21
  go_wp2
  go_loop [6] (fun i => i = .int .i64 1) (fun _ => 0)
  case atStart => exact rfl
  case round =>
    obtain rfl := hrel
    go_wp2
    go_ret2
    exact ⟨rfl, rfl⟩

set_option maxHeartbeats 400000 in
theorem refChk (A : Option Addr) (n c : Nat) (l : List Run) (least : Int) (w : World) (h : Rd three 3 w A n l) (hm : n ≤ 9223372036854775807) (ht : Timed l) (h0 : 0 < n) :
    Calls Try.prog 21 #[.slice A n c, .int .i64 least] w (ToldChk l least w) := by
  have b0 : ((n : Int) == 0) = false := by simp; omega
  go_enter Try.func21, Try.ntmps21
  go_wp2
  go_loopw [6] (fun i wr => ∃ k m : Nat, 1 ≤ k ∧ (k ≤ n ∨ k = 1) ∧ i = .int .i64 k ∧ Hid (∀ j, 1 ≤ j → j < k → ¬ lasts l least j) ∧ Hid (wr = w.drewN m)) (fun i _ => n + 1 - (intOf i).toNat)
  case atStart => exact ⟨1, 0, Nat.le_refl _, .inr rfl, rfl, fun j h1 h2 => absurd h2 (by omega), rfl⟩
  case round =>
    obtain ⟨k, m, hk1, hk, rfl, hs, hw⟩ := hrel
    have hR : Rd three 3 wr A n l := by rw [hw.out]; exact h.drewN _
    by_cases hlt : k < n
    · obtain ⟨x, y, z, b, off, hA, hx, hc0, hc1, hc2⟩ := hR.at3 hlt
      subst hA
      obtain ⟨t0, t1, t2⟩ := ht _ (mem_of_at hx.out)
      dsimp only at t0 t1 t2
      by_cases hy : least ≤ z - y
      · have G : Hid (IsChk l least k) := ⟨by rw [← h.1]; exact hlt, hs.out, .inr ⟨hk1, (lasts_iff hx.out).2 hy⟩⟩
        go_wp2
        go_quiet (fail)
        go_wp2
        go_ret2
        exact ⟨k, G.out, rfl, m + nq, drewN_more hw.out nq⟩
      · have G : Hid (∀ j, 1 ≤ j → j < k + 1 → ¬ lasts l least j) := fun j h1 h2 => by
          rcases Nat.lt_or_ge j k with h3 | h3
          · exact hs.out j h1 h3
          · obtain rfl : j = k := by omega
            exact fun hl => hy ((lasts_iff hx.out).1 hl)
        go_wp2
        go_quiet (fail)
        go_wp2
        go_roundw
        case rel => exact ⟨k + 1, m + nq, by omega, by omega, by go_num, G.out, drewN_more hw.out nq⟩
        case measure => simp [intOf]; omega
    · have G : Hid (IsChk l least (n - 1)) := ⟨by rw [← h.1]; omega, fun j h1 h2 => hs.out j h1 (by omega), .inl (by rw [← h.1]; omega)⟩
      obtain ⟨j, rfl⟩ : ∃ j, n = j + 1 := ⟨n - 1, by omega⟩
      go_wp2
      go_ret2
      exact ⟨j, G.out, rfl, m, hw.out⟩

theorem goChk_none (A : Option Addr) (c : Nat) (least : Int) (w : World) :
    Calls Try.prog 20 #[.slice A 0 c, .int .i64 least] w fun e w' => e = .returned (.tuple #[.int .i64 0, .bool false]) ∧ w' = w := by
  go_enter Try.func20, Try.ntmps20
  go_wp2
  go_step3
  go_wp2
  rw [Exit.noGoto_ret]
  go_ret2
  exact ⟨rfl, rfl⟩

/-- Where the checkout's search stands at its label. -/
def ChkAt (A : Option Addr) (n c : Nat) (l : List Run) (least : Int) (w : World) (a' : Act) (w' : World) : Prop := ∃ (k m : Nat) (u7 u8 u9 u10 u11 u12 u13 u14 u15 u16 u17 u18 u19 u20 u21 u22 u23 u24 u25 u26 u27 u28 u29 u30 u31 u32 u33 u34 u35 u36 : Value), a' = { tmps := #[.slice A n c, .int .i64 least, undef, undef, .int .i64 0, .bool false, .int .i64 k, u7, u8, u9, u10, u11, u12, u13, u14, u15, u16, u17, u18, u19, u20, u21, u22, u23, u24, u25, u26, u27, u28, u29, u30, u31, u32, u33, u34, u35, u36], defers := [] } ∧ 1 ≤ k ∧ (k ≤ n ∨ k = 1) ∧ Hid (∀ j, 1 ≤ j → j < k → ¬ lasts l least j) ∧ Hid (w' = w.drewN m)

set_option maxHeartbeats 1000000 in
theorem goChk (A : Option Addr) (n c : Nat) (l : List Run) (least : Int) (w : World) (h : Rd three 3 w A n l) (hm : n ≤ 9223372036854775807) (ht : Timed l) (h0 : 0 < n) :
    Calls Try.prog 20 #[.slice A n c, .int .i64 least] w (ToldChk l least w) := by
  have b0 : ((n : Int) == 0) = false := by simp; omega
  go_enter Try.func20, Try.ntmps20
  go_wp2
  refine wp_scope_jumps 0 (ChkAt A n c l least w) (fun a' _ => n + 1 - (intOf (a'.tmps.getD 6 undef)).toNat) rfl ?_ ?_
  · go_wp2
    go_step3
    have none : Hid (∀ j, 1 ≤ j → j < 1 → ¬ lasts l least j) := fun j h1 h2 => absurd h2 (by omega)
    by_cases hlt : 2 < n
    · obtain ⟨x, y, z, b, off, hA, hx, hc0, hc1, hc2⟩ := h.at3 (k := 1) (by omega)
      subst hA
      obtain ⟨t0, t1, t2⟩ := ht _ (mem_of_at hx.out)
      dsimp only at t0 t1 t2
      have hlt' : (1 : Int) < (n : Int) - 1 := by omega
      have hkn : (1 : Int) < n := by omega
      rw [Nat.one_mul] at hc0 hc1 hc2
      by_cases hy : least ≤ z - y
      · have G : Hid (IsChk l least 1) := ⟨by rw [← h.1]; omega, none.out, .inr ⟨by omega, (lasts_iff hx.out).2 hy⟩⟩
        go_wp2
        go_quiet (fail)
        go_wp2
        simp only [Exit.jump]
        go_ret2
        exact ⟨1, G.out, ret_ib (by omega) rfl, nq, rfl⟩
      · have G : Hid (∀ j, 1 ≤ j → j < 1 + 1 → ¬ lasts l least j) := fun j h1 h2 => by
          obtain rfl : j = 1 := by omega
          exact fun hl => hy ((lasts_iff hx.out).1 hl)
        go_wp2
        go_quiet (fail)
        go_wp2
        go_step3
        exact ⟨rfl, by unfold ChkAt; exact ⟨2, nq, _, _, _, _, _, _, _, _, _, _, _, _, _, _, _, _, _, _, _, _, _, _, _, _, _, _, _, _, _, _, rfl, by omega, by omega, G.out, rfl⟩⟩
    · have hlt' : decide ((1 : Int) < (n : Int) - 1) = false := by simp; omega
      have hge : (n : Int) - 1 ≤ 1 := by omega
      have G : Hid (IsChk l least (n - 1)) := ⟨by rw [← h.1]; omega, fun j h1 h2 => absurd h2 (by omega), .inl (by rw [← h.1]; omega)⟩
      go_wp2
      go_quiet (fail)
      go_wp2
      all_goals
        simp only [Exit.jump]
        go_ret2
        exact ⟨n - 1, G.out, ret_ib (by omega) rfl, nq, rfl⟩
  · rintro a' w' ⟨k, m, u7, u8, u9, u10, u11, u12, u13, u14, u15, u16, u17, u18, u19, u20, u21, u22, u23, u24, u25, u26, u27, u28, u29, u30, u31, u32, u33, u34, u35, u36, rfl, hk1, hk, hs, hw⟩
    have hR : Rd three 3 w' A n l := by rw [hw.out]; exact h.drewN _
    by_cases hlt : k + 1 < n
    · obtain ⟨x, y, z, b, off, hA, hx, hc0, hc1, hc2⟩ := hR.at3 (k := k) (by omega)
      subst hA
      obtain ⟨t0, t1, t2⟩ := ht _ (mem_of_at hx.out)
      dsimp only at t0 t1 t2
      have hlt' : (k : Int) < (n : Int) - 1 := by omega
      have hkn : (k : Int) < n := by omega
      by_cases hy : least ≤ z - y
      · have G : Hid (IsChk l least k) := ⟨by rw [← h.1]; omega, hs.out, .inr ⟨by omega, (lasts_iff hx.out).2 hy⟩⟩
        go_wp2
        go_quiet (fail)
        go_wp2
        simp only [Exit.jump]
        go_ret2
        exact ⟨k, G.out, ret_ib (by omega) rfl, m + nq, (by show _ = _; rw [hw.out, World.drewN_drewN])⟩
      · have G : Hid (∀ j, 1 ≤ j → j < k + 1 → ¬ lasts l least j) := fun j h1 h2 => by
          rcases Nat.lt_or_ge j k with h3 | h3
          · exact hs.out j h1 h3
          · obtain rfl : j = k := by omega
            exact fun hl => hy ((lasts_iff hx.out).1 hl)
        go_wp2
        go_quiet (fail)
        go_wp2
        go_step3
        refine And.intro rfl (And.intro (by unfold ChkAt; exact ⟨k + 1, m + nq, _, _, _, _, _, _, _, _, _, _, _, _, _, _, _, _, _, _, _, _, _, _, _, _, _, _, _, _, _, _, rfl, by omega, by omega, G.out, (by show _ = _; rw [hw.out, World.drewN_drewN])⟩) ?_)
        simp [intOf]; omega
    · have G : Hid (IsChk l least (n - 1)) := ⟨by rw [← h.1]; omega, fun j h1 h2 => hs.out j h1 (by omega), .inl (by rw [← h.1]; omega)⟩
      have hlt' : decide ((k : Int) < (n : Int) - 1) = false := by simp; omega
      have hge : (n : Int) - 1 ≤ k := by omega
      go_wp2
      go_quiet (fail)
      go_wp2
      all_goals
        simp only [Exit.jump]
        go_ret2
        exact ⟨n - 1, G.out, ret_ib (by omega) rfl, m + nq, (by show _ = _; rw [hw.out, World.drewN_drewN])⟩
end Go.Proofs.Ytceohmbjajhlcaa
