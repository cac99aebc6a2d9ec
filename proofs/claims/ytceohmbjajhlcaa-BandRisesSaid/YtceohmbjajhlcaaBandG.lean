/-
  The functions Right, first, Price of the package band, and Right and Price of its reference, return what the plain functions bandB and bPrice compute. No conditions but the arguments' readings.
-/
import Derived.Test.YtceohmbjajhlcaaRows
import Derived.Test.YtceohmbjajhlcaaBandP
import Derived.ScopeJumps
namespace Go.Proofs.Ytceohmbjajhlcaa
open Go.ChangeShapes Go.WideShapes Go.ChangeAt Go.RowKit
set_option linter.unusedVariables false

theorem b_drewN {w wr : World} {m : Nat} (h : wr = w.drewN m) (k : Nat) : wr.drewN k = w.drewN (m + k) := by rw [h, World.drewN_drewN]
theorem wp_scope_again' {P : Program} {Q : Exit → Act → World → Prop} {a : Act} {w : World} {c rest : Code} (l : Nat) (J : Act → World → Prop) (μ : Act → World → Nat) (hf : findLabel c l = some rest)
    (pass : ∀ a w, J a w → rest.wp P (Exit.jump l (fun a' w' => J a' w' ∧ μ a' w' < μ a w) Q) a w)
    (first : (∀ a w, J a w → rest.wp P (Exit.jump l J Q) a w) → c.wp P (Exit.jump l J Q) a w) : (Code.scope c).wp P Q a w :=
  wp_scope_jumps l J μ hf (first fun a w h => Code.wp_mono (fun e a' w' hh => by
    cases e <;> first | exact hh | exact ⟨hh.1, hh.2.1⟩) (pass a w h)) pass

theorem wp_scope_skip {P : Program} {Q : Exit → Act → World → Prop} {a : Act} {w : World} {c rest : Code} (l : Nat) (J : Act → World → Prop) (μ : Act → World → Nat) (hf : findLabel c l = some (.seq .skip rest))
    (pass : ∀ a w, J a w → rest.wp P (Exit.jump l (fun a' w' => J a' w' ∧ μ a' w' < μ a w) Q) a w)
    (first : (∀ a w, J a w → rest.wp P (Exit.jump l J Q) a w) → c.wp P (Exit.jump l J Q) a w) : (Code.scope c).wp P Q a w :=
  wp_scope_jumps l J μ hf (first fun a w h => Code.wp_mono (fun e a' w' hh => by
    cases e <;> first | exact hh | exact ⟨hh.1, hh.2.1⟩) (pass a w h)) (fun a w h => wp_seq (wp_skip (pass a w h)))

theorem bWithin_yes (a lo hi : Int) (w : World) (h1 : lo ≤ a) (h2 : a ≤ hi) : Calls Try.prog 40 #[.int .i64 a, .int .i64 lo, .int .i64 hi] w fun e w' => e = .returned (.bool true) ∧ w = w' := by
  go_enter Try.func40, Try.ntmps40
  go_wp2
  go_ret
  exact ⟨ret_bool (by first | rfl | (simp; omega)), rfl⟩
theorem bWithin_no (a lo hi : Int) (w : World) (h : a < lo ∨ hi < a) : Calls Try.prog 40 #[.int .i64 a, .int .i64 lo, .int .i64 hi] w fun e w' => e = .returned (.bool false) ∧ w = w' := by
  by_cases h1 : lo ≤ a
  · have h2 : hi < a := by omega
    clear h
    go_enter Try.func40, Try.ntmps40
    go_wp2
    go_ret
    exact ⟨ret_bool (by first | rfl | (simp; omega)), rfl⟩
  · have h2 : a < lo := by omega
    clear h h1
    go_enter Try.func40, Try.ntmps40
    go_wp2
    go_ret
    exact ⟨ret_bool (by first | rfl | (simp; omega)), rfl⟩

set_option maxHeartbeats 1600000 in
theorem goBand (A : Option Addr) (n c : Nat) (l : List (Int × Int)) (over : Int) (w : World) (h : Rd two 2 w A n l) (hm : n ≤ 9223372036854775807) :
    Calls Try.prog 27 #[.slice A n c, .int .i64 over] w fun e w' => e = .returned (.bool (bandB l over)) ∧ Below w.heap.size w w' := by
  by_cases h64 : 64 < n
  · have H : Hid (bandB l over = false) := by show _ = _; rw [bandB, ← h.1]; simp; omega
    go_enter Try.func27, Try.ntmps27
    go_wp2
    go_ret
    exact ⟨ret_bool H.out.symm, Below.refl _ _⟩
  go_enter Try.func27, Try.ntmps27
  go_wp2
  go_loopw [14] (fun i wr => ∃ (k : Nat) (f s : Int), k ≤ n ∧ i = .int .i64 k ∧ Hid (bAhead l k = (f, s)) ∧ Hid (BUp l k) ∧ Hid (Bk wr w.heap.size 60 #[.int .i64 f, .int .i64 s]) ∧ Below w.heap.size w wr) (fun i _ => n - (intOf i).toNat)
  case atStart => exact ⟨0, -1, 0, Nat.zero_le _, rfl, rfl, fun j hj => absurd hj (by omega), Bk.new _ _ _, (Below.refl _ _).alloc (Nat.le_refl _) _⟩
  case round =>
    obtain ⟨k, f, s, hk, rfl, ha, hu, hbk, hb⟩ := hrel
    have c0 := hbk.out.cell 0
    have c1 := hbk.out.cell 1
    have z0 := hbk.out.free 0
    have z1 := hbk.out.free 1
    have hlt' := hbk.out.lt
    by_cases hlt : k < n
    · obtain ⟨x, y, b, off, hA, hx, hcx, hcy⟩ := (h.below hb (Nat.le_refl _)).at2 hlt
      subst hA
      have hkl : k < l.length := by have := h.1; omega
      have bad : ¬ (f < x ∧ x ≤ 4294967296 ∧ s ≤ y ∧ y ≤ 16777216) → Hid (bandB l over = false) := fun hn => bandB_bad hkl (by rw [bOk_iff hx.out ha.out]; simpa using hn)
      have good : (f < x ∧ x ≤ 4294967296 ∧ s ≤ y ∧ y ≤ 16777216) → Hid (BUp l (k + 1)) := fun hn => bUp_succ hu.out (by rw [bOk_iff hx.out ha.out]; simpa using hn)
      have hsz : w.heap.size ≤ wr.heap.size := by omega
      by_cases h1 : f < x
      · by_cases h2 : x ≤ 4294967296
        · by_cases h3 : s ≤ y ∧ y ≤ 16777216
          · have G := good ⟨h1, h2, h3⟩
            obtain ⟨h3, h4⟩ := h3
            clear bad good
            go_wp2_with (go_at_call 40; refine (bWithin_yes _ _ _ _ h3 h4).mono ?_; rintro e w' ⟨rfl, rfl⟩)
            go_roundw
            case rel => exact ⟨k + 1, x, y, by omega, by go_num, bAhead_succ hx.out, G.out, ((hbk.out.put 0 (.int .i64 x)).put 1 (.int .i64 y)).alloc _, ((hb.setCell (Nat.le_refl _) _).setCell (Nat.le_refl _) _).alloc (by simpa [World.setCell] using hsz) _⟩
            case measure => simp [intOf]; omega
          · have G := bad (fun hh => h3 hh.2.2)
            have h3' : y < s ∨ 16777216 < y := by omega
            have H3 := Lib.hid h3'
            clear bad good h3 h3'
            go_wp2_with (go_at_call 40; refine (bWithin_no _ _ _ _ H3.out).mono ?_; rintro e w' ⟨rfl, rfl⟩)
            go_ret
            exact ⟨ret_bool G.out.symm, hb.alloc hsz _⟩
        · have G := bad (fun hh => h2 hh.2.1)
          clear bad good
          go_wp2_with fail
          go_ret
          exact ⟨ret_bool G.out.symm, hb.alloc hsz _⟩
      · have G := bad (fun hh => h1 hh.1)
        clear bad good
        go_wp2_with fail
        go_ret
        exact ⟨ret_bool G.out.symm, hb.alloc hsz _⟩
    · obtain rfl : k = n := by omega
      have hn := h.1
      have H : Hid (bandB l over = decide (s ≤ over ∧ over ≤ 16777216)) := by
        show _ = _
        rw [bandB_end (by rw [← hn]; exact hu.out), ← hn, ha.out]; simp; omega
      clear hn
      by_cases h3 : s ≤ over ∧ over ≤ 16777216
      · have G : Hid (bandB l over = true) := by show _ = _; rw [H.out]; simpa using h3
        obtain ⟨h3, h4⟩ := h3
        go_wp2_with (go_at_call 40; refine (bWithin_yes _ _ _ _ h3 h4).mono ?_; rintro e w' ⟨rfl, rfl⟩)
        go_ret
        exact ⟨ret_bool G.out.symm, hb⟩
      · have G : Hid (bandB l over = false) := by show _ = _; rw [H.out]; simpa using h3
        have h3' : over < s ∨ 16777216 < over := by omega
        have H3 := Lib.hid h3'
        clear h3 h3'
        go_wp2_with (go_at_call 40; refine (bWithin_no _ _ _ _ H3.out).mono ?_; rintro e w' ⟨rfl, rfl⟩)
        go_ret
        exact ⟨ret_bool G.out.symm, hb⟩

set_option maxHeartbeats 2000000 in
theorem refBand (A : Option Addr) (n c : Nat) (l : List (Int × Int)) (over : Int) (w : World) (h : Rd two 2 w A n l) (hm : n ≤ 9223372036854775807) :
    Calls Try.prog 26 #[.slice A n c, .int .i64 over] w fun e w' => e = .returned (.bool (bandB l over)) ∧ ∃ m, w' = w.drewN m := by
  go_enter Try.func26, Try.ntmps26
  go_wp2
  go_loopw [6, 5] (fun i lo wr => ∃ (k m : Nat) (f s : Int), k ≤ n ∧ i = .int .i64 k ∧ lo = .int .i64 s ∧ Hid (bAhead l k = (f, s)) ∧ Hid (BUp l k) ∧ Hid (wr = w.drewN m)) (fun i _ _ => n - (intOf i).toNat)
  case atStart => exact ⟨0, 0, -1, 0, Nat.zero_le _, rfl, rfl, rfl, fun j hj => absurd hj (by omega), rfl⟩
  case round =>
    obtain ⟨k, m, f, s, hk, rfl, rfl, ha, hu, hw⟩ := hrel
    have hR : Rd two 2 wr A n l := by rw [hw.out]; exact h.drewN _
    by_cases hlt : k < n
    · obtain ⟨x, y, b, off, hA, hx, hcx, hcy⟩ := hR.at2 hlt
      subst hA
      have hkl : k < l.length := by have := h.1; omega
      obtain ⟨f0, f1, s0, s1⟩ := bAhead_bd hu.out (by omega) ha.out
      have bad : ¬ (f < x ∧ x ≤ 4294967296 ∧ s ≤ y ∧ y ≤ 16777216) → Hid (bandB l over = false) := fun hn => bandB_bad hkl (by rw [bOk_iff hx.out ha.out]; simpa using hn)
      have good : (f < x ∧ x ≤ 4294967296 ∧ s ≤ y ∧ y ≤ 16777216) → Hid (BUp l (k + 1)) := fun hn => bUp_succ hu.out (by rw [bOk_iff hx.out ha.out]; simpa using hn)
      by_cases h1 : 0 ≤ x
      · by_cases h2 : x ≤ 4294967296
        · by_cases h3 : s ≤ y
          · by_cases h4 : y ≤ 16777216
            · rcases Nat.eq_zero_or_pos k with rfl | hpos
              · rw [Nat.zero_mul, Nat.add_zero] at hcx hcy
                have ha' : (-1, 0) = (f, s) := ha.out
                obtain ⟨rfl, rfl⟩ : -1 = f ∧ 0 = s := by simpa using ha'
                have G := good ⟨by omega, h2, h3, h4⟩
                clear hkl bad good ha'
                go_wp2
                go_quiet (fail)
                go_wp2
                go_roundw
                case rel => exact ⟨1, m + nq, x, y, by omega, rfl, rfl, bAhead_succ hx.out, G.out, b_drewN hw.out nq⟩
                case measure => simp [intOf]; omega
              · obtain ⟨j, rfl⟩ : ∃ j, k = j + 1 := ⟨k - 1, by omega⟩
                obtain ⟨f', s', b', off', hA', hx', hcf, hcs⟩ := hR.at2 (k := j) (by omega)
                obtain ⟨rfl, rfl⟩ : b = b' ∧ off = off' := by simpa using hA'
                obtain ⟨rfl, rfl⟩ : f' = f ∧ s' = s := by have := (bAhead_succ hx'.out).symm.trans ha.out; simpa using this
                clear hA' hpos
                have WJ : Hid (IntKind.i64.wrap (j : Int) = (j : Int)) := IntWalk.i64_in _ (by omega)
                by_cases h5 : f' < x
                · have G := good ⟨h5, h2, h3, h4⟩
                  clear hkl bad good
                  go_wp2
                  have wj0 : (0 : Int) ≤ j := by omega
                  have wjn : (j : Int) < n := by omega
                  have wj := WJ.out
                  go_quiet (fail)
                  clear wj wj0 wjn
                  go_wp2
                  go_roundw
                  case rel => exact ⟨j + 1 + 1, m + nq, x, y, by omega, by go_num, rfl, bAhead_succ hx.out, G.out, b_drewN hw.out nq⟩
                  case measure => simp [intOf]; omega
                · have G := bad (fun hh => h5 hh.1)
                  clear hkl bad good
                  go_wp2
                  have wj0 : (0 : Int) ≤ j := by omega
                  have wjn : (j : Int) < n := by omega
                  have wj := WJ.out
                  go_quiet (fail)
                  clear wj wj0 wjn
                  go_wp2
                  go_ret
                  exact ⟨ret_bool G.out.symm, m + nq, b_drewN hw.out nq⟩
            · have G := bad (fun hh => h4 hh.2.2.2)
              clear bad good
              go_wp2
              go_ret
              exact ⟨ret_bool G.out.symm, m, hw.out⟩
          · have G := bad (fun hh => h3 hh.2.2.1)
            clear bad good
            go_wp2
            go_ret
            exact ⟨ret_bool G.out.symm, m, hw.out⟩
        · have G := bad (fun hh => h2 hh.2.1)
          clear bad good
          go_wp2
          go_ret
          exact ⟨ret_bool G.out.symm, m, hw.out⟩
      · have G := bad (fun hh => h1 (by omega))
        clear bad good
        go_wp2
        go_ret
        exact ⟨ret_bool G.out.symm, m, hw.out⟩
    · obtain rfl : k = n := by omega
      have hn := h.1
      have H : Hid (bandB l over = (decide (k ≤ 64) && decide (s ≤ over ∧ over ≤ 16777216))) := by
        show _ = _
        rw [bandB_end (by rw [← hn]; exact hu.out), ← hn, ha.out]
      clear hn
      by_cases h64 : k ≤ 64
      · by_cases h3 : s ≤ over
        · by_cases h4 : over ≤ 16777216
          all_goals
            go_wp2
            go_ret
            exact ⟨ret_bool (by rw [H.out]; simp; omega), m, hw.out⟩
        · go_wp2
          go_ret
          exact ⟨ret_bool (by rw [H.out]; simp; omega), m, hw.out⟩
      · go_wp2
        go_ret
        exact ⟨ret_bool (by rw [H.out]; simp; omega), m, hw.out⟩

theorem first_same {l : List (Int × Int)} {far : Int} {i j : Nat} (h : IsFirst l far i) (h' : IsFirst l far j) : i = j := by
  rcases Nat.lt_trichotomy i j with hlt | rfl | hlt
  · have hr : l[i]? = some (l[i]'(by have := h'.1; omega)) := List.getElem?_eq_getElem (by have := h'.1; omega)
    have h1 := h'.2.1 i _ hlt hr
    have h2 := h.2.2 _ hr
    omega
  · rfl
  · have hr : l[j]? = some (l[j]'(by have := h.1; omega)) := List.getElem?_eq_getElem (by have := h.1; omega)
    have h1 := h.2.1 j _ hlt hr
    have h2 := h'.2.2 _ hr
    omega

/-- Where the search by halves stands at its label. -/
def FirstAt (A : Option Addr) (n c : Nat) (l : List (Int × Int)) (far : Int) (w : World) (a' : Act) (w' : World) : Prop := w' = w ∧ ∃ (lo hi : Nat) (L H : Int) (u7 u8 u9 u10 u11 u12 u13 u14 u15 u16 u17 u18 u19 u20 u21 u22 u23 u24 u25 u26 u27 : Value), a' = { tmps := #[.slice A n c, .int .i64 far, undef, undef, .int .i64 0, .int .i64 L, .int .i64 H, u7, u8, u9, u10, u11, u12, u13, u14, u15, u16, u17, u18, u19, u20, u21, u22, u23, u24, u25, u26, u27], defers := [] } ∧ Hid (L = lo) ∧ Hid (H = hi) ∧ lo ≤ hi ∧ hi ≤ n ∧ Hid (Short l far lo) ∧ Hid (∀ r, l[hi]? = some r → far ≤ r.1)

set_option maxRecDepth 100000 in
set_option maxHeartbeats 1000000 in
theorem goFirst (A : Option Addr) (n c : Nat) (l : List (Int × Int)) (far : Int) (w : World) (i : Nat) (h : Rd two 2 w A n l) (hm : n ≤ 4611686018427387903) (hu : BUp l l.length) (hi : IsFirst l far i) :
    Calls Try.prog 41 #[.slice A n c, .int .i64 far] w fun e w' => e = .returned (.int .i64 i) ∧ w = w' := by
  have HI := Lib.hid hi
  have HU := Lib.hid hu
  clear hi hu
  go_enter Try.func41, Try.ntmps41
  go_wp2
  refine wp_scope_skip 0 (FirstAt A n c l far w) (fun a' _ => (intOf (a'.tmps.getD 6 undef) - intOf (a'.tmps.getD 5 undef)).toNat) rfl ?pass ?first
  case first =>
    intro again
    have AG := Lib.hid again
    clear again
    go_wp2
    go_step3
    rename_i hK
    refine hK _ _ (AG.out _ _ ?_)
    unfold FirstAt
    exact ⟨rfl, 0, n, 0, n, _, _, _, _, _, _, _, _, _, _, _, _, _, _, _, _, _, _, _, _, _, rfl, rfl, rfl, by omega, by omega, short_zero _ _, fun r hr => by have := (List.getElem?_eq_some_iff.1 hr).1; have := h.1; omega⟩
  case pass =>
    rintro a' wr ⟨rfl, lo, hh, L, H, u7, u8, u9, u10, u11, u12, u13, u14, u15, u16, u17, u18, u19, u20, u21, u22, u23, u24, u25, u26, u27, rfl, hL, hH, hle, hhn, hs, hf⟩
    obtain rfl := hL.out
    obtain rfl := hH.out
    clear hL hH
    by_cases heq : lo = hh
    · subst heq
      have E : Hid (lo = i) := first_same (l := l) (far := far) ⟨by rw [← h.1]; exact hhn, hs.out, hf.out⟩ HI.out
      go_wp2
      simp only [Exit.jump]
      go_ret
      exact ⟨ret_int (by rw [E.out]), rfl⟩
    · have b0 : (((lo : Nat) : Int) == (hh : Int)) = false := by simp; omega
      obtain ⟨x, y, b, off, hA, hx, hcx, hcy⟩ := h.at2 (k := (lo + hh) / 2) (by omega)
      subst hA
      by_cases hfx : far ≤ x
      · have G : Hid (∀ r, l[(lo + hh) / 2]? = some r → far ≤ r.1) := fun r hr => by rw [hx.out] at hr; injection hr with hr; rw [← hr]; exact hfx
        go_wp2
        go_step3
        refine ⟨rfl, ?_, ?_⟩
        · unfold FirstAt
          exact ⟨rfl, lo, (lo + hh) / 2, lo, (lo + hh) / 2, _, _, _, _, _, _, _, _, _, _, _, _, _, _, _, _, _, _, _, _, _, rfl, rfl, by show _ = _; omega, by omega, by omega, hs.out, G.out⟩
        · simp [intOf]; omega
      · have G : Hid (Short l far ((lo + hh) / 2 + 1)) := short_half HU.out hx.out (by omega)
        go_wp2
        go_step3
        refine ⟨rfl, ?_, ?_⟩
        · unfold FirstAt
          exact ⟨rfl, (lo + hh) / 2 + 1, hh, (lo + hh) / 2 + 1, hh, _, _, _, _, _, _, _, _, _, _, _, _, _, _, _, _, _, _, _, _, _, rfl, by show _ = _; omega, rfl, by omega, by omega, G.out, hf.out⟩
        · simp [intOf]; omega
end Go.Proofs.Ytceohmbjajhlcaa
