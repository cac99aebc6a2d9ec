/-
  The class that pays least: what concession.Best and its reference return is one and the same, by the relation Bst. No conditions but the arguments' readings.
-/
import Derived.Test.YtjnkokfneinjeaaConc
import Derived.Outline
namespace Go.Proofs.Ytjnkokfneinjeaa
open Go.ChangeShapes Go.WideShapes Go.ChangeAt Go.RowKit
set_option linter.unusedVariables false

/-- Of the first k classes the one that pays least is b; -1: none of them is one. -/
def Bst (l cs : List Int) (k : Nat) (b : Int) : Prop :=
  (b = -1 ∧ ∀ (j : Nat) (c : Int), j < k → cs[j]? = some c → ¬ (0 ≤ c ∧ c < l.length)) ∨
  (∃ (i q : Nat) (s : Int), b = q ∧ i < k ∧ cs[i]? = some (q : Int) ∧ l[q]? = some s ∧ ∀ (j : Nat) (c t : Int), j < k → cs[j]? = some c → 0 ≤ c → l[c.toNat]? = some t → s ≤ t ∧ (j < i → s < t))

theorem drewN_more {w wr : World} {m : Nat} (h : wr = w.drewN m) (k : Nat) : wr.drewN k = w.drewN (m + k) := by rw [h, World.drewN_drewN]

theorem bst_zero (l cs : List Int) : Bst l cs 0 (-1) := .inl ⟨rfl, fun j c h => absurd h (by omega)⟩
theorem bst_out {l cs : List Int} {k : Nat} {b c : Int} (h : Bst l cs k b) (hc : cs[k]? = some c) (hno : ¬ (0 ≤ c ∧ c < l.length)) : Bst l cs (k + 1) b := by
  rcases h with ⟨rfl, h⟩ | ⟨i, q, s, rfl, hi, h1, h2, h3⟩
  · refine .inl ⟨rfl, fun j d hj hd => ?_⟩
    rcases Nat.lt_or_ge j k with hjk | hjk
    · exact h j d hjk hd
    · obtain rfl : j = k := by omega
      rw [hc] at hd; injection hd with hd; subst hd; exact hno
  · refine .inr ⟨i, q, s, rfl, by omega, h1, h2, fun j d t hj hd h0 ht => ?_⟩
    rcases Nat.lt_or_ge j k with hjk | hjk
    · exact h3 j d t hjk hd h0 ht
    · obtain rfl : j = k := by omega
      rw [hc] at hd; injection hd with hd; subst hd
      exact absurd ⟨h0, by have := (List.getElem?_eq_some_iff.1 ht).1; omega⟩ hno
theorem bst_keep {l cs : List Int} {k q : Nat} {c s t : Int} (h : Bst l cs k q) (hs : l[q]? = some s) (hc : cs[k]? = some c) (h0 : 0 ≤ c) (ht : l[c.toNat]? = some t) (hle : s ≤ t) : Bst l cs (k + 1) q := by
  rcases h with ⟨h, _⟩ | ⟨i, q', s', hq, hi, h1, h2, h3⟩
  · omega
  · obtain rfl : q = q' := by omega
    rw [hs] at h2; injection h2 with h2; subst h2
    refine .inr ⟨i, q, s, rfl, by omega, h1, hs, fun j d u hj hd hd0 hu => ?_⟩
    rcases Nat.lt_or_ge j k with hjk | hjk
    · exact h3 j d u hjk hd hd0 hu
    · obtain rfl : j = k := by omega
      rw [hc] at hd; injection hd with hd; subst hd
      rw [ht] at hu; injection hu with hu; subst hu
      exact ⟨hle, fun h => absurd h (by omega)⟩
theorem bst_first {l cs : List Int} {k q : Nat} {t : Int} (h : Bst l cs k (-1)) (hc : cs[k]? = some (q : Int)) (ht : l[q]? = some t) : Bst l cs (k + 1) q := by
  rcases h with ⟨_, h⟩ | ⟨i, q', s', hq, _⟩
  · refine .inr ⟨k, q, t, rfl, by omega, hc, ht, fun j d u hj hd hd0 hu => ?_⟩
    rcases Nat.lt_or_ge j k with hjk | hjk
    · exact absurd ⟨hd0, by have := (List.getElem?_eq_some_iff.1 hu).1; omega⟩ (h j d hjk hd)
    · obtain rfl : j = k := by omega
      rw [hc] at hd; injection hd with hd; subst hd
      rw [Int.toNat_natCast, ht] at hu; injection hu with hu; subst hu
      exact ⟨Int.le_refl _, fun h => absurd h (by omega)⟩
  · omega
theorem bst_less {l cs : List Int} {k q p : Nat} {s t : Int} (h : Bst l cs k p) (hs : l[p]? = some s) (hc : cs[k]? = some (q : Int)) (ht : l[q]? = some t) (hlt : t < s) : Bst l cs (k + 1) q := by
  rcases h with ⟨h, _⟩ | ⟨i, q', s', hq, hi, h1, h2, h3⟩
  · omega
  · obtain rfl : p = q' := by omega
    rw [hs] at h2; injection h2 with h2; subst h2
    refine .inr ⟨k, q, t, rfl, by omega, hc, ht, fun j d u hj hd hd0 hu => ?_⟩
    rcases Nat.lt_or_ge j k with hjk | hjk
    · have := (h3 j d u hjk hd hd0 hu).1
      exact ⟨by omega, fun _ => by omega⟩
    · obtain rfl : j = k := by omega
      rw [hc] at hd; injection hd with hd; subst hd
      rw [Int.toNat_natCast, ht] at hu; injection hu with hu; subst hu
      exact ⟨Int.le_refl _, fun h => absurd h (by omega)⟩
theorem bst_ok {l cs : List Int} {k : Nat} {b : Int} (h : Bst l cs k b) : b = -1 ∨ ∃ (q : Nat) (s : Int), b = q ∧ l[q]? = some s := by
  rcases h with ⟨h, _⟩ | ⟨i, q, s, hq, _, _, h2, _⟩
  · exact .inl h
  · exact .inr ⟨q, s, hq, h2⟩
theorem bst_same {l cs : List Int} {k : Nat} {a b : Int} (h : Bst l cs k a) (h' : Bst l cs k b) : a = b := by
  have lt : ∀ {q : Nat} {s : Int}, l[q]? = some s → (0 : Int) ≤ q ∧ (q : Int) < l.length := fun h => by have := (List.getElem?_eq_some_iff.1 h).1; omega
  rcases h with ⟨rfl, h⟩ | ⟨i, q, s, rfl, hi, h1, h2, h3⟩ <;> rcases h' with ⟨rfl, h'⟩ | ⟨i', q', s', rfl, hi', h1', h2', h3'⟩
  · rfl
  · exact absurd (lt h2') (h _ _ hi' h1')
  · exact absurd (lt h2) (h' _ _ hi h1)
  · have a1 := h3 i' q' s' hi' h1' (by omega) (by simpa using h2')
    have a2 := h3' i q s hi h1 (by omega) (by simpa using h2)
    rcases Nat.lt_trichotomy i i' with hlt | rfl | hlt
    · have := a2.2 hlt; omega
    · rw [h1] at h1'; simpa using h1'
    · have := a1.2 hlt; omega

theorem is_yes (A : Option Addr) (n c : Nat) (cl : Int) (w : World) (h0 : 0 ≤ cl) (h1 : cl < n) (hm : n ≤ 9223372036854775807) :
    Calls Try.prog 29 #[.slice A n c, .int .i64 cl] w fun e w' => e = .returned (.bool true) ∧ w' = w := by
  go_enter Try.func29, Try.ntmps29
  go_wp2
  go_ret
  exact ⟨ret_bool (by first | rfl | (simp; omega)), rfl⟩
theorem is_no (A : Option Addr) (n c : Nat) (cl : Int) (w : World) (h0 : cl < 0 ∨ (n : Int) ≤ cl) (hm : n ≤ 9223372036854775807) :
    Calls Try.prog 29 #[.slice A n c, .int .i64 cl] w fun e w' => e = .returned (.bool false) ∧ w' = w := by
  rcases Int.lt_or_le cl 0 with h | h
  · clear h0
    go_enter Try.func29, Try.ntmps29
    go_wp2
    go_ret
    exact ⟨ret_bool (by first | rfl | (simp; omega)), rfl⟩
  · have h1 : (n : Int) ≤ cl := by omega
    clear h0
    go_enter Try.func29, Try.ntmps29
    go_wp2
    go_ret
    exact ⟨ret_bool (by first | rfl | (simp; omega)), rfl⟩

theorem best_no (A B : Option Addr) (n c n' c' : Nat) (l cs : List Int) (w : World) (h : Rd one 1 w A n l) (hm : n ≤ 9223372036854775807) (hr : rightB l = false) :
    Calls Try.prog 19 #[.slice A n c, .slice B n' c'] w fun e w' => e = .returned (.tuple #[.int .i64 0, .bool false]) ∧ w = w' := by
  go_enter Try.func19, Try.ntmps19
  go_wp2
  go_step3
  go_wp2_with (go_at_call 13; refine (goRight _ _ _ _ _ h hm).mono ?_; rintro e w' ⟨rfl, rfl⟩)
  rw [Exit.noGoto_ret]
  go_ret2
  exact ⟨rfl, rfl⟩

/-- What best b is told as. -/
def Told (l cs : List Int) (w : World) (e : Ending) (w' : World) : Prop := ∃ b : Int, Bst l cs cs.length b ∧ e = .returned (.tuple #[.int .i64 (max b 0), .bool (decide (0 ≤ b))]) ∧ ∃ m, w' = w.drewN m

set_option maxHeartbeats 800000 in
theorem best_yes (A B : Option Addr) (n c n' c' : Nat) (l cs : List Int) (w : World) (h : Rd one 1 w A n l) (hm : n ≤ 9223372036854775807) (h' : Rd one 1 w B n' cs) (hm' : n' ≤ 9223372036854775807) (hr : rightB l = true) :
    Calls Try.prog 19 #[.slice A n c, .slice B n' c'] w (Told l cs w) := by
  go_enter Try.func19, Try.ntmps19
  go_wp2
  go_step3
  go_wp2_with (go_at_call 13; refine (goRight _ _ _ _ _ h hm).mono ?_; rintro e w' ⟨rfl, rfl⟩)
  go_step3
  go_wp2
  go_loopw [14, 6] (fun i b wr => ∃ (k m : Nat) (z : Int), k ≤ n' ∧ i = .int .i64 k ∧ b = .int .i64 z ∧ Hid (wr = w.drewN m) ∧ Hid (Bst l cs k z)) (fun i _ _ => n' - (intOf i).toNat)
  case atStart => exact ⟨0, 0, -1, Nat.zero_le _, rfl, rfl, rfl, bst_zero _ _⟩
  case round =>
    obtain ⟨k, m, z, hk, rfl, rfl, hw, hb⟩ := hrel
    have hn := Lib.hid h.1
    have hA : Rd one 1 wr A n l := by rw [hw.out]; exact h.drewN _
    have hB : Rd one 1 wr B n' cs := by rw [hw.out]; exact h'.drewN _
    clear h h'
    by_cases hlt : k < n'
    · obtain ⟨x, bb, ob, rfl, hx, hcx⟩ := hB.at1 hlt
      by_cases hv : 0 ≤ x ∧ x < n
      · obtain ⟨hv0, hv1⟩ := hv
        obtain ⟨q, rfl⟩ := Int.eq_ofNat_of_zero_le hv0
        have hq : q < n := by omega
        obtain ⟨t, ba, oa, rfl, ht, hct⟩ := hA.at1 hq
        rcases bst_ok hb.out with rfl | ⟨p, s, rfl, hs⟩
        · go_wp2
          go_quiet ((go_at_call 29; exact Calls.quiet_of_same (is_yes _ _ _ _ _ hv0 hv1 hm)))
          go_wp2
          go_roundw
          case rel => exact ⟨k + 1, m + nq, q, by omega, by go_num, rfl, drewN_more hw.out nq, bst_first hb.out hx.out ht.out⟩
          case measure => simp [intOf]; omega
        · have hp : p < n := by rw [hn.out]; exact (List.getElem?_eq_some_iff.1 hs).1
          obtain ⟨s', ba', oa', hA', hs', hcs⟩ := hA.at1 hp
          obtain ⟨rfl, rfl⟩ : ba = ba' ∧ oa = oa' := by simpa using hA'
          obtain rfl : s = s' := by have := hs'.out; rw [hs] at this; simpa using this
          clear hA' hs
          have p0 : (0 : Int) ≤ p := by omega
          by_cases hle : s ≤ t
          · go_wp2
            go_quiet ((go_at_call 29; exact Calls.quiet_of_same (is_yes _ _ _ _ _ hv0 hv1 hm)))
            go_wp2
            go_roundw
            case rel => exact ⟨k + 1, m + nq, p, by omega, by go_num, rfl, drewN_more hw.out nq, bst_keep hb.out hs'.out hx.out hv0 (by simpa using ht.out) hle⟩
            case measure => simp [intOf]; omega
          · go_wp2
            go_quiet ((go_at_call 29; exact Calls.quiet_of_same (is_yes _ _ _ _ _ hv0 hv1 hm)))
            go_wp2
            go_roundw
            case rel => exact ⟨k + 1, m + nq, q, by omega, by go_num, rfl, drewN_more hw.out nq, bst_less hb.out hs'.out hx.out ht.out (by omega)⟩
            case measure => simp [intOf]; omega
      · have hv' : x < 0 ∨ (n : Int) ≤ x := by omega
        have HV := Lib.hid hv'
        have HW : Hid (¬ (0 ≤ x ∧ x < l.length)) := by rw [← hn.out]; exact hv
        clear hv hv'
        go_wp2
        go_quiet ((go_at_call 29; exact Calls.quiet_of_same (is_no _ _ _ _ _ HV.out hm)))
        go_wp2
        go_roundw
        case rel => exact ⟨k + 1, m + nq, z, by omega, by go_num, rfl, drewN_more hw.out nq, bst_out hb.out hx.out HW.out⟩
        case measure => simp [intOf]; omega
    · obtain rfl : k = n' := by omega
      have hb' : Hid (Bst l cs cs.length z) := by have := hb.out; rwa [hB.1] at this
      by_cases hz : 0 ≤ z
      all_goals
        have HZ := Lib.hid hz
        go_wp2
        go_ret2
        exact ⟨z, hb'.out, ret_ib (by have := HZ.out; omega) (by simp [hz]), m, hw.out⟩

theorem refBest_no (A B : Option Addr) (n c n' c' : Nat) (l cs : List Int) (w : World) (h : Rd one 1 w A n l) (hm : n ≤ 9223372036854775807) (hr : rightB l = false) :
    Calls Try.prog 20 #[.slice A n c, .slice B n' c'] w fun e w' => e = .returned (.tuple #[.int .i64 0, .bool false]) ∧ w = w' := by
  go_enter Try.func20, Try.ntmps20
  go_wp2_with (go_at_call 14; refine (refRight _ _ _ _ _ h hm).mono ?_; rintro e w' ⟨rfl, rfl⟩)
  go_ret2
  exact ⟨rfl, rfl⟩

/-- Among the first k classes none pays share s. -/
def NoneAt (l cs : List Int) (k : Nat) (s : Int) : Prop := ∀ (j : Nat) (c t : Int), j < k → cs[j]? = some c → 0 ≤ c → l[c.toNat]? = some t → t ≠ s
/-- No class pays less than s. -/
def NoneBelow (l cs : List Int) (s : Int) : Prop := ∀ (j : Nat) (c t : Int), cs[j]? = some c → 0 ≤ c → l[c.toNat]? = some t → s ≤ t

theorem noneAt_zero (l cs : List Int) (s : Int) : NoneAt l cs 0 s := fun j c t h => absurd h (by omega)
theorem noneAt_step {l cs : List Int} {k : Nat} {s c : Int} (h : NoneAt l cs k s) (hc : cs[k]? = some c) (hno : ∀ t, 0 ≤ c → l[c.toNat]? = some t → t ≠ s) : NoneAt l cs (k + 1) s := fun j d t hj hd hd0 ht => by
  rcases Nat.lt_or_ge j k with hjk | hjk
  · exact h j d t hjk hd hd0 ht
  · obtain rfl : j = k := by omega
    rw [hc] at hd; injection hd with hd; subst hd; exact hno t hd0 ht
theorem noneBelow_step {l cs : List Int} {s : Int} (h : NoneBelow l cs s) (h' : NoneAt l cs cs.length s) : NoneBelow l cs (s + 1) := fun j c t hc h0 ht => by
  have h1 := h j c t hc h0 ht
  have h2 := h' j c t (List.getElem?_eq_some_iff.1 hc).1 hc h0 ht
  omega
theorem told_found {l cs : List Int} {k q : Nat} {s : Int} (h : NoneBelow l cs s) (h' : NoneAt l cs k s) (hc : cs[k]? = some (q : Int)) (hs : l[q]? = some s) : Bst l cs cs.length q :=
  .inr ⟨k, q, s, rfl, (List.getElem?_eq_some_iff.1 hc).1, hc, hs, fun j c t hj hc' h0 ht => ⟨h j c t hc' h0 ht, fun hjk => by
    have h1 := h j c t hc' h0 ht
    have h2 := h' j c t hjk hc' h0 ht
    omega⟩⟩
theorem told_none {l cs : List Int} (hr : rightB l = true) (h : NoneBelow l cs 1001) : Bst l cs cs.length (-1) :=
  .inl ⟨rfl, fun j c hj hc hv => by
    obtain ⟨q, rfl⟩ := Int.eq_ofNat_of_zero_le hv.1
    have hq : l[q]? = some (l[q]'(by omega)) := List.getElem?_eq_getElem (by omega)
    have h1 := h j q _ hc hv.1 (by rw [Int.toNat_natCast]; exact hq)
    have h2 := share_bd hr hq
    omega⟩

set_option maxHeartbeats 800000 in
theorem refBest_yes (A B : Option Addr) (n c n' c' : Nat) (l cs : List Int) (w : World) (h : Rd one 1 w A n l) (hm : n ≤ 9223372036854775807) (h' : Rd one 1 w B n' cs) (hm' : n' ≤ 9223372036854775807) (hr : rightB l = true) :
    Calls Try.prog 20 #[.slice A n c, .slice B n' c'] w (Told l cs w) := by
  go_enter Try.func20, Try.ntmps20
  go_wp2_with (go_at_call 14; refine (refRight _ _ _ _ _ h hm).mono ?_; rintro e w' ⟨rfl, rfl⟩)
  go_loop [6] (fun i => ∃ s : Nat, s ≤ 1001 ∧ i = .int .i64 s ∧ Hid (NoneBelow l cs s)) (fun i => 1001 - (intOf i).toNat)
  case atStart => exact ⟨0, Nat.zero_le _, rfl, fun j c t hc h0 ht => by have := share_bd hr ht; omega⟩
  case round =>
    obtain ⟨s, hs, rfl, hb⟩ := hrel
    by_cases hlt : s ≤ 1000
    · go_wp2
      go_loop [7] (fun i => ∃ k : Nat, k ≤ n' ∧ i = .int .i64 k ∧ Hid (NoneAt l cs k s)) (fun i => n' - (intOf i).toNat)
      case atStart => exact ⟨0, Nat.zero_le _, rfl, noneAt_zero _ _ _⟩
      case round =>
        obtain ⟨k, hk, rfl, ha⟩ := hrel
        by_cases hlk : k < n'
        · obtain ⟨x, bb, ob, hB, hx, hcx⟩ := h'.at1 hlk
          subst hB
          have fin_out : (x < 0 ∨ (n : Int) ≤ x) → NoneAt l cs (k + 1) s := fun hv => noneAt_step ha.out hx.out (fun t h0 ht => by have := (List.getElem?_eq_some_iff.1 ht).1; have := h.1; omega)
          have FO := Lib.hid fin_out
          clear fin_out
          by_cases hv0 : x < 0
          · go_wp2
            go_round
            case rel => exact ⟨k + 1, by omega, by go_num, FO.out (.inl hv0)⟩
            case measure => simp [intOf]; omega
          · by_cases hv1 : (n : Int) ≤ x
            · go_wp2
              go_round
              case rel => exact ⟨k + 1, by omega, by go_num, FO.out (.inr hv1)⟩
              case measure => simp [intOf]; omega
            · obtain ⟨q, rfl⟩ := Int.eq_ofNat_of_zero_le (show 0 ≤ x by omega)
              have hq : q < n := by omega
              obtain ⟨t, ba, oa, hA, ht, hct⟩ := h.at1 hq
              subst hA
              by_cases he : t = s
              · subst he
                go_wp2
                go_ret2
                exact ⟨q, told_found hb.out ha.out hx.out ht.out, ret_ib (by omega) (by simp), 0, rfl⟩
              · have he' : (t == (s : Int)) = false := by simpa using he
                go_wp2
                go_round
                case rel => exact ⟨k + 1, by omega, by go_num, noneAt_step ha.out hx.out (fun u _ hu => by
                  rw [Int.toNat_natCast, ht.out] at hu; injection hu with hu; omega)⟩
                case measure => simp [intOf]; omega
        · obtain rfl : k = n' := by omega
          have ha' : Hid (NoneAt l cs cs.length s) := by have := ha.out; rwa [h'.1] at this
          go_wp2
          go_round
          case rel => exact ⟨s + 1, by omega, by go_num, by have := noneBelow_step hb.out ha'.out; exact_mod_cast this⟩
          case measure => simp [intOf]; omega
    · obtain rfl : s = 1001 := by omega
      go_wp2
      go_ret2
      exact ⟨-1, told_none hr hb.out, rfl, 0, rfl⟩

theorem bst_ex (l cs : List Int) : ∀ k : Nat, k ≤ cs.length → ∃ b, Bst l cs k b
  | 0, _ => ⟨-1, bst_zero _ _⟩
  | k + 1, h => by
    obtain ⟨b, hb⟩ := bst_ex l cs k (by omega)
    have hc : cs[k]? = some (cs[k]'(by omega)) := List.getElem?_eq_getElem (by omega)
    generalize cs[k]'(by omega) = c at hc
    by_cases hv : 0 ≤ c ∧ c < l.length
    · obtain ⟨q, rfl⟩ := Int.eq_ofNat_of_zero_le hv.1
      have ht : l[q]? = some (l[q]'(by omega)) := List.getElem?_eq_getElem (by omega)
      rcases bst_ok hb with rfl | ⟨p, s, rfl, hs⟩
      · exact ⟨q, bst_first hb hc ht⟩
      · by_cases hle : s ≤ l[q]'(by omega)
        · exact ⟨p, bst_keep hb hs hc hv.1 (by rw [Int.toNat_natCast]; exact ht) hle⟩
        · exact ⟨q, bst_less hb hs hc ht (by omega)⟩
    · exact ⟨b, bst_out hb hc hv⟩

theorem told_q {l cs : List Int} {w : World} {q : Nat} (hb : Bst l cs cs.length q) {e : Ending} {w' : World} (h : Told l cs w e w') : e = .returned (.tuple #[.int .i64 q, .bool true]) ∧ ∃ m, w' = w.drewN m := by
  obtain ⟨b, hb', rfl, hm⟩ := h
  obtain rfl := bst_same hb hb'
  exact ⟨ret_ib (by omega) (by simp), hm⟩
theorem told_m {l cs : List Int} {w : World} (hb : Bst l cs cs.length (-1)) {e : Ending} {w' : World} (h : Told l cs w e w') : e = .returned (.tuple #[.int .i64 0, .bool false]) ∧ ∃ m, w' = w.drewN m := by
  obtain ⟨b, hb', rfl, hm⟩ := h
  obtain rfl := bst_same hb hb'
  exact ⟨ret_ib (by omega) (by simp), hm⟩
/-- Whom best q is told of pays no more than another class. -/
theorem bst_pays {l cs : List Int} {q k : Nat} {s c t p : Int} (hb : Bst l cs cs.length q) (hs : l[q]? = some s) (hc : cs[k]? = some c) (h0 : 0 ≤ c) (ht : l[c.toNat]? = some t) (hp : 0 ≤ p) : p * s / 1000 ≤ p * t / 1000 := by
  rcases hb with ⟨h, _⟩ | ⟨i, q', s', hq, hi, h1, h2, h3⟩
  · omega
  · obtain rfl : q = q' := by omega
    rw [hs] at h2; injection h2 with h2; subst h2
    have := (h3 k c t (List.getElem?_eq_some_iff.1 hc).1 hc h0 ht).1
    exact Int.ediv_le_ediv (by omega) (Int.mul_le_mul_of_nonneg_left this hp)
end Go.Proofs.Ytjnkokfneinjeaa
