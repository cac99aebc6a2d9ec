/-
  Which ladders are right: the function of the package ladder and that of its reference return ladB. No conditions but the arguments' readings.
-/
import Derived.Test.YtjnkokfneinjeaaRows
import Derived.Test.YtjnkokfneinjeaaBase
namespace Go.Proofs.Ytjnkokfneinjeaa
open Go.ChangeShapes Go.WideShapes Go.ChangeAt Go.RowKit
set_option linter.unusedVariables false

/-- The rung ahead of rung k. -/
def ahead (l : List (Int × Int)) (k : Nat) : Int × Int := match k with | 0 => (-1, 1000) | j + 1 => l.getD j (0, 0)
def okB (l : List (Int × Int)) (k : Nat) : Bool :=
  decide ((ahead l k).1 < (l.getD k (0, 0)).1 ∧ (l.getD k (0, 0)).1 ≤ 281474976710656 ∧ 0 ≤ (l.getD k (0, 0)).2 ∧ (l.getD k (0, 0)).2 < (ahead l k).2)
def ladB (l : List (Int × Int)) : Bool := decide (l.length ≤ 16) && (List.range l.length).all (okB l) && decide (l.length = 0 ∨ (ahead l l.length).2 = 0)

theorem getD_of {α : Type} {l : List α} {k : Nat} {x d : α} (h : l[k]? = some x) : l.getD k d = x := by rw [List.getD_eq_getElem?_getD, h]; rfl
theorem okB_iff {l : List (Int × Int)} {k : Nat} {x y f s : Int} (h : l[k]? = some (x, y)) (ha : ahead l k = (f, s)) : okB l k = decide (f < x ∧ x ≤ 281474976710656 ∧ 0 ≤ y ∧ y < s) := by
  simp [okB, ha, h]
theorem ladB_bad {l : List (Int × Int)} {k : Nat} (hk : k < l.length) (h : okB l k = false) : ladB l = false := by
  have : (List.range l.length).all (okB l) = false := by
    rw [List.all_eq_false]
    exact ⟨k, by simpa using hk, by simp [h]⟩
  simp [ladB, this]
/-- The first k rungs are right. -/
def Upto (l : List (Int × Int)) (k : Nat) : Prop := ∀ j, j < k → okB l j = true
theorem upto_succ {l : List (Int × Int)} {k : Nat} (h : Upto l k) (h' : okB l k = true) : Upto l (k + 1) := fun j hj => by
  rcases Nat.lt_or_ge j k with h1 | h1
  · exact h j h1
  · obtain rfl : j = k := by omega
    exact h'
theorem ladB_end {l : List (Int × Int)} (h : Upto l l.length) : ladB l = (decide (l.length ≤ 16) && decide (l.length = 0 ∨ (ahead l l.length).2 = 0)) := by
  have : (List.range l.length).all (okB l) = true := by
    rw [List.all_eq_true]
    exact fun j hj => h j (by simpa using hj)
  simp [ladB, this]
theorem ahead_succ {l : List (Int × Int)} {k : Nat} {r : Int × Int} (h : l[k]? = some r) : ahead l (k + 1) = r := getD_of h
theorem upto_bd {l : List (Int × Int)} : ∀ {k : Nat} {x y : Int}, Upto l (k + 1) → l[k]? = some (x, y) → 0 ≤ x ∧ x ≤ 281474976710656 ∧ 0 ≤ y ∧ y ≤ 999
  | 0, x, y, h, hx => by
    have := h 0 (by omega)
    rw [okB_iff hx rfl] at this
    simp at this; omega
  | k + 1, x, y, h, hx => by
    have hk : k < l.length := by have := (List.getElem?_eq_some_iff.1 hx).1; omega
    have h' := upto_bd (k := k) (x := (l[k]).1) (y := (l[k]).2) (fun j hj => h j (by omega)) (List.getElem?_eq_getElem hk)
    have := h (k + 1) (by omega)
    rw [okB_iff (f := (l[k]).1) (s := (l[k]).2) hx (ahead_succ (List.getElem?_eq_getElem hk))] at this
    simp at this; omega

theorem drewN_more {w wr : World} {m : Nat} (h : wr = w.drewN m) (k : Nat) : wr.drewN k = w.drewN (m + k) := by rw [h, World.drewN_drewN]

set_option maxHeartbeats 800000 in
theorem goLad (A : Option Addr) (n c : Nat) (l : List (Int × Int)) (w : World) (h : Rd two 2 w A n l) (hm : n ≤ 9223372036854775807) :
    Calls Try.prog 25 #[.slice A n c] w fun e w' => e = .returned (.bool (ladB l)) ∧ Below w.heap.size w w' := by
  by_cases h16 : 16 < n
  · have H : Hid (ladB l = false) := by show _ = _; rw [ladB, ← h.1]; simp; omega
    go_enter Try.func25, Try.ntmps25
    go_wp2
    go_ret
    exact ⟨ret_bool H.out.symm, Below.refl _ _⟩
  go_enter Try.func25, Try.ntmps25
  go_wp2
  go_loopw [12] (fun i wr => ∃ (k : Nat) (f s : Int), k ≤ n ∧ i = .int .i64 k ∧ Hid (ahead l k = (f, s)) ∧ Hid (Upto l k) ∧ Hid (Bk wr w.heap.size 46 #[.int .i64 f, .int .i64 s]) ∧ Below w.heap.size w wr) (fun i _ => n - (intOf i).toNat)
  case atStart => exact ⟨0, -1, 1000, Nat.zero_le _, rfl, rfl, fun j hj => absurd hj (by omega), Bk.new _ _ _, (Below.refl _ _).alloc (Nat.le_refl _) _⟩
  case round =>
    obtain ⟨k, f, s, hk, rfl, ha, hu, hbk, hb⟩ := hrel
    have c0 := hbk.out.cell 0
    have c1 := hbk.out.cell 1
    have z0 := hbk.out.free 0
    have z1 := hbk.out.free 1
    have hlt' := hbk.out.lt
    by_cases hlt : k < n
    · obtain ⟨x, y, b, off, hA, hx, hcx, hcy⟩ := (h.below hb (Nat.le_refl _)).at2 hlt
      subst hA
      have hkl : k < l.length := by have := h.1; omega
      have bad : ¬ (f < x ∧ x ≤ 281474976710656 ∧ 0 ≤ y ∧ y < s) → Hid (ladB l = false) := fun hn => ladB_bad hkl (by rw [okB_iff hx.out ha.out]; simpa using hn)
      have good : (f < x ∧ x ≤ 281474976710656 ∧ 0 ≤ y ∧ y < s) → Hid (Upto l (k + 1)) := fun hn => upto_succ hu.out (by rw [okB_iff hx.out ha.out]; simpa using hn)
      have hsz : w.heap.size ≤ wr.heap.size := by omega
      by_cases h1 : f < x
      · by_cases h2 : x ≤ 281474976710656
        · by_cases h3 : y < s
          · by_cases h4 : 0 ≤ y
            · have G := good ⟨h1, h2, h4, h3⟩
              clear bad good
              go_wp2
              go_roundw
              case rel => exact ⟨k + 1, x, y, by omega, by go_num, ahead_succ hx.out, G.out, ((hbk.out.put 0 (.int .i64 x)).put 1 (.int .i64 y)).alloc _, ((hb.setCell (Nat.le_refl _) _).setCell (Nat.le_refl _) _).alloc (by simpa [World.setCell] using hsz) _⟩
              case measure => simp [intOf]; omega
            · have G := bad (fun hh => h4 hh.2.2.1)
              clear bad good
              go_wp2
              go_ret
              exact ⟨ret_bool G.out.symm, hb.alloc hsz _⟩
          · have G := bad (fun hh => h3 hh.2.2.2)
            clear bad good
            go_wp2
            go_ret
            exact ⟨ret_bool G.out.symm, hb.alloc hsz _⟩
        · have G := bad (fun hh => h2 hh.2.1)
          clear bad good
          go_wp2
          go_ret
          exact ⟨ret_bool G.out.symm, hb.alloc hsz _⟩
      · have G := bad (fun hh => h1 hh.1)
        clear bad good
        go_wp2
        go_ret
        exact ⟨ret_bool G.out.symm, hb.alloc hsz _⟩
    · obtain rfl : k = n := by omega
      have hn := h.1
      have H : Hid (ladB l = decide (k = 0 ∨ s = 0)) := by
        show _ = _
        rw [ladB_end (by rw [← hn]; exact hu.out), ← hn, ha.out]; simp; omega
      clear hn
      by_cases h0 : k = 0
      · subst h0
        go_wp2
        go_ret
        exact ⟨ret_bool (by rw [H.out]; simp), hb⟩
      · have b0 : ((k : Int) == 0) = false := by simp; omega
        go_wp2
        go_ret
        exact ⟨ret_bool (by rw [H.out, Bool.eq_iff_iff]; simp [h0]), hb⟩

set_option maxHeartbeats 2000000 in
theorem refLad (A : Option Addr) (n c : Nat) (l : List (Int × Int)) (w : World) (h : Rd two 2 w A n l) (hm : n ≤ 9223372036854775807) :
    Calls Try.prog 26 #[.slice A n c] w fun e w' => e = .returned (.bool (ladB l)) ∧ ∃ m, w' = w.drewN m := by
  go_enter Try.func26, Try.ntmps26
  go_wp2
  go_loopw [3] (fun i wr => ∃ (k m : Nat), k ≤ n ∧ i = .int .i64 k ∧ Hid (Upto l k) ∧ Hid (wr = w.drewN m)) (fun i _ => n - (intOf i).toNat)
  case atStart => exact ⟨0, 0, Nat.zero_le _, rfl, fun j hj => absurd hj (by omega), rfl⟩
  case round =>
    obtain ⟨k, m, hk, rfl, hu, hw⟩ := hrel
    have hR : Rd two 2 wr A n l := by rw [hw.out]; exact h.drewN _
    by_cases hlt : k < n
    · obtain ⟨x, y, b, off, hA, hx, hcx, hcy⟩ := hR.at2 hlt
      subst hA
      have hkl : k < l.length := by have := h.1; omega
      have bad : ¬ (0 ≤ x ∧ x ≤ 281474976710656 ∧ 0 ≤ y ∧ y ≤ 999) → Hid (ladB l = false) := fun hn => ladB_bad hkl (by
        rcases ho : okB l k with _ | _
        · rfl
        · exact absurd (upto_bd (upto_succ hu.out ho) hx.out) hn)
      by_cases h1 : 0 ≤ x
      · by_cases h2 : x ≤ 281474976710656
        · by_cases h3 : 0 ≤ y
          · by_cases h4 : y ≤ 999
            · clear bad
              rcases Nat.eq_zero_or_pos k with rfl | hpos
              · rw [Nat.zero_mul, Nat.add_zero] at hcx hcy
                have G : Hid (Upto l (0 + 1)) := upto_succ hu.out (by rw [okB_iff (f := -1) (s := 1000) hx.out rfl]; simp; omega)
                clear hkl
                go_wp2
                go_quiet (fail)
                go_wp2
                go_roundw
                case rel => exact ⟨1, m + nq, by omega, rfl, G.out, drewN_more hw.out nq⟩
                case measure => simp [intOf]; omega
              · obtain ⟨j, rfl⟩ : ∃ j, k = j + 1 := ⟨k - 1, by omega⟩
                obtain ⟨f, s, b', off', hA', hx', hcf, hcs⟩ := hR.at2 (k := j) (by omega)
                obtain ⟨rfl, rfl⟩ : b = b' ∧ off = off' := by simpa using hA'
                clear hA' hpos
                have HO := Lib.hid (okB_iff hx.out (ahead_succ hx'.out))
                have WJ : Hid (IntKind.i64.wrap (j : Int) = (j : Int)) := IntWalk.i64_in _ (by omega)
                by_cases h5 : f < x
                · by_cases h6 : y < s
                  · have G : Hid (Upto l (j + 1 + 1)) := upto_succ hu.out (by rw [HO.out]; simp; omega)
                    clear hkl
                    go_wp2
                    have wj0 : (0 : Int) ≤ j := by omega
                    have wjn : (j : Int) < n := by omega
                    have wj := WJ.out
                    go_quiet (fail)
                    clear wj wj0 wjn
                    go_wp2
                    go_roundw
                    case rel => exact ⟨j + 1 + 1, m + nq, by omega, by go_num, G.out, drewN_more hw.out nq⟩
                    case measure => simp [intOf]; omega
                  · have G : Hid (ladB l = false) := ladB_bad hkl (by rw [HO.out]; simp; omega)
                    clear hkl
                    go_wp2
                    have wj0 : (0 : Int) ≤ j := by omega
                    have wjn : (j : Int) < n := by omega
                    have wj := WJ.out
                    go_quiet (fail)
                    clear wj wj0 wjn
                    go_wp2
                    go_ret
                    exact ⟨ret_bool G.out.symm, m + nq, drewN_more hw.out nq⟩
                · have G : Hid (ladB l = false) := ladB_bad hkl (by rw [HO.out]; simp; omega)
                  clear hkl
                  go_wp2
                  have wj0 : (0 : Int) ≤ j := by omega
                  have wjn : (j : Int) < n := by omega
                  have wj := WJ.out
                  go_quiet (fail)
                  clear wj wj0 wjn
                  go_wp2
                  go_ret
                  exact ⟨ret_bool G.out.symm, m + nq, drewN_more hw.out nq⟩
            · have G := bad (fun hh => h4 hh.2.2.2)
              clear bad
              go_wp2
              go_ret
              exact ⟨ret_bool G.out.symm, m, hw.out⟩
          · have G := bad (fun hh => h3 hh.2.2.1)
            clear bad
            go_wp2
            go_ret
            exact ⟨ret_bool G.out.symm, m, hw.out⟩
        · have G := bad (fun hh => h2 hh.2.1)
          clear bad
          go_wp2
          go_ret
          exact ⟨ret_bool G.out.symm, m, hw.out⟩
      · have G := bad (fun hh => h1 hh.1)
        clear bad
        go_wp2
        go_ret
        exact ⟨ret_bool G.out.symm, m, hw.out⟩
    · obtain rfl : k = n := by omega
      have hn := h.1
      have H : ∀ s f : Int, ahead l k = (f, s) → Hid (ladB l = (decide (k ≤ 16) && decide (k = 0 ∨ s = 0))) := fun s f ha => by
        show _ = _
        rw [ladB_end (by rw [← hn]; exact hu.out), ← hn, ha]
      have HH := Lib.hid H
      clear hn H
      by_cases h16 : 16 < k
      · have H' := HH.out _ _ rfl
        go_wp2
        go_ret
        exact ⟨ret_bool (by rw [H'.out]; simp; omega), m, hw.out⟩
      · rcases Nat.eq_zero_or_pos k with rfl | hpos
        · have H' := HH.out _ _ rfl
          go_wp2
          go_ret
          exact ⟨ret_bool (by rw [H'.out]; simp), m, hw.out⟩
        · obtain ⟨j, rfl⟩ : ∃ j, k = j + 1 := ⟨k - 1, by omega⟩
          obtain ⟨f, s, b, off, hA, hx', hcf, hcs⟩ := hR.at2 (k := j) (by omega)
          subst hA
          have H' := HH.out s f (ahead_succ hx'.out)
          have b0 : ((((j + 1 : Nat) : Int)) == 0) = false := by simp; omega
          go_wp2
          go_ret
          exact ⟨ret_bool (by rw [H'.out, Bool.eq_iff_iff]; simp; omega), m, hw.out⟩
end Go.Proofs.Ytjnkokfneinjeaa
