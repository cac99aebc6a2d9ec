/-
  calendar.Of: of a day from 0 to 2932896 its date; of any other none. Condition (Tab): the variable calendar.days reads as its text says.
-/
import Derived.Test.YtaanmikdhhdeiaaDoorCalP
import Derived.Test.YtaanmikdhhdeiaaDoorOwn
import Derived.Outline
import Derived.WalkMore
import Derived.Scope
namespace Go.Proofs.YtaanmikdhhdeiaaDoor
open Go.ChangeShapes Go.WideShapes Go.ChangeAt Go.RowKit
set_option linter.unusedVariables false

/-- As Q; by a goto to a label l: J l. -/
def leaves (J : Nat → Act → World → Prop) (Q : Exit → Act → World → Prop) : Exit → Act → World → Prop
  | .goto l, a, w => J l a w
  | e, a, w => Q e a w
theorem leaves_mono {J J' : Nat → Act → World → Prop} {Q : Exit → Act → World → Prop} (h : ∀ l a w, J l a w → J' l a w) (e : Exit) (a : Act) (w : World) (hh : leaves J Q e a w) : leaves J' Q e a w := by
  cases e <;> first | exact h _ _ _ hh | exact hh
theorem leaves_ret {J : Nat → Act → World → Prop} {Q : Exit → Act → World → Prop} {a : Act} {w : World} (h : Q .ret a w) : leaves J Q .ret a w := h
/-- A scope with several labels: what holds at each (J), and a measure that each pass from one to the next lowers. -/
theorem wp_scope_labels {P : Program} {Q : Exit → Act → World → Prop} {a : Act} {w : World} {c : Code} (J : Nat → Act → World → Prop) (μ : Nat → Act → World → Nat)
    (first : c.wp P (leaves J Q) a w)
    (pass : ∀ l a w, J l a w → ∃ rest, findLabel c l = some rest ∧ rest.wp P (leaves (fun l' a' w' => J l' a' w' ∧ μ l' a' w' < μ l a w) Q) a w) : (Code.scope c).wp P Q a w := by
  intro b k cs
  have key : ∀ n l a w, μ l a w = n → J l a w → ∃ rest, findLabel c l = some rest ∧ ∃ e a' w', Q e a' w' ∧ Arrives P (lone (b.at a (.code rest :: .inScope c :: k)) cs w) b k cs e a' w' := by
    intro n
    induction n using Nat.strongRecOn with
    | _ n ih =>
      intro l a w hn hJ
      obtain ⟨rest, hf, hp⟩ := pass l a w hJ
      refine ⟨rest, hf, ?_⟩
      obtain ⟨e, a₁, w₁, hq, harr⟩ := hp b (.inScope c :: k) cs
      cases e with
      | normal => exact ⟨.normal, a₁, w₁, hq, Steps.trans harr (.one step_inScope)⟩
      | exit id => exact ⟨.exit id, a₁, w₁, hq, fun k' hk => harr k' (by simp [exitTo, hk])⟩
      | goto l' =>
        obtain ⟨hJ', hlt⟩ := hq
        obtain ⟨rest', hf', e₂, a₂, w₂, hq₂, harr₂⟩ := ih _ (by omega) l' a₁ w₁ rfl hJ'
        have hg : gotoIn l' (.inScope c :: k) = some (.code rest' :: .inScope c :: k) := by simp [gotoIn, hf']
        exact ⟨e₂, a₂, w₂, hq₂, .of_steps (harr _ hg) harr₂⟩
      | ret => exact ⟨_, a₁, w₁, hq, harr⟩
      | panic ch => exact ⟨_, a₁, w₁, hq, harr⟩
      | outgrown => exact ⟨_, a₁, w₁, hq, harr⟩
  obtain ⟨e, a₁, w₁, hq, harr⟩ := first b (.inScope c :: k) cs
  cases e with
  | normal => exact ⟨.normal, a₁, w₁, hq, .head step_scope (Steps.trans harr (.one step_inScope))⟩
  | exit id => exact ⟨.exit id, a₁, w₁, hq, fun k' hk => .head step_scope (harr k' (by simp [exitTo, hk]))⟩
  | goto l' =>
    obtain ⟨rest', hf', e₂, a₂, w₂, hq₂, harr₂⟩ := key _ l' a₁ w₁ rfl hq
    have hg : gotoIn l' (.inScope c :: k) = some (.code rest' :: .inScope c :: k) := by simp [gotoIn, hf']
    exact ⟨e₂, a₂, w₂, hq₂, .of_steps (.head step_scope (harr _ hg)) harr₂⟩
  | ret => exact ⟨_, a₁, w₁, hq, .of_steps (.one step_scope) harr⟩
  | panic ch => exact ⟨_, a₁, w₁, hq, .of_steps (.one step_scope) harr⟩
  | outgrown => exact ⟨_, a₁, w₁, hq, .of_steps (.one step_scope) harr⟩
/-- A scope with two labels, the one behind the other. -/
theorem wp_scope_two {P : Program} {Q : Exit → Act → World → Prop} {a : Act} {w : World} {c r0 r1 : Code} (J0 J1 : Act → World → Prop) (μ0 μ1 : Act → World → Nat) (top : Nat) (h0 : findLabel c 0 = some (.seq .skip r0)) (h1 : findLabel c 1 = some (.seq .skip r1))
    (bound : ∀ a w, J1 a w → μ1 a w < top)
    (pass1 : ∀ J a w, J1 a w → (∀ a' w', J1 a' w' → μ1 a' w' < μ1 a w → J 1 a' w') → r1.wp P (leaves J Q) a w)
    (pass0 : ∀ J a w, J0 a w → (∀ a' w', J0 a' w' → μ0 a' w' < μ0 a w → J 0 a' w') → (∀ a' w', J1 a' w' → r1.wp P (leaves J Q) a' w') → r0.wp P (leaves J Q) a w)
    (first : ∀ J, (∀ a' w', J0 a' w' → r0.wp P (leaves J Q) a' w') → c.wp P (leaves J Q) a w) : (Code.scope c).wp P Q a w := by
  refine wp_scope_labels (fun l a w => (l = 0 ∧ J0 a w) ∨ (l = 1 ∧ J1 a w)) (fun l a w => if l = 0 then top + μ0 a w else μ1 a w) ?_ ?_
  · refine first _ fun a' w' h => pass0 _ a' w' h (fun a2 w2 h2 _ => .inl ⟨rfl, h2⟩) fun a2 w2 h2 => pass1 _ a2 w2 h2 fun a3 w3 h3 _ => .inr ⟨rfl, h3⟩
  · rintro l a w (⟨rfl, h⟩ | ⟨rfl, h⟩)
    · refine ⟨_, h0, wp_seq (wp_skip (pass0 _ a w h (fun a2 w2 h2 hm => ⟨.inl ⟨rfl, h2⟩, by simp; omega⟩) fun a2 w2 h2 => pass1 _ a2 w2 h2 fun a3 w3 h3 hm => ⟨.inr ⟨rfl, h3⟩, ?_⟩))⟩
      have := bound a3 w3 h3
      simp; omega
    · exact ⟨_, h1, wp_seq (wp_skip (pass1 _ a w h fun a2 w2 h2 hm => ⟨.inr ⟨rfl, h2⟩, by simp; omega⟩))⟩
/-- A cell's number. -/
def numIn (w : World) (b i : Nat) : Nat := (match w.cell? ⟨b, i, none⟩ with | some v => intOf v | none => 0).toNat
theorem numIn_of {w : World} {b i : Nat} {x : Int} (h : w.cell? ⟨b, i, none⟩ = some (.int .i64 x)) : numIn w b i = x.toNat := by unfold numIn; rw [h]; rfl
def Y0 (n : Int) (w : World) (a' : Act) (wr : World) : Prop :=
  ∃ (y r : Int) (us : Nat → Value), a' = { tmps := #[.int .i64 n, us 1, .pointer (some ⟨w.heap.size, 0, none⟩), .int .i64 0, .pointer (some ⟨w.heap.size + 1, 0, none⟩), us 5, us 6, us 7, us 8, us 9, us 10, us 11, us 12, us 13, us 14, us 15, us 16, us 17, us 18, us 19, us 20, us 21, us 22, us 23, us 24, us 25, us 26, us 27, us 28, us 29, us 30, us 31, us 32, us 33, us 34, us 35, us 36, us 37, us 38, us 39, us 40, us 41, us 42, us 43, us 44, us 45, us 46, us 47, us 48, us 49, us 50, us 51, us 52, us 53, us 54, us 55, us 56, us 57, us 58, us 59], defers := [] } ∧ 1970 ≤ y ∧ y ≤ 9999 ∧ 0 ≤ r ∧ Hid (yst y + r = n) ∧ Hid (Bk wr w.heap.size 23 #[.int .i64 0, .int .i64 0, .int .i64 0]) ∧ Hid (Bk wr (w.heap.size + 1) 23 #[.int .i64 y, .int .i64 1, .int .i64 r]) ∧ Hid (Below w.heap.size w wr)
set_option maxRecDepth 100000 in
theorem Y0_mk {n : Int} {w : World} {wr : World} {T : Array Value} (y r : Int) (hT : T = #[.int .i64 n, T.getD 1 undef, .pointer (some ⟨w.heap.size, 0, none⟩), .int .i64 0, .pointer (some ⟨w.heap.size + 1, 0, none⟩), T.getD 5 undef, T.getD 6 undef, T.getD 7 undef, T.getD 8 undef, T.getD 9 undef, T.getD 10 undef, T.getD 11 undef, T.getD 12 undef, T.getD 13 undef, T.getD 14 undef, T.getD 15 undef, T.getD 16 undef, T.getD 17 undef, T.getD 18 undef, T.getD 19 undef, T.getD 20 undef, T.getD 21 undef, T.getD 22 undef, T.getD 23 undef, T.getD 24 undef, T.getD 25 undef, T.getD 26 undef, T.getD 27 undef, T.getD 28 undef, T.getD 29 undef, T.getD 30 undef, T.getD 31 undef, T.getD 32 undef, T.getD 33 undef, T.getD 34 undef, T.getD 35 undef, T.getD 36 undef, T.getD 37 undef, T.getD 38 undef, T.getD 39 undef, T.getD 40 undef, T.getD 41 undef, T.getD 42 undef, T.getD 43 undef, T.getD 44 undef, T.getD 45 undef, T.getD 46 undef, T.getD 47 undef, T.getD 48 undef, T.getD 49 undef, T.getD 50 undef, T.getD 51 undef, T.getD 52 undef, T.getD 53 undef, T.getD 54 undef, T.getD 55 undef, T.getD 56 undef, T.getD 57 undef, T.getD 58 undef, T.getD 59 undef]) (hr : 1970 ≤ y ∧ y ≤ 9999 ∧ 0 ≤ r ∧ Hid (yst y + r = n) ∧ Hid (Bk wr w.heap.size 23 #[.int .i64 0, .int .i64 0, .int .i64 0]) ∧ Hid (Bk wr (w.heap.size + 1) 23 #[.int .i64 y, .int .i64 1, .int .i64 r]) ∧ Hid (Below w.heap.size w wr)) : Y0 n w { tmps := T, defers := [] } wr :=
  ⟨y, r, fun i => T.getD i undef, by rw [← hT], hr⟩
def M1 (n : Int) (w : World) (a' : Act) (wr : World) : Prop :=
  ∃ (y r : Int) (m : Nat) (us : Nat → Value), a' = { tmps := #[.int .i64 n, us 1, .pointer (some ⟨w.heap.size, 0, none⟩), .int .i64 0, .pointer (some ⟨w.heap.size + 1, 0, none⟩), us 5, us 6, us 7, us 8, us 9, us 10, us 11, us 12, us 13, us 14, us 15, us 16, us 17, us 18, us 19, us 20, us 21, us 22, us 23, us 24, us 25, us 26, us 27, us 28, us 29, us 30, us 31, us 32, us 33, us 34, us 35, us 36, us 37, us 38, us 39, us 40, us 41, us 42, us 43, us 44, us 45, us 46, us 47, us 48, us 49, us 50, us 51, us 52, us 53, us 54, us 55, us 56, us 57, us 58, us 59], defers := [] } ∧ 1970 ≤ y ∧ y ≤ 9999 ∧ 0 ≤ r ∧ 1 ≤ m ∧ m ≤ 12 ∧ Hid (yst y + mst y (m - 1) + r = n ∧ n < yst (y + 1)) ∧ Hid (Bk wr w.heap.size 23 #[.int .i64 0, .int .i64 0, .int .i64 0]) ∧ Hid (Bk wr (w.heap.size + 1) 23 #[.int .i64 y, .int .i64 (m : Nat), .int .i64 r]) ∧ Hid (Below w.heap.size w wr)
set_option maxRecDepth 100000 in
theorem M1_mk {n : Int} {w : World} {wr : World} {T : Array Value} (y r : Int) (m : Nat) (hT : T = #[.int .i64 n, T.getD 1 undef, .pointer (some ⟨w.heap.size, 0, none⟩), .int .i64 0, .pointer (some ⟨w.heap.size + 1, 0, none⟩), T.getD 5 undef, T.getD 6 undef, T.getD 7 undef, T.getD 8 undef, T.getD 9 undef, T.getD 10 undef, T.getD 11 undef, T.getD 12 undef, T.getD 13 undef, T.getD 14 undef, T.getD 15 undef, T.getD 16 undef, T.getD 17 undef, T.getD 18 undef, T.getD 19 undef, T.getD 20 undef, T.getD 21 undef, T.getD 22 undef, T.getD 23 undef, T.getD 24 undef, T.getD 25 undef, T.getD 26 undef, T.getD 27 undef, T.getD 28 undef, T.getD 29 undef, T.getD 30 undef, T.getD 31 undef, T.getD 32 undef, T.getD 33 undef, T.getD 34 undef, T.getD 35 undef, T.getD 36 undef, T.getD 37 undef, T.getD 38 undef, T.getD 39 undef, T.getD 40 undef, T.getD 41 undef, T.getD 42 undef, T.getD 43 undef, T.getD 44 undef, T.getD 45 undef, T.getD 46 undef, T.getD 47 undef, T.getD 48 undef, T.getD 49 undef, T.getD 50 undef, T.getD 51 undef, T.getD 52 undef, T.getD 53 undef, T.getD 54 undef, T.getD 55 undef, T.getD 56 undef, T.getD 57 undef, T.getD 58 undef, T.getD 59 undef]) (hr : 1970 ≤ y ∧ y ≤ 9999 ∧ 0 ≤ r ∧ 1 ≤ m ∧ m ≤ 12 ∧ Hid (yst y + mst y (m - 1) + r = n ∧ n < yst (y + 1)) ∧ Hid (Bk wr w.heap.size 23 #[.int .i64 0, .int .i64 0, .int .i64 0]) ∧ Hid (Bk wr (w.heap.size + 1) 23 #[.int .i64 y, .int .i64 (m : Nat), .int .i64 r]) ∧ Hid (Below w.heap.size w wr)) : M1 n w { tmps := T, defers := [] } wr :=
  ⟨y, r, m, fun i => T.getD i undef, by rw [← hT], hr⟩
theorem year_bd {n y r : Int} (hy : 1970 ≤ y) (hr : 0 ≤ r) (h : yst y + r = n) (hn : n ≤ 2932896) : y ≤ 9999 := by
  rcases Int.lt_or_le y 10000 with h1 | h1
  · omega
  · have h2 := yst_mono (y := 10000) (by omega) (y - 10000).toNat
    rw [show (10000 : Int) + ((y - 10000).toNat : Int) = y by omega, yst_end] at h2
    omega
theorem y0_start (n : Int) (w : World) (h0 : 0 ≤ n) (h1 : n ≤ 2932896) : yst (1970 + n / 146097 * 400) + n % 146097 = n := by
  have h := yst_cycle (n / 146097)
  rw [show (1970 : Int) + 400 * (n / 146097) = 1970 + n / 146097 * 400 by omega] at h
  omega
theorem mst_zero (y : Int) : mst y 0 = 0 := rfl
theorem mst_succ (y : Int) (k : Nat) : mst y (k + 1) = mst y k + daysI y ((k + 1 : Nat) : Int) := rfl
theorem date_made {n y r : Int} {m : Nat} (hy0 : 1970 ≤ y) (hy1 : y ≤ 9999) (hr : 0 ≤ r) (hm0 : 1 ≤ m) (hm1 : m ≤ 12) (hn : yst y + mst y (m - 1) + r = n) (hd : r < daysI y (m : Nat)) : IsDate n y (m : Nat) (r + 1) := by
  refine ⟨hy0, hy1, by omega, by omega, by omega, by omega, ?_⟩
  rw [show ((m : Int) - 1).toNat = m - 1 by omega]
  omega
theorem month_bd {n y r : Int} {m : Nat} (hr : 0 ≤ r) (hm0 : 1 ≤ m) (hm1 : m ≤ 12) (hn : yst y + mst y (m - 1) + r = n ∧ n < yst (y + 1)) (hy : 1970 ≤ y) (hd : daysI y (m : Nat) ≤ r) : m ≤ 11 := by
  rcases Nat.lt_or_ge m 12 with h | h
  · omega
  · obtain rfl : m = 12 := by omega
    have h1 := mst_succ y 11
    have h2 := mst_year y
    have h3 := yst_succ (y := y) (by omega)
    have e : mst y (11 + 1) = mst y 12 := rfl
    have e2 : mst y (12 - 1) = mst y 11 := rfl
    rw [e] at h1
    rw [e2] at hn
    have e3 : daysI y (((11 + 1 : Nat)) : Int) = daysI y ((12 : Nat) : Int) := rfl
    rw [e3] at h1
    omega
theorem yst_nn {y : Int} (h : 1970 ≤ y) : 0 ≤ yst y := by
  have h1 := yst_mono (y := 1970) (by omega) (y - 1970).toNat
  rw [show (1970 : Int) + ((y - 1970).toNat : Int) = y by omega, yst_zero] at h1
  omega
theorem mst_nn (y : Int) (k : Nat) : 0 ≤ mst y k := by
  have := mst_mono y 0 k
  rw [Nat.zero_add] at this
  exact this
set_option maxHeartbeats 1000000 in
theorem goOf_yes (n : Int) (w : World) (hT : Tab w) (h0 : 0 ≤ n) (h1 : n ≤ 2932896) : Calls Tryd.prog 13 #[.int .i64 n] w fun e w' => ∃ y m d : Int, e = .returned (.tuple #[.agg #[.int .i64 y, .int .i64 m, .int .i64 d], .int .i64 0]) ∧ IsDate n y m d ∧ Below w.heap.size w w' := by
  have HT := Lib.hid hT
  have YS := Lib.hid (y0_start n w h0 h1)
  clear hT
  go_enter Tryd.func13, Tryd.ntmps13
  go_wp2
  refine wp_scope_two (Y0 n w) (M1 n w) (fun _ wr => numIn wr (w.heap.size + 1) 2) (fun _ wr => 12 - numIn wr (w.heap.size + 1) 1) 13 rfl rfl (fun _ _ _ => by omega) ?pass1 ?pass0 ?first
  case first =>
    intro J again
    have AG := Lib.hid again
    clear again
    go_wp2
    go_step3
    rename_i hK
    refine hK _ _ (AG.out _ _ (Y0_mk (1970 + n / 146097 * 400) (n % 146097) rfl ?_))
    exact ⟨by omega, by omega, by omega, YS, (Bk.new _ _ _).alloc _, alloc_new2 _ _ _, ((Below.refl _ _).alloc (Nat.le_refl _) _).alloc (by simp) _⟩
  case pass0 =>
    rintro J a' wr ⟨y, r, us, rfl, hy0, hy1, hr, hn, hb0, hb1, hb⟩ again next
    have AG := Lib.hid again
    have NX := Lib.hid next
    clear again next
    have c0 := hb1.out.cell 0
    have c2 := hb1.out.cell 2
    have f0 := hb1.out.free 0
    have f2 := hb1.out.free 2
    have M0 := Lib.hid (numIn_of c2)
    have lb := Lib.hid (long_bd y)
    have SY := Lib.hid (yst_succ (y := y) (by omega))
    have YB := Lib.hid (fun (h : 1970 ≤ y + 1) (hr : 0 ≤ r - longI y) => year_bd h hr (by have := hn.out; have := SY.out; omega) h1)
    have rb : r ≤ 2932896 := by have := hn.out; have := yst_nn hy0; omega
    have lb1 := lb.out.1
    have lb2 := lb.out.2
    by_cases hl : longI y ≤ r
    · go_wp2_with (go_at_call 21; refine (goLong y _).mono ?_; rintro e w' ⟨rfl, rfl⟩)
      go_step3
      have lb' := lb.out
      have sy := SY.out
      have hn' := hn.out
      have hb2 : Bk ((wr.setCell ⟨w.heap.size + 1, 2, none⟩ (.int .i64 (r - longI y))).setCell ⟨w.heap.size + 1, 0, none⟩ (.int .i64 (y + 1))) (w.heap.size + 1) 23 #[.int .i64 (y + 1), .int .i64 1, .int .i64 (r - longI y)] := (hb1.out.put 2 _).put 0 _
      refine AG.out _ _ (Y0_mk (y + 1) (r - longI y) rfl ?_) ?_
      · exact ⟨by omega, YB.out (by omega) (by omega), by omega, (by show _ = _; omega), (hb0.out.far (by simp) _).far (by simp) _, hb2, (hb.out.setCell (by simp) _).setCell (by simp) _⟩
      · rw [M0.out, numIn_of (x := r - longI y) (hb2.cell 2)]
        omega
    · go_wp2_with (go_at_call 21; refine (goLong y _).mono ?_; rintro e w' ⟨rfl, rfl⟩)
      go_step3
      rename_i hK
      have sy := SY.out
      have hn' := hn.out
      refine hK _ _ (NX.out _ _ (M1_mk y r 1 rfl ?_))
      exact ⟨hy0, hy1, hr, by omega, by omega, (by show _ ∧ _; rw [show (1 : Nat) - 1 = 0 from rfl, mst_zero]; omega), hb0, hb1, hb⟩
  case pass1 =>
    rintro J a' wr ⟨y, r, m, us, rfl, hy0, hy1, hr, hm0, hm1, hn, hb0, hb1, hb⟩ again
    have AG := Lib.hid again
    clear again
    have c0 := hb1.out.cell 0
    have c1 := hb1.out.cell 1
    have c2 := hb1.out.cell 2
    have f1 := hb1.out.free 1
    have f2 := hb1.out.free 2
    have M0 := Lib.hid (numIn_of c1)
    have HTr := Lib.hid (HT.out.below hb.out HT.out.1)
    have db := Lib.hid (days_bd y (m : Nat))
    have rb : r ≤ 2932896 := by have := hn.out.1; have := yst_nn hy0; have := mst_nn y (m - 1); omega
    have db1 := db.out.1
    have db2 := db.out.2
    by_cases hl : daysI y (m : Nat) ≤ r
    · have MB := Lib.hid (month_bd hr hm0 hm1 hn.out hy0 hl)
      go_wp2_with (go_at_call 9; refine (goDays y (m : Nat) _ HTr.out).mono ?_; rintro e w' ⟨rfl, rfl⟩)
      go_step3
      have db' := db.out
      have mb := MB.out
      have hn' := hn.out
      have ms := mst_succ y (m - 1)
      have em : m - 1 + 1 = m := by omega
      rw [em] at ms
      have hb2 : Bk ((wr.setCell ⟨w.heap.size + 1, 2, none⟩ (.int .i64 (r - daysI y (m : Nat)))).setCell ⟨w.heap.size + 1, 1, none⟩ (.int .i64 ((m : Nat) + 1))) (w.heap.size + 1) 23 #[.int .i64 y, .int .i64 ((m : Nat) + 1), .int .i64 (r - daysI y (m : Nat))] := (hb1.out.put 2 _).put 1 _
      refine AG.out _ _ (M1_mk y (r - daysI y (m : Nat)) (m + 1) rfl ?_) ?_
      · exact ⟨hy0, hy1, by omega, by omega, by omega, (by show _ ∧ _; rw [show m + 1 - 1 = m by omega]; omega), (hb0.out.far (by simp) _).far (by simp) _, by rw [show (((m + 1 : Nat)) : Int) = (m : Int) + 1 by omega]; exact hb2, (hb.out.setCell (by simp) _).setCell (by simp) _⟩
      · rw [M0.out, numIn_of (x := (m : Nat) + 1) (hb2.cell 1)]
        omega
    · have D := Lib.hid (date_made hy0 hy1 hr hm0 hm1 hn.out.1 (by omega))
      have db' := db.out.2
      have r0 := hb0.out.cell 0
      have r1 := hb0.out.cell 1
      have r2 := hb0.out.cell 2
      have g0 := hb0.out.free 0
      have g1 := hb0.out.free 1
      have g2 := hb0.out.free 2
      have lt1 := hb1.out.lt
      go_wp2_with (go_at_call 9; refine (goDays y (m : Nat) _ HTr.out).mono ?_; rintro e w' ⟨rfl, rfl⟩)
      refine leaves_ret ?_
      exact bodyPost_ret (v := .tuple #[.agg #[.int .i64 y, .int .i64 (m : Nat), .int .i64 (r + 1)], .int .i64 0]) (by simp [results, Tryd.results13, go_sem, r0, r1, r2]) rfl ⟨y, (m : Nat), r + 1, rfl, D.out, (((hb.out.setCell (by simp) _).setCell (by simp) _).setCell (by simp) _).setCell (by simp) _⟩
end Go.Proofs.YtaanmikdhhdeiaaDoor
