/-
  ladder.Pay, Top and At: what is to be paid. Conditions: the reading of the ladder's rungs; at most 100 of them.
-/
import Derived.Test.YtjnkokfneinjeaaLadS
namespace Go.Proofs.Ytjnkokfneinjeaa
open Go.ChangeShapes Go.WideShapes Go.ChangeAt Go.RowKit Go.Shelf
set_option linter.unusedVariables false

theorem fine_of {l : List (Int × Int)} (h : ladB l = true) : Fine l ∧ l.length ≤ 16 := by
  unfold ladB at h
  simp only [Bool.and_eq_true, decide_eq_true_eq, List.all_eq_true, List.mem_range] at h
  obtain ⟨⟨h1, h2⟩, h3⟩ := h
  have up : ∀ k, Upto l k ∨ l.length < k := fun k => by
    rcases Nat.lt_or_ge l.length k with h | h
    · exact .inr h
    · exact .inl fun j hj => h2 j (by omega)
  have all : Upto l l.length := fun j hj => h2 j hj
  have at_ : ∀ k, k < l.length → l[k]? = some ((l.getD k (0, 0)).1, (l.getD k (0, 0)).2) := fun k hk => by
    rw [List.getD_eq_getElem?_getD, List.getElem?_eq_getElem hk]; rfl
  have bd : ∀ k, k < l.length → 0 ≤ (l.getD k (0, 0)).1 ∧ (l.getD k (0, 0)).1 ≤ 281474976710656 ∧ 0 ≤ (l.getD k (0, 0)).2 ∧ (l.getD k (0, 0)).2 ≤ 999 := fun k hk =>
    upto_bd (fun j hj => h2 j (by omega)) (at_ k hk)
  refine ⟨⟨fun k hk => ?_, fun k hk => ⟨(bd k hk).1, (bd k hk).2.1⟩, fun k hk => ⟨(bd k hk).2.2.1, (bd k hk).2.2.2⟩, ?_⟩, h1⟩
  · match k, hk with
    | 0, hk => exact ⟨(bd 0 hk).1, fun h => absurd h (by omega)⟩
    | j + 1, hk =>
      have := h2 (j + 1) hk
      unfold okB at this
      simp only [decide_eq_true_eq] at this
      have e : (ahead l (j + 1)).1 = (frm l (j + 1)).1 := rfl
      rw [e] at this
      omega
  · rcases h3 with h3 | h3
    · exact .inl (List.eq_nil_of_length_eq_zero h3)
    · rcases Nat.eq_zero_or_pos l.length with h4 | h4
      · exact .inl (List.eq_nil_of_length_eq_zero h4)
      · obtain ⟨j, hj⟩ : ∃ j, l.length = j + 1 := ⟨l.length - 1, by omega⟩
        rw [hj] at h3 ⊢
        exact .inr h3
theorem sumTo_mono {f : Nat → Int} {N : Nat} (h : ∀ i, i < N → 0 ≤ f i) : ∀ k, k ≤ N → 0 ≤ sumTo f k ∧ sumTo f k ≤ sumTo f N := by
  have low : ∀ k, k ≤ N → 0 ≤ sumTo f k := fun k hk => by
    have h1 := sumTo_le (f := fun _ => 0) (g := f) k (fun i hi => h i (by omega))
    have h2 := sumTo_zero (f := fun _ => 0) k (fun i hi => rfl)
    omega
  have step : ∀ d k, k + d = N → sumTo f k ≤ sumTo f N := by
    intro d
    induction d with
    | zero => intro k hk; rw [show k = N by omega]; exact Int.le_refl _
    | succ d ih =>
      intro k hk
      have h1 := ih (k + 1) (by omega)
      have h2 := h k (by omega)
      rw [sumTo] at h1
      omega
  exact fun k hk => ⟨low k hk, step (N - k) k (by omega)⟩
theorem part_bd {l : List (Int × Int)} (h : Fine l) {s : Int} (h0 : 0 ≤ s) (h1 : s ≤ 281474976710656) (k : Nat) (hk : k ≤ l.length + 1) : 0 ≤ sumTo (ofS l s) k ∧ sumTo (ofS l s) k ≤ 281474976710656 := by
  have := sumTo_mono (N := l.length + 1) (fun i hi => of_nonneg h s i (by omega)) k hk
  have := pay_le h h0 h1
  unfold payOf at this
  omega

theorem Bk.step {O : Nat → Prop} {g : Nat} {t : TypeId} {cs : Array Value} {a b : World} (h : Bk a g t cs) (hs : Step O a b) (hg : ¬ O g) : Bk b g t cs := (hs.block g h.lt hg).trans h
/-- What stands between two rounds of Pay's loop. -/
def PayI (l : List (Int × Int)) (s : Int) (n : Nat) (w : World) (ab : Nat) (pre : List ((Int × Int) × Int)) (W : World) : Prop :=
  ∃ k : Nat, k ≤ n + 1 ∧ pre = spansTo l k ∧ Bk W ab 3 #[.int .i64 (sumTo (ofS l s) k)] ∧ Bk W w.heap.size 3 #[.int .i64 s] ∧ Below w.heap.size w W
/-- What stands where a round has broken off. -/
def PayX (l : List (Int × Int)) (s : Int) (w : World) (ab : Nat) (c : Code) (pre : List ((Int × Int) × Int)) (W : World) : Prop :=
  c = .exit 0 ∧ Bk W ab 3 #[.int .i64 (payOf l s)] ∧ Below w.heap.size w W
theorem PayI.step {l : List (Int × Int)} {s : Int} {n : Nat} {w a b : World} {ab : Nat} {pre : List ((Int × Int) × Int)} {O : Nat → Prop} (h : PayI l s n w ab pre a) (hs : Step O a b) (h1 : ¬ O ab) (h2 : ∀ k, O k → w.heap.size < k) : PayI l s n w ab pre b := by
  obtain ⟨k, hk, hp, h3, h4, h5⟩ := h
  exact ⟨k, hk, hp, h3.step hs h1, h4.step hs (fun h => by have := h2 _ h; omega), hs.below (n := w.heap.size) h5 h5.size (fun k hk => by have := h2 k hk; omega)⟩
theorem PayX.step {l : List (Int × Int)} {s : Int} {w a b : World} {ab : Nat} {c : Code} {pre : List ((Int × Int) × Int)} {O : Nat → Prop} (h : PayX l s w ab c pre a) (hs : Step O a b) (h1 : ¬ O ab) (h2 : ∀ k, O k → w.heap.size < k) : PayX l s w ab c pre b := by
  obtain ⟨hc, h3, h5⟩ := h
  exact ⟨hc, h3.step hs h1, hs.below (n := w.heap.size) h5 h5.size (fun k hk => by have := h2 k hk; omega)⟩
theorem wrap_pay {X P : Int} (x0 : 0 ≤ X) (x1 : X ≤ 281474976710656) (p0 : 0 ≤ P) (p1 : P ≤ 281474976710656000) : wrap64 (X + wrap64 ((wrap64 P).tdiv 1000)) = X + P / 1000 := by
  have e1 : wrap64 P = P := by unfold wrap64; omega
  rw [e1, Int.tdiv_eq_ediv_of_nonneg p0]
  have e2 : wrap64 (P / 1000) = P / 1000 := by unfold wrap64; omega
  rw [e2]
  unfold wrap64
  omega
theorem goSpans (A : Option Addr) (n c : Nat) (w : World) : Calls Try.prog 31 #[.slice A n c] w fun e w' => e = .returned (.func (.func 32) #[] #[.pointer (some ⟨w.heap.size, 0, none⟩)]) ∧ w' = w.alloc (.cells #[.slice A n c] 41) := by
  go_enter Try.func31, Try.ntmps31
  go_wp2
  go_ret
  exact ⟨rfl, rfl⟩

theorem goPay_no (A : Option Addr) (n c : Nat) (l : List (Int × Int)) (s : Int) (w : World) (h : Rd two 2 w A n l) (hm : n ≤ 100) (hs : Fits s) (hno : ladB l = false ∨ s < 0 ∨ 281474976710656 < s) :
    Calls Try.prog 23 #[.slice A n c, .int .i64 s] w fun e w' => e = .returned (.tuple #[.int .i64 0, .int .i64 2]) ∧ Below w.heap.size w w' := by
  have HR := Lib.hid h
  rcases hl : ladB l with _ | _
  · have HL := Lib.hid hl
    clear hno hl h
    go_enter Try.func23, Try.ntmps23
    go_wp2_with fail
    refine (goLad A n c l _ (HR.out.alloc _) (by omega)).mono ?_
    rintro e w1 ⟨rfl, hb⟩
    rw [HL.out]
    have HB := Lib.hid (below_boxed hb)
    clear hb
    go_wp2_with fail
    go_ret2
    exact ⟨rfl, HB.out⟩
  · have HL := Lib.hid hl
    have hno' : s < 0 ∨ 281474976710656 < s := by
      rcases hno with h | h
      · rw [hl] at h; cases h
      · exact h
    clear hno hl h
    go_enter Try.func23, Try.ntmps23
    go_wp2_with fail
    refine (goLad A n c l _ (HR.out.alloc _) (by omega)).mono ?_
    rintro e w1 ⟨rfl, hb⟩
    rw [HL.out]
    have HB := Lib.hid (below_boxed hb)
    have BK : Hid (Bk w1 w.heap.size 3 #[.int .i64 s]) := (Bk.new w 3 #[.int .i64 s]).below hb (by simp)
    have c0 := BK.out.cell 0
    clear hb
    rcases hno' with h1 | h1
    · go_wp2_with fail
      go_ret2
      exact ⟨rfl, HB.out⟩
    · go_wp2_with fail
      go_ret2
      exact ⟨rfl, HB.out⟩

set_option maxRecDepth 100000 in
set_option maxHeartbeats 4000000 in
theorem goPay_yes (A : Option Addr) (n c : Nat) (l : List (Int × Int)) (s : Int) (w : World) (h : Rd two 2 w A n l) (hl : ladB l = true) (h0 : 0 ≤ s) (h1 : s ≤ 281474976710656) :
    Calls Try.prog 23 #[.slice A n c, .int .i64 s] w fun e w' => e = .returned (.tuple #[.int .i64 (payOf l s), .int .i64 0]) ∧ Below w.heap.size w w' := by
  have HR := Lib.hid h
  have HL := Lib.hid hl
  obtain ⟨F0, n16⟩ := fine_of hl
  have HF := Lib.hid F0
  rw [← h.1] at n16
  clear F0 hl h
  refine (callsIn_wide (n := 3)).1 (callsIn_of_wp_marks Try.func23 rfl trivial ?_ rfl)
  simp only [Try.ntmps23, List.size_toArray, List.length_cons, List.length_nil, Nat.reduceAdd, Nat.reduceSub, Array.replicate_succ, Array.replicate_zero, List.push_toArray, List.append_toArray, List.nil_append, List.cons_append]
  gi_wp2_with fail
  refine ⟨trivial, (callsIn_wide.2 (goLad A n c l _ (HR.out.alloc _) (by omega))).mono ?_⟩
  rintro e w1 ⟨rfl, hb⟩
  rw [HL.out]
  have HB := Lib.hid (below_boxed hb)
  have BK : Hid (Bk w1 w.heap.size 3 #[.int .i64 s]) := (Bk.new w 3 #[.int .i64 s]).below hb (by simp)
  have c0 := BK.out.cell 0
  have z1 := BK.out.lt
  clear hb
  gi_wp2_with fail
  refine ⟨trivial, (callsIn_wide.2 (goSpans A n c _)).mono ?_⟩
  rintro e w2 ⟨rfl, rfl⟩
  gi_wp2_with fail
  obtain ⟨W3, hW3⟩ : ∃ W3, (w1.alloc (.cells #[.int .i64 0] 3)).alloc (.cells #[.slice A n c] 41) = W3 := ⟨_, rfl⟩
  have s3 : W3.heap.size = w1.heap.size + 2 := by rw [← hW3]; simp
  have B1 : Hid (Bk W3 w1.heap.size 3 #[.int .i64 0]) := by show Bk _ _ _ _; rw [← hW3]; exact (Bk.new _ _ _).alloc _
  have B2 : Hid (Bk W3 (w1.heap.size + 1) 41 #[.slice A n c]) := by
    show Bk _ _ _ _
    rw [← hW3]
    have := Bk.new (w1.alloc (.cells #[.int .i64 0] 3)) 41 #[.slice A n c]
    rwa [World.size_alloc] at this
  have B3 : Hid (Bk W3 w.heap.size 3 #[.int .i64 s]) := by show Bk _ _ _ _; rw [← hW3]; exact (BK.out.alloc _).alloc _
  have B4 : Hid (Below w.heap.size w W3) := by show Below _ _ _; rw [← hW3]; exact (HB.out.alloc HB.out.size _).alloc (by simp; omega) _
  rw [hW3]
  clear hW3 c0
  have hO : ∀ k, (k = W3.heap.size + 2 ∨ k = W3.heap.size ∨ k = W3.heap.size + 1) → w.heap.size < k := fun k hk => by omega
  refine wpIn_rangeFunc_cells (gf := 32) (lb := #[.pointer (some ⟨w1.heap.size + 1, 0, none⟩)]) rfl (enters_of Try.func32 (by kernel_rfl) rfl)
    (spans_cells A n c l w W3 (w1.heap.size + 1) HR.out (by omega) B4.out B2.out (by omega)) (Below.refl _ _) (fun _ => rfl) (fun k hk => by omega) (fun k hk => by omega)
    (PayI l s n w w1.heap.size) (PayX l s w w1.heap.size) (fun pre a b hi hs => hi.step hs (by omega) hO) (fun c pre a b hi hs => hi.step hs (by omega) hO)
    ⟨0, by omega, rfl, B1.out, B3.out, B4.out⟩ ?a1 ?w1 ?step ?assign ?body ?done ?stop
  case assign =>
    intro y x W K hK
    simp only [encS]
    gi_wp2_with (rw [Oper.semAt_eq _ _ _ (fun c h => by cases h)]; go_simp; try go_bits)
    exact hK
  case step => exact fun x W => (Step.refl _ _).alloc _
  case body =>
    rintro y pre ⟨⟨f, sh⟩, e⟩ W0 W W' ⟨k, hk, rfl, hp⟩ hi hz0 hz1 hz2 hb hi0
    obtain ⟨k', _, hp', b1, b2, b3⟩ := hi
    obtain rfl : k = k' := by have := congrArg List.length hp'; rwa [spansTo_len, spansTo_len] at this
    have z4 : w1.heap.size < W0.heap.size := by
      obtain ⟨_, _, _, b4, _, _⟩ := hi0
      exact b4.lt
    clear hi0
    simp only [Prod.mk.injEq] at hp
    obtain ⟨hfs, he⟩ := hp
    have J1 := Lib.hid b1
    have J2 := Lib.hid b2
    have J3 := Lib.hid b3
    have BR : Hid (Bk W' W.heap.size 46 #[.int .i64 f, .int .i64 sh]) := by
      have h1 := Bk.new W 46 #[.int .i64 f, .int .i64 sh]
      exact (hb _ h1.lt (by omega)).trans h1
    have c0 := J2.out.cell 0
    have c1 := J1.out.cell 0
    have f1 := J1.out.free 0
    have c2 := BR.out.cell 0
    have c3 := BR.out.cell 1
    have hn : n = l.length := HR.out.1
    obtain ⟨q1, q2, q3, q4⟩ := HF.out.frm k (by omega)
    obtain ⟨q5, q6⟩ := HF.out.upt k (by omega)
    rw [← hfs] at q1 q2 q3 q4 q5
    rw [← he] at q5 q6
    dsimp only at q1 q2 q3 q4 q5 q6
    obtain ⟨X, hX⟩ : ∃ X, sumTo (ofS l s) k = X := ⟨_, rfl⟩
    have XB := part_bd HF.out h0 h1 k (by omega)
    have YB := part_bd HF.out h0 h1 (k + 1) (by omega)
    have HX := Lib.hid hX
    rw [hX] at XB J1 c1
    clear hp' b1 b2 b3 hb
    by_cases hle : s ≤ f
    · have CUT : Hid (payOf l s = X) := by show _ = _; rw [pay_cut (k := k) HF.out (by omega) (by rw [← hfs]; exact hle), HX.out]
      clear hfs he hX YB
      gi_wp2_with (rw [Oper.semAt_eq _ _ _ (fun c h => by cases h)]; go_simp; try go_bits)
      exact ⟨Keeps.refl _ _ _, rfl, by rw [CUT.out]; exact J1.out, J3.out⟩
    · rcases Int.lt_trichotomy e s with hes | rfl | hes
      · have hM : min s e = e := by omega
        have M1 : f ≤ e := by omega
        obtain ⟨P, hP⟩ : ∃ P, (e - f) * sh = P := ⟨_, rfl⟩
        have P0 : 0 ≤ P := by rw [← hP]; exact Int.mul_nonneg (by omega) (by omega)
        have P1 : P ≤ 281474976710656000 := by
          rw [← hP]
          exact Int.le_trans (Int.mul_le_mul (show e - f ≤ 281474976710656 by omega) (show sh ≤ 1000 by omega) (by omega) (by omega)) (by omega)
        have NX : Hid (X + P / 1000 = sumTo (ofS l s) (k + 1)) := by
          show _ = _
          rw [sumTo, HX.out, ofS, inS, ← hfs, ← he]
          show _ = X + max 0 (min s e - f) * sh / 1000
          rw [hM, show max 0 (e - f) = e - f by omega, hP]
        rw [← NX.out] at YB
        have NS : Hid (spansTo l k ++ [((f, sh), e)] = spansTo l (k + 1)) := by show _ = _; rw [spansTo_succ, ← hfs, ← he]
        have WP : Hid (wrap64 (X + wrap64 ((wrap64 ((e - f) * sh)).tdiv 1000)) = X + P / 1000) := by show _ = _; rw [hP]; exact wrap_pay XB.1 XB.2 P0 P1
        have hMh := Lib.hid hM
        clear hfs he hX hM hP
        gi_wp2_with (rw [Oper.semAt_eq _ _ _ (fun c h => by cases h)]; go_simp; try go_bits)
        rw [WP.out, NS.out]
        refine ⟨(Keeps.refl _ _ _).set z4 (fun hh => by dsimp only at hh; omega) _, k + 1, by omega, rfl, ?_, J2.out.far (by show w.heap.size ≠ w1.heap.size; omega) _, J3.out.setCell (by show w.heap.size ≤ w1.heap.size; omega) _⟩
        rw [← NX.out]
        exact J1.out.put 0 _
      · have hM : min e e = e := by omega
        have M1 : f ≤ e := by omega
        obtain ⟨P, hP⟩ : ∃ P, (e - f) * sh = P := ⟨_, rfl⟩
        have P0 : 0 ≤ P := by rw [← hP]; exact Int.mul_nonneg (by omega) (by omega)
        have P1 : P ≤ 281474976710656000 := by
          rw [← hP]
          exact Int.le_trans (Int.mul_le_mul (show e - f ≤ 281474976710656 by omega) (show sh ≤ 1000 by omega) (by omega) (by omega)) (by omega)
        have NX : Hid (X + P / 1000 = sumTo (ofS l e) (k + 1)) := by
          show _ = _
          rw [sumTo, HX.out, ofS, inS, ← hfs, ← he]
          show _ = X + max 0 (min e e - f) * sh / 1000
          rw [hM, show max 0 (e - f) = e - f by omega, hP]
        rw [← NX.out] at YB
        have NS : Hid (spansTo l k ++ [((f, sh), e)] = spansTo l (k + 1)) := by show _ = _; rw [spansTo_succ, ← hfs, ← he]
        have WP : Hid (wrap64 (X + wrap64 ((wrap64 ((e - f) * sh)).tdiv 1000)) = X + P / 1000) := by show _ = _; rw [hP]; exact wrap_pay XB.1 XB.2 P0 P1
        have hMh := Lib.hid hM
        clear hfs he hX hM hP
        gi_wp2_with (rw [Oper.semAt_eq _ _ _ (fun c h => by cases h)]; go_simp; try go_bits)
        all_goals
         rw [WP.out, NS.out]
         refine ⟨(Keeps.refl _ _ _).set z4 (fun hh => by dsimp only at hh; omega) _, k + 1, by omega, rfl, ?_, J2.out.far (by show w.heap.size ≠ w1.heap.size; omega) _, J3.out.setCell (by show w.heap.size ≤ w1.heap.size; omega) _⟩
         rw [← NX.out]
         exact J1.out.put 0 _
      · have hM : min s e = s := by omega
        have M1 : f ≤ s := by omega
        obtain ⟨P, hP⟩ : ∃ P, (s - f) * sh = P := ⟨_, rfl⟩
        have P0 : 0 ≤ P := by rw [← hP]; exact Int.mul_nonneg (by omega) (by omega)
        have P1 : P ≤ 281474976710656000 := by
          rw [← hP]
          exact Int.le_trans (Int.mul_le_mul (show s - f ≤ 281474976710656 by omega) (show sh ≤ 1000 by omega) (by omega) (by omega)) (by omega)
        have NX : Hid (X + P / 1000 = sumTo (ofS l s) (k + 1)) := by
          show _ = _
          rw [sumTo, HX.out, ofS, inS, ← hfs, ← he]
          show _ = X + max 0 (min s e - f) * sh / 1000
          rw [hM, show max 0 (s - f) = s - f by omega, hP]
        rw [← NX.out] at YB
        have NS : Hid (spansTo l k ++ [((f, sh), e)] = spansTo l (k + 1)) := by show _ = _; rw [spansTo_succ, ← hfs, ← he]
        have WP : Hid (wrap64 (X + wrap64 ((wrap64 ((s - f) * sh)).tdiv 1000)) = X + P / 1000) := by show _ = _; rw [hP]; exact wrap_pay XB.1 XB.2 P0 P1
        have hMh := Lib.hid hM
        clear hfs he hX hM hP
        gi_wp2_with (rw [Oper.semAt_eq _ _ _ (fun c h => by cases h)]; go_simp; try go_bits)
        rw [WP.out, NS.out]
        refine ⟨(Keeps.refl _ _ _).set z4 (fun hh => by dsimp only at hh; omega) _, k + 1, by omega, rfl, ?_, J2.out.far (by show w.heap.size ≠ w1.heap.size; omega) _, J3.out.setCell (by show w.heap.size ≤ w1.heap.size; omega) _⟩
        rw [← NX.out]
        exact J1.out.put 0 _
  case done =>
    rintro xs W rfl ⟨k, hk, hp, b1, b2, b3⟩ hd
    obtain rfl : k = n + 1 := by have := congrArg List.length hp; rw [spansTo_len, spansTo_len] at this; exact this.symm
    have e : sumTo (ofS l s) (n + 1) = payOf l s := by unfold payOf; rw [← HR.out.1]
    rw [e] at b1
    have c1 := b1.cell 0
    gi_wp2
    have hd' := hd
    rw [s3] at hd'
    have hbb : ∀ (D : Nat), w.heap.size ≤ D → Below w.heap.size w (W.putObj D (.deferred none)) := fun D hD =>
      Step.below (n := w.heap.size) b3 ((Step.refl (fun k => k = D) W).put rfl _) b3.size (fun k hk => by omega)
    refine ⟨by simp, .inl ?_⟩
    first
      | (refine ⟨_, _, rfl, run_takeDeferred hd, ?_⟩; refine ⟨.tuple #[.int .i64 (payOf l s), .int .i64 0], ?_, rfl, hbb _ (by omega)⟩; simp [results, Try.f23, go_sem])
      | (refine ⟨_, _, rfl, run_takeDeferred hd', ?_⟩; refine ⟨.tuple #[.int .i64 (payOf l s), .int .i64 0], ?_, rfl, hbb _ (by omega)⟩; simp [results, Try.f23, go_sem])
  case stop =>
    rintro c pre W ⟨k, hk, rfl⟩ ⟨rfl, b1, b3⟩ hd
    have c1 := b1.cell 0
    gi_wp2
    have hd' := hd
    rw [s3] at hd'
    have hbb : ∀ (D : Nat), w.heap.size ≤ D → Below w.heap.size w (W.putObj D (.deferred none)) := fun D hD =>
      Step.below (n := w.heap.size) b3 ((Step.refl (fun k => k = D) W).put rfl _) b3.size (fun k hk => by omega)
    refine ⟨by simp, .inl ?_⟩
    first
      | (refine ⟨_, _, rfl, run_takeDeferred hd, ?_⟩; refine ⟨.tuple #[.int .i64 (payOf l s), .int .i64 0], ?_, rfl, hbb _ (by omega)⟩; simp [results, Try.f23, go_sem])
      | (refine ⟨_, _, rfl, run_takeDeferred hd', ?_⟩; refine ⟨.tuple #[.int .i64 (payOf l s), .int .i64 0], ?_, rfl, hbb _ (by omega)⟩; simp [results, Try.f23, go_sem])
end Go.Proofs.Ytjnkokfneinjeaa
