/-
  clean.sort: which samples are kept and which are dropped, by their places (kd), each list in memory of its own. No conditions but the reading of the trace.
-/
import Derived.Test.YtgaonfeljijebaaCleanG
import Derived.Maps.AppendAt
import Derived.WalkMore
namespace Go.Proofs.Ytgaonfeljijebaa
open Go.ChangeShapes Go.WideShapes Go.ChangeAt Go.RowKit
set_option linter.unusedVariables false

theorem own_below {w w' : World} {base n : Nat} {t : TypeId} {size : Nat} {v : Value} {xs : List Value} (h : w.ownsRow base t size v n xs) (hb : Below w.heap.size w w') : w'.ownsRow base t size v n xs := by
  refine ⟨h.1, ?_⟩
  rcases h.2 with h' | ⟨g, cap, cur, hv, hg, hc, rest⟩
  · exact .inl h'
  · exact .inr ⟨g, cap, cur, hv, hg, (hb.block g (Array.getElem?_eq_some_iff.1 hc).1).trans hc, rest⟩
/-- Two slices that share no block. -/
def Apart (v u : Value) : Prop := ∀ g, v.ownBlock = some g → u.ownBlock ≠ some g
theorem Apart.symm {v u : Value} (h : Apart v u) : Apart u v := fun g hu hv => h g hv hu
/-- Two rows that a call has made itself, in blocks of their own. -/
def Two (w : World) (B : Nat) (t1 : TypeId) (F1 : Nat) (v1 : Value) (n1 : Nat) (x1 : List Value) (t2 : TypeId) (F2 : Nat) (v2 : Value) (n2 : Nat) (x2 : List Value) : Prop :=
  w.ownsRow B t1 F1 v1 n1 x1 ∧ w.ownsRow B t2 F2 v2 n2 x2 ∧ Apart v1 v2
section
variable {w w1 w2 : World} {B : Nat} {t1 t2 : TypeId} {F1 F2 n1 n2 m1 : Nat} {v1 v2 u1 : Value} {x1 x2 y1 : List Value}
theorem Two.swap (h : Two w B t1 F1 v1 n1 x1 t2 F2 v2 n2 x2) : Two w B t2 F2 v2 n2 x2 t1 F1 v1 n1 x1 := ⟨h.2.1, h.1, h.2.2.symm⟩
theorem Two.below (h : Two w B t1 F1 v1 n1 x1 t2 F2 v2 n2 x2) (hb : Below w.heap.size w w1) : Two w1 B t1 F1 v1 n1 x1 t2 F2 v2 n2 x2 := ⟨own_below h.1 hb, own_below h.2.1 hb, h.2.2⟩
theorem Two.nil (w : World) (B : Nat) (t1 : TypeId) (F1 : Nat) (t2 : TypeId) (F2 : Nat) : Two w B t1 F1 (.slice none 0 0) 0 [] t2 F2 (.slice none 0 0) 0 [] := ⟨World.ownsRow_nil _ _ _ _, World.ownsRow_nil _ _ _ _, fun g h => by simp [Value.ownBlock] at h⟩
/-- The first of them grows. -/
theorem Two.grow (h : Two w1 B t1 F1 v1 n1 x1 t2 F2 v2 n2 x2) (ho : w2.ownsRow B t1 F1 u1 m1 y1) (hg : w1.grownBy w2 v1.ownBlock) (ha : u1.ownBlock = v1.ownBlock ∨ u1.ownBlock = some w1.heap.size) : Two w2 B t1 F1 u1 m1 y1 t2 F2 v2 n2 x2 := by
  obtain ⟨h1, h2, h3⟩ := h
  refine ⟨ho, h2.kept hg ?_, fun g hu hv => ?_⟩
  · rcases h4 : v2.ownBlock with _ | g
    · exact .inl rfl
    · exact .inr fun e => h3 g (e.symm.trans rfl) h4
  · rcases ha with ha | ha
    · exact h3 g (ha.symm.trans hu) hv
    · have := (h2.lt g hv).2
      rw [ha] at hu
      injection hu with hu
      omega
end

theorem Try.info3 : (Try.prog.info? 3).map (fun i => (i.zero, i.size, i.bytes)) = some (some (.int .i64 0), 1, 8) := by kernel_rfl
def ints (K : List Nat) : List Value := K.map (fun (j : Nat) => Value.int .i64 (j : Int))
/-- The state ahead of sample k. -/
def SortAt (s g : Int) (l : List Run) (W : World) (k : Nat) (vk vd : Value) (wr : World) : Prop :=
  Two wr W.heap.size 3 1 vk (kd s g l k).1.length (ints (kd s g l k).1) 3 1 vd (kd s g l k).2.length (ints (kd s g l k).2) ∧ Below W.heap.size W wr
def lastI (K : List Nat) : Int := match K.getLast? with
  | none => -1
  | some j => j
/-- A call hands back two lists of ints, and an error. -/
def GivesII (ks ds : List Int) (er : Int) (w : World) (e : Ending) (w' : World) : Prop :=
  ∃ A N c A' N' c', e = .returned (.tuple #[.slice A N c, .slice A' N' c', .int .i64 er]) ∧ Rd one 1 w' A N ks ∧ Rd one 1 w' A' N' ds ∧ Below w.heap.size w w'
theorem gives_none {er : Int} {w w' : World} {ks ds : List Int} (hk : ks = []) (hd : ds = []) (hb : Below w.heap.size w w') : GivesII ks ds er w (.returned (.tuple #[.slice none 0 0, .slice none 0 0, .int .i64 er])) w' := by
  subst hk hd
  exact ⟨_, _, _, _, _, _, rfl, Rd.nil _ _ _ _, Rd.nil _ _ _ _, hb⟩
theorem kept_no {s g : Int} {l : List Run} (h : errK s g l ≠ 0) : keptI s g l = [] := by rw [keptI, if_neg h]
theorem drop_no {s g : Int} {l : List Run} (h : errK s g l ≠ 0) : dropI s g l = [] := by rw [dropI, if_neg h]
theorem errK_flt {s g : Int} {l : List Run} (h : fltB s g = false) : errK s g l = 2 := by rw [errK, if_pos h]
theorem errK_len {s g : Int} {l : List Run} (h : fltB s g = true) (hl : 2048 < l.length) : errK s g l = 3 := by rw [errK, if_neg (by rw [h]; simp), if_pos hl]
theorem errK_bad {s g : Int} {l : List Run} (h : fltB s g = true) (hl : ¬ 2048 < l.length) (ht : traceB l = false) : errK s g l = 2 := by rw [errK, if_neg (by rw [h]; simp), if_neg hl, if_neg (by rw [ht]; simp)]
theorem errK_ok {s g : Int} {l : List Run} (h : fltB s g = true) (hl : ¬ 2048 < l.length) (ht : traceB l = true) : errK s g l = 0 := by rw [errK, if_neg (by rw [h]; simp), if_neg hl, if_pos ht]

theorem goMay_b (t x y : Int) (b : Bool) (h : mayB t x y = b) (w : World) : Calls Try.prog 51 #[.agg #[.int .i64 t, .int .i64 x, .int .i64 y]] w fun e w' => e = .returned (.bool b) ∧ Below w.heap.size w w' :=
  (goMay_is t x y b h w).mono fun _ _ ⟨he, hw⟩ => ⟨he, by rw [hw]; exact (Below.refl _ _).alloc (Nat.le_refl _) _⟩
theorem goCan_is (s g t x y t' x' y' : Int) (b : Bool) (h : canB s g (t, x, y) (t', x', y') = b) (w : World) : Calls Try.prog 22 #[.agg #[.int .i64 s, .int .i64 g], .agg #[.int .i64 t, .int .i64 x, .int .i64 y], .agg #[.int .i64 t', .int .i64 x', .int .i64 y']] w fun e w' => e = .returned (.bool b) ∧ Below w.heap.size w w' := by
  rw [← h]; exact goCan s g t x y t' x' y' w
theorem getD_is {l : List Run} {k : Nat} {a : Run} (h : l[k]? = some a) : l.getD k (0, 0, 0) = a := by rw [List.getD_eq_getElem?_getD, h]; rfl
theorem ok_nil {s g : Int} {l : List Run} {K : List Nat} {k : Nat} (h : K.getLast? = none) : okK s g l K k = true := by rw [okK, h]
theorem ok_gap {s g : Int} {l : List Run} {K : List Nat} {k j : Nat} {a b : Run} (h : K.getLast? = some j) (hj : l[j]? = some a) (hk : l[k]? = some b) (hg : b.1 - a.1 < g) : okK s g l K k = false := by
  rw [okK, h]
  show (decide _ && _) = false
  rw [getD_is hj, getD_is hk, decide_eq_false (by omega)]; rfl
theorem ok_can {s g : Int} {l : List Run} {K : List Nat} {k j : Nat} {a b : Run} (h : K.getLast? = some j) (hj : l[j]? = some a) (hk : l[k]? = some b) (hg : ¬ b.1 - a.1 < g) : okK s g l K k = canB s g a b := by
  rw [okK, h]
  show (decide _ && _) = _
  rw [getD_is hj, getD_is hk, decide_eq_true (by omega)]; rfl
theorem may_of {l : List Run} {k : Nat} {x y z : Int} (h : inTime l k = true) (hx : l[k]? = some (x, y, z)) : mayB x y z = true := by
  rcases hM : mayB x y z with _ | _
  · rw [inTime_may hx hM] at h; exact h
  · rfl
theorem ints_snoc (K : List Nat) (k : Nat) : ints (K ++ [k]) = ints K ++ [.int .i64 (k : Int)] := by simp [ints]
theorem sort_keep {s g : Int} {l : List Run} {W wr w1 w2 : World} {k : Nat} {v4 v5 u : Value} (ho : okK s g l (kd s g l k).1 k = true) (hS : SortAt s g l W k v4 v5 wr) (hb1 : Below wr.heap.size wr w1)
    (hown : w2.ownsRow W.heap.size 3 1 u ((kd s g l k).1.length + 1) (ints (kd s g l k).1 ++ [.int .i64 (k : Int)])) (hg : w1.grownBy w2 v4.ownBlock) (ha : u.ownBlock = v4.ownBlock ∨ u.ownBlock = some w1.heap.size) (hb : Below W.heap.size W w2) : SortAt s g l W (k + 1) u v5 w2 := by
  unfold SortAt
  rw [kd_yes ho]
  refine ⟨(hS.1.below hb1).grow ?_ hg ha, hb⟩
  rw [ints_snoc, List.length_append]
  exact hown
theorem sort_drop {s g : Int} {l : List Run} {W wr w1 w2 : World} {k : Nat} {v4 v5 u : Value} (ho : okK s g l (kd s g l k).1 k = false) (hS : SortAt s g l W k v4 v5 wr) (hb1 : Below wr.heap.size wr w1)
    (hown : w2.ownsRow W.heap.size 3 1 u ((kd s g l k).2.length + 1) (ints (kd s g l k).2 ++ [.int .i64 (k : Int)])) (hg : w1.grownBy w2 v5.ownBlock) (ha : u.ownBlock = v5.ownBlock ∨ u.ownBlock = some w1.heap.size) (hb : Below W.heap.size W w2) : SortAt s g l W (k + 1) v4 u w2 := by
  unfold SortAt
  rw [kd_no ho]
  refine ⟨((hS.1.below hb1).swap.grow ?_ hg ha).swap, hb⟩
  rw [ints_snoc, List.length_append]
  exact hown
theorem last_keep {s g : Int} {l : List Run} {k : Nat} (ho : okK s g l (kd s g l k).1 k = true) : lastI (kd s g l (k + 1)).1 = k := by rw [kd_yes ho, lastI]; simp
theorem last_drop {s g : Int} {l : List Run} {k : Nat} (ho : okK s g l (kd s g l k).1 k = false) : lastI (kd s g l (k + 1)).1 = lastI (kd s g l k).1 := by rw [kd_no ho]
theorem rdInts {w : World} {base : Nat} {v : Value} {K : List Nat} (h : w.ownsRow base 3 1 v K.length (ints K)) : ∃ A c, v = .slice A K.length c ∧ Rd one 1 w A K.length (K.map (fun (j : Nat) => (j : Int))) := by
  have : ints K = (K.map (fun (j : Nat) => (j : Int))).map (Value.int .i64) := by simp [ints]
  rw [this] at h
  exact rdOwn1 h

set_option maxRecDepth 100000 in
set_option maxHeartbeats 4000000 in
theorem goSort (s g : Int) (A : Option Addr) (n c : Nat) (l : List Run) (w : World) (h : Rd three 3 w A n l) (hm : n ≤ 9223372036854775807) :
    Calls Try.prog 49 #[.agg #[.int .i64 s, .int .i64 g], .slice A n c] w (GivesII (keptI s g l) (dropI s g l) (errK s g l) w) := by
  rcases hf : fltB s g with _ | _
  · have HF := Lib.hid hf
    rw [errK_flt hf, kept_no (by rw [errK_flt hf]; decide), drop_no (by rw [errK_flt hf]; decide)]
    clear hf h
    go_enter Try.func49, Try.ntmps49
    go_wp2_with fail
    go_step3
    go_wp2_with (go_at_call 18; refine (goFlt_is HF.out).mono ?_; rintro e w' ⟨rfl, rfl⟩)
    go_ret3
    exact gives_none rfl rfl (((Below.refl _ _).alloc (Nat.le_refl _) _).alloc (by simp) _)
  by_cases hl : 2048 < l.length
  · have HF := Lib.hid hf
    rw [errK_len hf hl, kept_no (by rw [errK_len hf hl]; decide), drop_no (by rw [errK_len hf hl]; decide)]
    rw [← h.1] at hl
    clear hf h
    go_enter Try.func49, Try.ntmps49
    go_wp2_with fail
    go_step3
    go_wp2_with (go_at_call 18; refine (goFlt_is HF.out).mono ?_; rintro e w' ⟨rfl, rfl⟩)
    go_ret3
    exact gives_none rfl rfl (((Below.refl _ _).alloc (Nat.le_refl _) _).alloc (by simp) _)
  have HF := Lib.hid hf
  have HFL : Hid (fltB s g = true) := hf
  have HL : Hid (¬ 2048 < l.length) := hl
  rw [← h.1] at hl
  clear hf
  go_enter Try.func49, Try.ntmps49
  go_wp2_with fail
  go_step3
  go_wp2_with (go_at_call 18; refine (goFlt_is HF.out).mono ?_; rintro e w' ⟨rfl, rfl⟩)
  have ew : Hid (∃ W, (w.alloc (.cells #[.int .i64 s, .int .i64 g] 32)).alloc (.cells #[.int .i64 s, .int .i64 g] 32) = W) := ⟨_, rfl⟩
  obtain ⟨W, hW⟩ := ew.out
  rw [hW]
  have hc0 : W.cell? ⟨w.heap.size, 0, none⟩ = some (.int .i64 s) := by rw [← hW]; first | rfl | simp
  have hc1 : W.cell? ⟨w.heap.size, 1, none⟩ = some (.int .i64 g) := by rw [← hW]; first | rfl | simp
  have hbW : Below w.heap.size w W := by rw [← hW]; exact ((Below.refl _ _).alloc (Nat.le_refl _) _).alloc (by simp) _
  have hsW : w.heap.size < W.heap.size := by rw [← hW]; simp; omega
  have hR : Rd three 3 W A n l := h.below hbW (Nat.le_refl _)
  clear hW ew h
  obtain ⟨i0, hi, hz0, hz1, hz2⟩ := info_parts Try.info3
  go_loopw [22, 4, 5] (fun i v4 v5 wr => ∃ k : Nat, k ≤ n ∧ i = .int .i64 k ∧ v4 = .slice none 0 0 ∧ v5 = .slice none 0 0 ∧ Hid (Good l k) ∧ Below W.heap.size W wr) (fun i _ _ _ => n - (intOf i).toNat)
  case atStart => exact ⟨0, Nat.zero_le _, rfl, rfl, rfl, fun j h1 => absurd h1 (by omega), Below.refl _ _⟩
  case round =>
    obtain ⟨k, hk, rfl, rfl, rfl, hg, hb⟩ := hrel
    have hsz := hb.size
    by_cases hlt : k < n
    · obtain ⟨x, y, z, b, off, hA, hx, hd0, hd1, hd2⟩ := (hR.below hb (Nat.le_refl _)).at3 hlt
      subst hA
      have hkl : k < l.length := by rw [← hR.1]; exact hlt
      have e0 : ∀ t : Later (wr.alloc (.cells #[.int .i64 x, .int .i64 y, .int .i64 z] 46)), t.w.cell? ⟨wr.heap.size, 0, none⟩ = some (.int .i64 x) := fun t => Later.cell (by first | rfl | simp) t
      have e1 : ∀ t : Later (wr.alloc (.cells #[.int .i64 x, .int .i64 y, .int .i64 z] 46)), t.w.cell? ⟨wr.heap.size, 1, none⟩ = some (.int .i64 y) := fun t => Later.cell (by first | rfl | simp) t
      have e2 : ∀ t : Later (wr.alloc (.cells #[.int .i64 x, .int .i64 y, .int .i64 z] 46)), t.w.cell? ⟨wr.heap.size, 2, none⟩ = some (.int .i64 z) := fun t => Later.cell (by first | rfl | simp) t
      have hbb : Below W.heap.size W (wr.alloc (.cells #[.int .i64 x, .int .i64 y, .int .i64 z] 46)) := hb.alloc hsz _
      have hszb := hbb.size
      rcases hM : mayB x y z with _ | _
      · have G : Hid (traceB l = false) := traceB_bad hkl (inTime_may hx.out hM)
        have HM := Lib.hid hM
        clear hM
        go_wp2_with fail
        refine wp_region_later (by kernel_rfl) (by kernel_rfl) ?_
        repeat (go_big_quiet_step ((go_at_call 51; exact calls_later (goMay_b x y z false HM.out _))))
        refine wpQuiet_nil ?_
        rintro w2 ⟨t, rfl⟩
        have hb2 := t.below
        generalize t.w = w2 at hb2 ⊢
        clear e0 e1 e2 t
        go_wp2_with fail
        go_ret3
        have E := errK_bad HFL.out HL.out G.out
        rw [E, kept_no (by rw [E]; decide), drop_no (by rw [E]; decide)]
        exact gives_none rfl rfl (hbW.trans ((hbb.trans (hb2.mono hszb)).mono (by omega)))
      · have HM := Lib.hid hM
        rcases Nat.eq_zero_or_pos k with rfl | hpos
        · rw [Nat.zero_mul, Nat.add_zero] at hd0 hd1 hd2
          have G : Hid (Good l (0 + 1)) := good_succ hg.out (by rw [inTime_zero hx.out, hM])
          clear hM
          go_wp2_with fail
          refine wp_region_later (by kernel_rfl) (by kernel_rfl) ?_
          repeat (go_big_quiet_step ((go_at_call 51; exact calls_later (goMay_b x y z true HM.out _))))
          refine wpQuiet_nil ?_
          rintro w2 ⟨t, rfl⟩
          have hb2 := t.below
          generalize t.w = w2 at hb2 ⊢
          clear e0 e1 e2 t
          go_wp2
          go_roundw
          case rel => exact ⟨0 + 1, by omega, by go_num, rfl, rfl, G.out, hbb.trans (hb2.mono hszb)⟩
          case measure => simp [intOf]; omega
        · obtain ⟨j, rfl⟩ : ∃ j, k = j + 1 := ⟨k - 1, by omega⟩
          obtain ⟨x', y', z', b', off', hA', hx', hd0', hd1', hd2'⟩ := (hR.below hb (Nat.le_refl _)).at3 (k := j) (by omega)
          obtain ⟨rfl, rfl⟩ : b = b' ∧ off = off' := by simpa using hA'
          clear hA' hpos hd1' hd2'
          have HO := Lib.hid (inTime_succ hx.out hx'.out)
          have d3 : ∀ t : Later (wr.alloc (.cells #[.int .i64 x, .int .i64 y, .int .i64 z] 46)), t.w.cell? ⟨b, off + j * 3, none⟩ = some (.int .i64 x') := fun t => Later.cell ((((Below.refl wr.heap.size wr).alloc (Nat.le_refl _) _).cell (p := ⟨b, _, none⟩) (lt_of_cell hd0')).trans hd0') t
          have WJ : Hid (IntKind.i64.wrap (j : Int) = (j : Int)) := IntWalk.i64_in _ (by omega)
          have wj0 : (0 : Int) ≤ j := by omega
          have wjn : (j : Int) < n := by omega
          by_cases ht : x' < x
          · have G : Hid (Good l (j + 1 + 1)) := good_succ hg.out (by rw [HO.out, hM]; simpa using ht)
            clear hM
            go_wp2_with fail
            refine wp_region_later (by kernel_rfl) (by kernel_rfl) ?_
            have wj := WJ.out
            repeat (go_big_quiet_step ((go_at_call 51; exact calls_later (goMay_b x y z true HM.out _))))
            refine wpQuiet_nil ?_
            rintro w2 ⟨t, rfl⟩
            have hb2 := t.below
            generalize t.w = w2 at hb2 ⊢
            clear e0 e1 e2 d3 t wj
            go_wp2
            go_roundw
            case rel => exact ⟨j + 1 + 1, by omega, by go_num, rfl, rfl, G.out, hbb.trans (hb2.mono hszb)⟩
            case measure => simp [intOf]; omega
          · have G : Hid (traceB l = false) := traceB_bad hkl (by rw [HO.out, hM]; simpa using ht)
            clear hM
            go_wp2_with fail
            refine wp_region_later (by kernel_rfl) (by kernel_rfl) ?_
            have wj := WJ.out
            repeat (go_big_quiet_step ((go_at_call 51; exact calls_later (goMay_b x y z true HM.out _))))
            refine wpQuiet_nil ?_
            rintro w2 ⟨t, rfl⟩
            have hb2 := t.below
            generalize t.w = w2 at hb2 ⊢
            clear e0 e1 e2 d3 t wj
            go_wp2_with fail
            go_ret3
            have E := errK_bad HFL.out HL.out G.out
            rw [E, kept_no (by rw [E]; decide), drop_no (by rw [E]; decide)]
            exact gives_none rfl rfl (hbW.trans ((hbb.trans (hb2.mono hszb)).mono (by omega)))
    · have hkn : k = n := by omega
      rw [hkn] at hg
      go_wp2_with fail
      go_step3
      go_wp2_with fail
      go_loopw [48, 4, 5, 9] (fun i v4 v5 v9 wr => ∃ k : Nat, k ≤ n ∧ i = .int .i64 k ∧ Hid (v9 = .int .i64 (lastI (kd s g l k).1)) ∧ Hid (SortAt s g l W k v4 v5 wr)) (fun i _ _ _ _ => n - (intOf i).toNat)
      case atStart => exact ⟨0, Nat.zero_le _, rfl, rfl, ⟨Two.nil _ _ _ _ _ _, hb⟩⟩
      case round =>
        clear hb hkn hk hlt
        obtain ⟨k, hk, rfl, h9, hS⟩ := hrel
        obtain rfl := h9.out
        have hb := hS.out.2
        have hsz := hb.size
        by_cases hlt : k < n
        · obtain ⟨x, y, z, b, off, hA, hx, hd0, hd1, hd2⟩ := (hR.below hb (Nat.le_refl _)).at3 hlt
          subst hA
          have e0 : ∀ t : Later (wr.alloc (.cells #[.int .i64 x, .int .i64 y, .int .i64 z] 46)), t.w.cell? ⟨wr.heap.size, 0, none⟩ = some (.int .i64 x) := fun t => Later.cell (by first | rfl | simp) t
          have e1 : ∀ t : Later (wr.alloc (.cells #[.int .i64 x, .int .i64 y, .int .i64 z] 46)), t.w.cell? ⟨wr.heap.size, 1, none⟩ = some (.int .i64 y) := fun t => Later.cell (by first | rfl | simp) t
          have e2 : ∀ t : Later (wr.alloc (.cells #[.int .i64 x, .int .i64 y, .int .i64 z] 46)), t.w.cell? ⟨wr.heap.size, 2, none⟩ = some (.int .i64 z) := fun t => Later.cell (by first | rfl | simp) t
          have BA : Hid (Below wr.heap.size wr (wr.alloc (.cells #[.int .i64 x, .int .i64 y, .int .i64 z] 46))) := (Below.refl wr.heap.size wr).alloc (Nat.le_refl _) _
          have hbb : Below W.heap.size W (wr.alloc (.cells #[.int .i64 x, .int .i64 y, .int .i64 z] 46)) := hb.alloc hsz _
          have hszb := hbb.size
          have L1 : (kd s g l k).1.length ≤ k := by have := (kd_lt s g l k).2.2; omega
          have L2 : (kd s g l k).2.length ≤ k := by have := (kd_lt s g l k).2.2; omega
          rcases hK : (kd s g l k).1.getLast? with _ | j
          · have O := Lib.hid (ok_nil (s := s) (g := g) (l := l) (k := k) hK)
            have hlast : lastI (kd s g l k).1 = -1 := by rw [lastI, hK]
            rw [hlast]
            go_wp2_with fail
            refine wp_region_later (by kernel_rfl) (by kernel_rfl) ?_
            repeat (go_big_quiet_step (fail))
            refine wpQuiet_nil ?_
            rintro w2 ⟨t, rfl⟩
            have hb2 := t.below
            generalize t.w = w2 at hb2 ⊢
            have HB : Hid (Below wr.heap.size wr w2) := BA.out.trans (hb2.mono BA.out.size)
            have HC : Hid (Below W.heap.size W w2) := hbb.trans (hb2.mono hszb)
            have hs2 : wr.heap.size ≤ w2.heap.size := HB.out.size
            have hs3 : W.heap.size ≤ w2.heap.size := HC.out.size
            clear e0 e1 e2 t hb2
            go_wp2_with (at_builtin; refine wpList_append_own_at _ rfl _ _ 36 rfl W.heap.size 3 i0 (.int .i64 0) 1 8 Try.underlying36 hi hz0 hz1 hz2 rfl (by decide) _ _ _ rfl ((own_below hS.out.1.1 HB.out).alloc _) ⟨w2.heap.size, 0, none⟩ 1 1 [.int .i64 (k : Int)] rfl rfl (cell_one_new _ _ _) (by simp [Value.oneCell']) (by unfold maxLen; omega) (by omega) (by simp; omega) ?_; intro v' w3 hown' hgrow _ hat; have SK := Lib.hid (sort_keep O.out hS.out (HB.out.alloc hs2 _) hown' hgrow hat ((HC.out.alloc hs3 _).grown hgrow (by simp; omega) (fun j hj => (hS.out.1.1.lt j hj).1))); clear hown' hgrow hat)
            go_roundw
            case rel => exact ⟨k + 1, by omega, by go_num, by show _ = _; rw [last_keep O.out], SK.out⟩
            case measure => simp [intOf]; omega
          · have hjk : j < k := (kd_lt s g l k).1 j (List.mem_of_getLast? hK)
            obtain ⟨x', y', z', b', off', hA', hx', hd0', hd1', hd2'⟩ := (hR.below hb (Nat.le_refl _)).at3 (k := j) (by omega)
            obtain ⟨rfl, rfl⟩ : b = b' ∧ off = off' := by simpa using hA'
            clear hA'
            obtain ⟨x0, x1, _⟩ := mayB_iff.1 (may_of (hg.out k (by omega)) hx.out)
            obtain ⟨x0', x1', _⟩ := mayB_iff.1 (may_of (hg.out j (by omega)) hx'.out)
            have p0 : ∀ t : Later (wr.alloc (.cells #[.int .i64 x, .int .i64 y, .int .i64 z] 46)), t.w.cell? ⟨b, off + j * 3, none⟩ = some (.int .i64 x') := fun t => Later.cell ((BA.out.cell (p := ⟨b, _, none⟩) (lt_of_cell hd0')).trans hd0') t
            have p1 : ∀ t : Later (wr.alloc (.cells #[.int .i64 x, .int .i64 y, .int .i64 z] 46)), t.w.cell? ⟨b, off + j * 3 + 1, none⟩ = some (.int .i64 y') := fun t => Later.cell ((BA.out.cell (p := ⟨b, _, none⟩) (lt_of_cell hd1')).trans hd1') t
            have p2 : ∀ t : Later (wr.alloc (.cells #[.int .i64 x, .int .i64 y, .int .i64 z] 46)), t.w.cell? ⟨b, off + j * 3 + 2, none⟩ = some (.int .i64 z') := fun t => Later.cell ((BA.out.cell (p := ⟨b, _, none⟩) (lt_of_cell hd2')).trans hd2') t
            have f0 : ∀ t : Later (wr.alloc (.cells #[.int .i64 x, .int .i64 y, .int .i64 z] 46)), t.w.cell? ⟨w.heap.size, 0, none⟩ = some (.int .i64 s) := fun t => Later.cell ((hbb.cell (p := ⟨w.heap.size, _, none⟩) hsW).trans hc0) t
            have f1 : ∀ t : Later (wr.alloc (.cells #[.int .i64 x, .int .i64 y, .int .i64 z] 46)), t.w.cell? ⟨w.heap.size, 1, none⟩ = some (.int .i64 g) := fun t => Later.cell ((hbb.cell (p := ⟨w.heap.size, _, none⟩) hsW).trans hc1) t
            have hlast : Hid (lastI (kd s g l k).1 = j) := by show _ = _; rw [lastI, hK]
            rw [hlast.out]
            have j0 : (0 : Int) ≤ j := by omega
            have jn : (j : Int) < n := by omega
            have OG := Lib.hid (fun hg : x - x' < g => ok_gap (s := s) (g := g) (a := (x', y', z')) (b := (x, y, z)) hK hx'.out hx.out hg)
            have OC := Lib.hid (fun hg : ¬ x - x' < g => ok_can (s := s) (g := g) (a := (x', y', z')) (b := (x, y, z)) hK hx'.out hx.out hg)
            by_cases hgap : x - x' < g
            · have O := Lib.hid (OG.out hgap)
              have dg : decide (x - x' < g) = true := decide_eq_true hgap
              go_wp2_with fail
              refine wp_region_later (by kernel_rfl) (by kernel_rfl) ?_
              repeat (go_big_quiet_step (fail))
              refine wpQuiet_nil ?_
              rintro w2 ⟨t, rfl⟩
              have hb2 := t.below
              generalize t.w = w2 at hb2 ⊢
              have HB : Hid (Below wr.heap.size wr w2) := BA.out.trans (hb2.mono BA.out.size)
              have HC : Hid (Below W.heap.size W w2) := hbb.trans (hb2.mono hszb)
              have hs2 : wr.heap.size ≤ w2.heap.size := HB.out.size
              have hs3 : W.heap.size ≤ w2.heap.size := HC.out.size
              clear e0 e1 e2 p0 p1 p2 f0 f1 t hb2
              go_wp2_with (at_builtin; refine wpList_append_own_at _ rfl _ _ 36 rfl W.heap.size 3 i0 (.int .i64 0) 1 8 Try.underlying36 hi hz0 hz1 hz2 rfl (by decide) _ _ _ rfl ((own_below hS.out.1.2.1 HB.out).alloc _) ⟨w2.heap.size, 0, none⟩ 1 1 [.int .i64 (k : Int)] rfl rfl (cell_one_new _ _ _) (by simp [Value.oneCell']) (by unfold maxLen; omega) (by omega) (by simp; omega) ?_; intro v' w3 hown' hgrow _ hat; have SK := Lib.hid (sort_drop O.out hS.out (HB.out.alloc hs2 _) hown' hgrow hat ((HC.out.alloc hs3 _).grown hgrow (by simp; omega) (fun j hj => (hS.out.1.2.1.lt j hj).1))); clear hown' hgrow hat)
              go_roundw
              case rel => exact ⟨k + 1, by omega, by go_num, by show _ = _; rw [last_drop O.out, hlast.out], SK.out⟩
              case measure => simp [intOf]; omega
            · have dg : decide (x - x' < g) = false := decide_eq_false hgap
              have OC' := Lib.hid (OC.out hgap)
              rcases hC : canB s g (x', y', z') (x, y, z) with _ | _
              · have O : Hid (okK s g l (kd s g l k).1 k = false) := by show _ = _; rw [OC'.out, hC]
                have CC := Lib.hid hC
                clear hC OC' OC OG
                go_wp2_with fail
                refine wp_region_later (by kernel_rfl) (by kernel_rfl) ?_
                repeat (go_big_quiet_step ((go_at_call 22; exact calls_later (goCan_is s g x' y' z' x y z false CC.out _))))
                refine wpQuiet_nil ?_
                rintro w2 ⟨t, rfl⟩
                have hb2 := t.below
                generalize t.w = w2 at hb2 ⊢
                have HB : Hid (Below wr.heap.size wr w2) := BA.out.trans (hb2.mono BA.out.size)
                have HC : Hid (Below W.heap.size W w2) := hbb.trans (hb2.mono hszb)
                have hs2 : wr.heap.size ≤ w2.heap.size := HB.out.size
                have hs3 : W.heap.size ≤ w2.heap.size := HC.out.size
                clear e0 e1 e2 p0 p1 p2 f0 f1 t hb2
                go_wp2_with (at_builtin; refine wpList_append_own_at _ rfl _ _ 36 rfl W.heap.size 3 i0 (.int .i64 0) 1 8 Try.underlying36 hi hz0 hz1 hz2 rfl (by decide) _ _ _ rfl ((own_below hS.out.1.2.1 HB.out).alloc _) ⟨w2.heap.size, 0, none⟩ 1 1 [.int .i64 (k : Int)] rfl rfl (cell_one_new _ _ _) (by simp [Value.oneCell']) (by unfold maxLen; omega) (by omega) (by simp; omega) ?_; intro v' w3 hown' hgrow _ hat; have SK := Lib.hid (sort_drop O.out hS.out (HB.out.alloc hs2 _) hown' hgrow hat ((HC.out.alloc hs3 _).grown hgrow (by simp; omega) (fun j hj => (hS.out.1.2.1.lt j hj).1))); clear hown' hgrow hat)
                go_roundw
                case rel => exact ⟨k + 1, by omega, by go_num, by show _ = _; rw [last_drop O.out, hlast.out], SK.out⟩
                case measure => simp [intOf]; omega
              · have O : Hid (okK s g l (kd s g l k).1 k = true) := by show _ = _; rw [OC'.out, hC]
                have CC := Lib.hid hC
                clear hC OC' OC OG
                go_wp2_with fail
                refine wp_region_later (by kernel_rfl) (by kernel_rfl) ?_
                repeat (go_big_quiet_step ((go_at_call 22; exact calls_later (goCan_is s g x' y' z' x y z true CC.out _))))
                refine wpQuiet_nil ?_
                rintro w2 ⟨t, rfl⟩
                have hb2 := t.below
                generalize t.w = w2 at hb2 ⊢
                have HB : Hid (Below wr.heap.size wr w2) := BA.out.trans (hb2.mono BA.out.size)
                have HC : Hid (Below W.heap.size W w2) := hbb.trans (hb2.mono hszb)
                have hs2 : wr.heap.size ≤ w2.heap.size := HB.out.size
                have hs3 : W.heap.size ≤ w2.heap.size := HC.out.size
                clear e0 e1 e2 p0 p1 p2 f0 f1 t hb2
                go_wp2_with (at_builtin; refine wpList_append_own_at _ rfl _ _ 36 rfl W.heap.size 3 i0 (.int .i64 0) 1 8 Try.underlying36 hi hz0 hz1 hz2 rfl (by decide) _ _ _ rfl ((own_below hS.out.1.1 HB.out).alloc _) ⟨w2.heap.size, 0, none⟩ 1 1 [.int .i64 (k : Int)] rfl rfl (cell_one_new _ _ _) (by simp [Value.oneCell']) (by unfold maxLen; omega) (by omega) (by simp; omega) ?_; intro v' w3 hown' hgrow _ hat; have SK := Lib.hid (sort_keep O.out hS.out (HB.out.alloc hs2 _) hown' hgrow hat ((HC.out.alloc hs3 _).grown hgrow (by simp; omega) (fun j hj => (hS.out.1.1.lt j hj).1))); clear hown' hgrow hat)
                go_roundw
                case rel => exact ⟨k + 1, by omega, by go_num, by show _ = _; rw [last_keep O.out], SK.out⟩
                case measure => simp [intOf]; omega
        · have hkn : k = n := by omega
          have TG : Hid (traceB l = true) := traceB_good (by rw [← hR.1]; exact hg.out)
          go_wp2_with fail
          go_ret3
          have E := errK_ok HFL.out HL.out TG.out
          have hS' := hS.out
          unfold SortAt at hS'
          rw [hkn, hR.1] at hS'
          obtain ⟨⟨o1, o2, _⟩, hb'⟩ := hS'
          obtain ⟨A1, c1, rfl, r1⟩ := rdInts o1
          obtain ⟨A2, c2, rfl, r2⟩ := rdInts o2
          rw [E, keptI, if_pos E, dropI, if_pos E]
          exact ⟨_, _, _, _, _, _, rfl, r1, r2, hbW.trans (hb'.mono (by omega))⟩
end Go.Proofs.Ytgaonfeljijebaa
