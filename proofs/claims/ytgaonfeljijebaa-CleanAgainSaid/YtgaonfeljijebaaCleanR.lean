/-
  The reference's Keep: what is kept, the places of what is dropped, and the error, in memory of its own. No conditions but the reading of the trace.
-/
import Derived.Test.YtgaonfeljijebaaCleanT
namespace Go.Proofs.Ytgaonfeljijebaa
open Go.ChangeShapes Go.WideShapes Go.ChangeAt Go.RowKit
set_option linter.unusedVariables false

theorem refCan_is (s g t x y t' x' y' : Int) (b : Bool) (h : canB s g (t, x, y) (t', x', y') = b) (w : World) : Calls Try.prog 23 #[.agg #[.int .i64 s, .int .i64 g], .agg #[.int .i64 t, .int .i64 x, .int .i64 y], .agg #[.int .i64 t', .int .i64 x', .int .i64 y']] w fun e w' => e = .returned (.bool b) ∧ Below w.heap.size w w' := by
  rw [← h]; exact refCan s g t x y t' x' y' w
theorem refTrace_is (A : Option Addr) (n c : Nat) (l : List Run) (b : Bool) (hb : traceB l = b) (w : World) (h : Rd three 3 w A n l) (hm : n ≤ 9223372036854775807) :
    Calls Try.prog 50 #[.slice A n c] w fun e w' => e = .returned (.bool b) ∧ Below w.heap.size w w' := by rw [← hb]; exact refTrace A n c l w h hm
theorem good_of {l : List Run} (h : traceB l = true) : Good l l.length := fun j hj => by
  unfold traceB at h
  rw [List.all_eq_true] at h
  exact h j (by simpa using hj)
/-- The state ahead of sample k: samples kept, places dropped. -/
def RefKAt (s g : Int) (l : List Run) (W : World) (k : Nat) (vk vd : Value) (wr : World) : Prop :=
  Two wr W.heap.size 46 3 vk (kd s g l k).1.length (cells3 (pick l (kd s g l k).1)) 3 1 vd (kd s g l k).2.length (ints (kd s g l k).2) ∧ Below W.heap.size W wr
theorem refk_keep {s g : Int} {l : List Run} {W wr w1 w2 : World} {k : Nat} {v4 v5 u : Value} {x y z : Int} (ho : okK s g l (kd s g l k).1 k = true) (hx : l[k]? = some (x, y, z)) (hS : RefKAt s g l W k v4 v5 wr) (hb1 : Below wr.heap.size wr w1)
    (hown : w2.ownsRow W.heap.size 46 3 u ((kd s g l k).1.length + 1) (cells3 (pick l (kd s g l k).1) ++ [.int .i64 x, .int .i64 y, .int .i64 z])) (hg : w1.grownBy w2 v4.ownBlock) (ha : u.ownBlock = v4.ownBlock ∨ u.ownBlock = some w1.heap.size) (hb : Below W.heap.size W w2) : RefKAt s g l W (k + 1) u v5 w2 := by
  unfold RefKAt
  rw [kd_yes ho]
  refine ⟨(hS.1.below hb1).grow ?_ hg ha, hb⟩
  rw [pick_snoc hx, cells3_snoc, List.length_append]
  exact hown
theorem refk_drop {s g : Int} {l : List Run} {W wr w1 w2 : World} {k : Nat} {v4 v5 u : Value} (ho : okK s g l (kd s g l k).1 k = false) (hS : RefKAt s g l W k v4 v5 wr) (hb1 : Below wr.heap.size wr w1)
    (hown : w2.ownsRow W.heap.size 3 1 u ((kd s g l k).2.length + 1) (ints (kd s g l k).2 ++ [.int .i64 (k : Int)])) (hg : w1.grownBy w2 v5.ownBlock) (ha : u.ownBlock = v5.ownBlock ∨ u.ownBlock = some w1.heap.size) (hb : Below W.heap.size W w2) : RefKAt s g l W (k + 1) v4 u w2 := by
  unfold RefKAt
  rw [kd_no ho]
  refine ⟨((hS.1.below hb1).swap.grow ?_ hg ha).swap, hb⟩
  rw [ints_snoc, List.length_append]
  exact hown
/-- A call hands back a list of samples, a list of ints, and a number. -/
def GivesSI (ls : List Run) (ds : List Int) (er : Int) (w : World) (e : Ending) (w' : World) : Prop :=
  ∃ A N c A' N' c', e = .returned (.tuple #[.slice A N c, .slice A' N' c', .int .i64 er]) ∧ Rd three 3 w' A N ls ∧ Rd one 1 w' A' N' ds ∧ Below w.heap.size w w'
theorem si_none {er : Int} {w w' : World} {ks : List Run} {ds : List Int} (hk : ks = []) (hd : ds = []) (hb : Below w.heap.size w w') : GivesSI ks ds er w (.returned (.tuple #[.slice none 0 0, .slice none 0 0, .int .i64 er])) w' := by
  subst hk hd
  exact ⟨_, _, _, _, _, _, rfl, Rd.nil _ _ _ _, Rd.nil _ _ _ _, hb⟩
theorem keptL_no {s g : Int} {l : List Run} (h : errK s g l ≠ 0) : keptL s g l = [] := by rw [keptL, if_neg h]

set_option maxRecDepth 100000 in
set_option maxHeartbeats 4000000 in
theorem refKeep (s g : Int) (A : Option Addr) (n c : Nat) (l : List Run) (w : World) (h : Rd three 3 w A n l) (hm : n ≤ 9223372036854775807) :
    Calls Try.prog 17 #[.agg #[.int .i64 s, .int .i64 g], .slice A n c] w (GivesSI (keptL s g l) (dropI s g l) (errK s g l) w) := by
  rcases hf : fltB s g with _ | _
  · have HF := Lib.hid hf
    rw [errK_flt hf, keptL_no (by rw [errK_flt hf]; decide), drop_no (by rw [errK_flt hf]; decide)]
    clear hf h
    go_enter Try.func17, Try.ntmps17
    go_wp2_with (go_at_call 19; refine (refFlt_is HF.out).mono ?_; rintro e w' ⟨rfl, rfl⟩)
    go_ret3
    exact si_none rfl rfl (((Below.refl _ _).alloc (Nat.le_refl _) _).alloc (by simp) _)
  by_cases hl : 2048 < l.length
  · have HF := Lib.hid hf
    rw [errK_len hf hl, keptL_no (by rw [errK_len hf hl]; decide), drop_no (by rw [errK_len hf hl]; decide)]
    rw [← h.1] at hl
    clear hf h
    go_enter Try.func17, Try.ntmps17
    go_wp2_with (go_at_call 19; refine (refFlt_is HF.out).mono ?_; rintro e w' ⟨rfl, rfl⟩)
    go_ret3
    exact si_none rfl rfl (((Below.refl _ _).alloc (Nat.le_refl _) _).alloc (by simp) _)
  rcases ht : traceB l with _ | _
  · have HF := Lib.hid hf
    have HT := Lib.hid ht
    have E := Lib.hid (errK_bad hf hl ht)
    rw [← h.1] at hl
    clear hf ht
    go_enter Try.func17, Try.ntmps17
    go_wp2_with (first
      | (go_at_call 19; refine (refFlt_is HF.out).mono ?_; rintro e w' ⟨rfl, rfl⟩)
      | (go_at_call 50; refine (refTrace_is A n c l false HT.out _ ((h.alloc _).alloc _) hm).mono ?_; rintro e w' ⟨rfl, hb⟩))
    go_ret3
    rw [E.out, keptL_no (by rw [E.out]; decide), drop_no (by rw [E.out]; decide)]
    exact si_none rfl rfl ((((Below.refl _ _).alloc (Nat.le_refl _) _).alloc (by simp) _).trans (hb.mono (by simp; omega)))
  have HF := Lib.hid hf
  have HT := Lib.hid ht
  have E := Lib.hid (errK_ok hf hl ht)
  obtain ⟨s0, s1, g0, g1⟩ := fltB_iff.1 hf
  have TG : Hid (Good l n) := by show Good l n; rw [h.1]; exact good_of ht
  rw [← h.1] at hl
  clear hf ht
  obtain ⟨i0, hi, hz0, hz1, hz2⟩ := info_parts Try.info3
  obtain ⟨i1, hj, hy0, hy1, hy2⟩ := info_parts Try.info46
  go_enter Try.func17, Try.ntmps17
  go_wp2_with (first
    | (go_at_call 19; refine (refFlt_is HF.out).mono ?_; rintro e w' ⟨rfl, rfl⟩)
    | (go_at_call 50; refine (refTrace_is A n c l true HT.out _ ((h.alloc _).alloc _) hm).mono ?_; rintro e W ⟨rfl, hbW⟩))
  have hc0 : W.cell? ⟨w.heap.size, 0, none⟩ = some (.int .i64 s) := (hbW.cell (p := ⟨w.heap.size, 0, none⟩) (by simp; omega)).trans (by first | rfl | simp)
  have hc1 : W.cell? ⟨w.heap.size, 1, none⟩ = some (.int .i64 g) := (hbW.cell (p := ⟨w.heap.size, 1, none⟩) (by simp; omega)).trans (by first | rfl | simp)
  have hbw : Below w.heap.size w W := (((Below.refl _ _).alloc (Nat.le_refl _) _).alloc (by simp) _).trans (hbW.mono (by simp; omega))
  have hsW : w.heap.size < W.heap.size := Nat.lt_of_lt_of_le (by simp; omega) hbW.size
  have hR : Rd three 3 W A n l := h.below hbw (Nat.le_refl _)
  clear hbW h
  go_loopw [9, 7, 8] (fun i v7 v8 wr => ∃ k : Nat, k ≤ n ∧ i = .int .i64 k ∧ Hid (RefKAt s g l W k v7 v8 wr)) (fun i _ _ _ => n - (intOf i).toNat)
  case atStart => exact ⟨0, Nat.zero_le _, rfl, ⟨Two.nil _ _ _ _ _ _, Below.refl _ _⟩⟩
  case round =>
    obtain ⟨k, hk, rfl, hS⟩ := hrel
    have hb := hS.out.2
    have hsz := hb.size
    by_cases hlt : k < n
    · obtain ⟨x, y, z, b, off, hA, hx, hd0, hd1, hd2⟩ := (hR.below hb (Nat.le_refl _)).at3 hlt
      subst hA
      have L1 : (kd s g l k).1.length ≤ k := by have := (kd_lt s g l k).2.2; omega
      have L2 : (kd s g l k).2.length ≤ k := by have := (kd_lt s g l k).2.2; omega
      rcases hK : (kd s g l k).1.getLast? with _ | j
      · have O := Lib.hid (ok_nil (s := s) (g := g) (l := l) (k := k) hK)
        have K0 : (kd s g l k).1 = [] := List.getLast?_eq_none_iff.1 hK
        have N0 : (kd s g l k).1.length = 0 := by rw [K0]; rfl
        have h7 := rd3 hS.out.1.1
        rw [N0] at h7
        obtain ⟨A1, c1, rfl, _⟩ := h7
        clear K0 hK
        have OW := Lib.hid hS.out.1.1
        go_wp2_with (at_builtin; refine wpList_append_own_at _ rfl _ _ 33 rfl W.heap.size 46 i1 _ 3 24 Try.underlying33 hj hy0 hy1 hy2 rfl (by decide) _ _ _ rfl ((OW.out).alloc _) ⟨wr.heap.size, 0, none⟩ 1 1 [.int .i64 x, .int .i64 y, .int .i64 z] rfl rfl (World.news_of_block (cs := #[.int .i64 x, .int .i64 y, .int .i64 z]) (t := 46) (fr := (0, 0)) (heap_alloc_new wr _)) (by simp [Value.oneCell']) (by unfold maxLen; omega) (by omega) (by simp; omega) ?_; intro v' w3 hown' hgrow _ hat; have SK := Lib.hid (refk_keep O.out hx.out hS.out (Below.alloc (Below.refl _ _) (Nat.le_refl _) _) hown' hgrow hat ((Below.alloc hb hsz _).grown hgrow (by simp; omega) (fun j hj => (hS.out.1.1.lt j hj).1))); clear hown' hgrow hat)
        go_roundw
        case rel => exact ⟨k + 1, by omega, by go_num, SK.out⟩
        case measure => simp [intOf]; omega
      · obtain ⟨M, hM⟩ : ∃ M, (kd s g l k).1.length = M + 1 := ⟨(kd s g l k).1.length - 1, by
          have : (kd s g l k).1 ≠ [] := fun e => by rw [e] at hK; simp at hK
          have := List.length_pos_iff.2 this
          omega⟩
        have hKM : (kd s g l k).1[M]? = some j := by rw [List.getLast?_eq_getElem?, hM] at hK; simpa using hK
        have hjk : j < k := (kd_lt s g l k).1 j (List.mem_of_getLast? hK)
        obtain ⟨a', hx'⟩ : ∃ a', l[j]? = some a' := ⟨_, List.getElem?_eq_getElem (show j < l.length by have := hR.1; omega)⟩
        obtain ⟨x', y', z'⟩ := a'
        have OG := Lib.hid (fun hg : x - x' < g => ok_gap (s := s) (g := g) (a := (x', y', z')) (b := (x, y, z)) hK hx' hx.out hg)
        have OC := Lib.hid (fun hg : ¬ x - x' < g => ok_can (s := s) (g := g) (a := (x', y', z')) (b := (x, y, z)) hK hx' hx.out hg)
        obtain ⟨x0, x1, _⟩ := mayB_iff.1 (may_of (TG.out k (by omega)) hx.out)
        obtain ⟨x0', x1', _⟩ := mayB_iff.1 (may_of (TG.out j (by omega)) hx')
        have h7 := hS.out.1.1
        rw [hM] at h7
        have hMk : M + 1 ≤ k := by omega
        obtain ⟨gg, cap, hv⟩ := own_form h7 (by omega)
        obtain rfl := hv
        have h7r : Rd three 3 wr (some ⟨gg, 0, none⟩) (M + 1) (pick l (kd s g l k).1) := Rd.own (enc := three) (F := 3) h7 (fun _ _ => rfl) (by omega)
        obtain ⟨a0, a1, a2, b', off', hA', hpx, hp0, hp1, hp2⟩ := h7r.at3 (k := M) (by omega)
        obtain ⟨rfl, rfl⟩ : gg = b' ∧ 0 = off' := by simpa using hA'
        obtain ⟨rfl, rfl, rfl⟩ : x' = a0 ∧ y' = a1 ∧ z' = a2 := by
          have h1 := hpx.out
          rw [pick, List.getElem?_map, hKM] at h1
          have h2 : l.getD j (0, 0, 0) = (x', y', z') := getD_is hx'
          simp only [Option.map_some, h2] at h1
          simpa using h1
        rw [Nat.zero_add] at hp0 hp1 hp2
        have OW7 := Lib.hid h7
        clear h7 h7r hpx hA' hx' hKM hK
        have HM := Lib.hid hM
        clear hM
        have M0 : (0 : Int) ≤ M := by omega
        have M1 : (M : Int) < (M : Int) + 1 := by omega
        have M2 : (M : Int) ≤ 4096 := by omega
        have BA : Hid (Below wr.heap.size wr (wr.alloc (.cells #[.int .i64 x', .int .i64 y', .int .i64 z'] 46))) := (Below.refl wr.heap.size wr).alloc (Nat.le_refl _) _
        have hbb : Below W.heap.size W (wr.alloc (.cells #[.int .i64 x', .int .i64 y', .int .i64 z'] 46)) := hb.alloc hsz _
        have hszb := hbb.size
        have e0 : ∀ t : Later (wr.alloc (.cells #[.int .i64 x', .int .i64 y', .int .i64 z'] 46)), t.w.cell? ⟨wr.heap.size, 0, none⟩ = some (.int .i64 x') := fun t => Later.cell (by first | rfl | simp) t
        have e1 : ∀ t : Later (wr.alloc (.cells #[.int .i64 x', .int .i64 y', .int .i64 z'] 46)), t.w.cell? ⟨wr.heap.size, 1, none⟩ = some (.int .i64 y') := fun t => Later.cell (by first | rfl | simp) t
        have e2 : ∀ t : Later (wr.alloc (.cells #[.int .i64 x', .int .i64 y', .int .i64 z'] 46)), t.w.cell? ⟨wr.heap.size, 2, none⟩ = some (.int .i64 z') := fun t => Later.cell (by first | rfl | simp) t
        have p0 : ∀ t : Later (wr.alloc (.cells #[.int .i64 x', .int .i64 y', .int .i64 z'] 46)), t.w.cell? ⟨b, off + k * 3, none⟩ = some (.int .i64 x) := fun t => Later.cell ((BA.out.cell (p := ⟨b, _, none⟩) (lt_of_cell hd0)).trans hd0) t
        have p1 : ∀ t : Later (wr.alloc (.cells #[.int .i64 x', .int .i64 y', .int .i64 z'] 46)), t.w.cell? ⟨b, off + k * 3 + 1, none⟩ = some (.int .i64 y) := fun t => Later.cell ((BA.out.cell (p := ⟨b, _, none⟩) (lt_of_cell hd1)).trans hd1) t
        have p2 : ∀ t : Later (wr.alloc (.cells #[.int .i64 x', .int .i64 y', .int .i64 z'] 46)), t.w.cell? ⟨b, off + k * 3 + 2, none⟩ = some (.int .i64 z) := fun t => Later.cell ((BA.out.cell (p := ⟨b, _, none⟩) (lt_of_cell hd2)).trans hd2) t
        have f0 : ∀ t : Later (wr.alloc (.cells #[.int .i64 x', .int .i64 y', .int .i64 z'] 46)), t.w.cell? ⟨w.heap.size, 0, none⟩ = some (.int .i64 s) := fun t => Later.cell ((hbb.cell (p := ⟨w.heap.size, _, none⟩) hsW).trans hc0) t
        have f1 : ∀ t : Later (wr.alloc (.cells #[.int .i64 x', .int .i64 y', .int .i64 z'] 46)), t.w.cell? ⟨w.heap.size, 1, none⟩ = some (.int .i64 g) := fun t => Later.cell ((hbb.cell (p := ⟨w.heap.size, _, none⟩) hsW).trans hc1) t
        by_cases hgap : x - x' < g
        · have O := Lib.hid (OG.out hgap)
          have dg : decide (x' + g ≤ x) = false := decide_eq_false (by omega)
          go_wp2_with fail
          refine wp_region_later (by kernel_rfl) (by kernel_rfl) ?_
          repeat (go_big_quiet_step (fail))
          refine wpQuiet_nil ?_
          rintro w2 ⟨t, rfl⟩
          have hb2 := t.below
          generalize t.w = w2 at hb2 ⊢
          have HB : Hid (Below wr.heap.size wr w2) := BA.out.trans (hb2.mono BA.out.size)
          have HC : Hid (Below W.heap.size W w2) := hbb.trans (hb2.mono hszb)
          have hs2 : wr.heap.size ≤ w2.heap.size := HB.out.size
          have hs3 : W.heap.size ≤ w2.heap.size := HC.out.size
          have q0 := (HB.out.cell (p := ⟨b, _, none⟩) (lt_of_cell hd0)).trans hd0
          have q1 := (HB.out.cell (p := ⟨b, _, none⟩) (lt_of_cell hd1)).trans hd1
          have q2 := (HB.out.cell (p := ⟨b, _, none⟩) (lt_of_cell hd2)).trans hd2
          clear e0 e1 e2 p0 p1 p2 f0 f1 t hb2 hd0 hd1 hd2 hp0 hp1 hp2
          go_wp2_with (at_builtin; refine wpList_append_own_at _ rfl _ _ 36 rfl W.heap.size 3 i0 (.int .i64 0) 1 8 Try.underlying36 hi hz0 hz1 hz2 rfl (by decide) _ _ _ rfl ((own_below hS.out.1.2.1 HB.out).alloc _) ⟨w2.heap.size, 0, none⟩ 1 1 [.int .i64 (k : Int)] rfl rfl (cell_one_new _ _ _) (by simp [Value.oneCell']) (by unfold maxLen; omega) (by omega) (by simp; omega) ?_; intro v' w3 hown' hgrow _ hat; have SK := Lib.hid (refk_drop O.out hS.out (Below.alloc HB.out hs2 _) hown' hgrow hat ((Below.alloc HC.out hs3 _).grown hgrow (by simp; omega) (fun j hj => (hS.out.1.2.1.lt j hj).1))); clear hown' hgrow hat)
          go_roundw
          case rel => exact ⟨k + 1, by omega, by go_num, SK.out⟩
          case measure => simp [intOf]; omega
        · have dg : decide (x' + g ≤ x) = true := decide_eq_true (by omega)
          have OC' := Lib.hid (OC.out hgap)
          rcases hC : canB s g (x', y', z') (x, y, z) with _ | _
          · have O : Hid (okK s g l (kd s g l k).1 k = false) := by show _ = _; rw [OC'.out, hC]
            have CC := Lib.hid hC
            clear hC OC' OC OG
            go_wp2_with fail
            refine wp_region_later (by kernel_rfl) (by kernel_rfl) ?_
            repeat (go_big_quiet_step ((go_at_call 23; exact calls_later (refCan_is s g x' y' z' x y z false CC.out _))))
            refine wpQuiet_nil ?_
            rintro w2 ⟨t, rfl⟩
            have hb2 := t.below
            generalize t.w = w2 at hb2 ⊢
            have HB : Hid (Below wr.heap.size wr w2) := BA.out.trans (hb2.mono BA.out.size)
            have HC : Hid (Below W.heap.size W w2) := hbb.trans (hb2.mono hszb)
            have hs2 : wr.heap.size ≤ w2.heap.size := HB.out.size
            have hs3 : W.heap.size ≤ w2.heap.size := HC.out.size
            have q0 := (HB.out.cell (p := ⟨b, _, none⟩) (lt_of_cell hd0)).trans hd0
            have q1 := (HB.out.cell (p := ⟨b, _, none⟩) (lt_of_cell hd1)).trans hd1
            have q2 := (HB.out.cell (p := ⟨b, _, none⟩) (lt_of_cell hd2)).trans hd2
            clear e0 e1 e2 p0 p1 p2 f0 f1 t hb2 hd0 hd1 hd2 hp0 hp1 hp2
            go_wp2_with (at_builtin; refine wpList_append_own_at _ rfl _ _ 36 rfl W.heap.size 3 i0 (.int .i64 0) 1 8 Try.underlying36 hi hz0 hz1 hz2 rfl (by decide) _ _ _ rfl ((own_below hS.out.1.2.1 HB.out).alloc _) ⟨w2.heap.size, 0, none⟩ 1 1 [.int .i64 (k : Int)] rfl rfl (cell_one_new _ _ _) (by simp [Value.oneCell']) (by unfold maxLen; omega) (by omega) (by simp; omega) ?_; intro v' w3 hown' hgrow _ hat; have SK := Lib.hid (refk_drop O.out hS.out (Below.alloc HB.out hs2 _) hown' hgrow hat ((Below.alloc HC.out hs3 _).grown hgrow (by simp; omega) (fun j hj => (hS.out.1.2.1.lt j hj).1))); clear hown' hgrow hat)
            go_roundw
            case rel => exact ⟨k + 1, by omega, by go_num, SK.out⟩
            case measure => simp [intOf]; omega
          · have O : Hid (okK s g l (kd s g l k).1 k = true) := by show _ = _; rw [OC'.out, hC]
            have CC := Lib.hid hC
            clear hC OC' OC OG
            go_wp2_with fail
            refine wp_region_later (by kernel_rfl) (by kernel_rfl) ?_
            repeat (go_big_quiet_step ((go_at_call 23; exact calls_later (refCan_is s g x' y' z' x y z true CC.out _))))
            refine wpQuiet_nil ?_
            rintro w2 ⟨t, rfl⟩
            have hb2 := t.below
            generalize t.w = w2 at hb2 ⊢
            have HB : Hid (Below wr.heap.size wr w2) := BA.out.trans (hb2.mono BA.out.size)
            have HC : Hid (Below W.heap.size W w2) := hbb.trans (hb2.mono hszb)
            have hs2 : wr.heap.size ≤ w2.heap.size := HB.out.size
            have hs3 : W.heap.size ≤ w2.heap.size := HC.out.size
            have q0 := (HB.out.cell (p := ⟨b, _, none⟩) (lt_of_cell hd0)).trans hd0
            have q1 := (HB.out.cell (p := ⟨b, _, none⟩) (lt_of_cell hd1)).trans hd1
            have q2 := (HB.out.cell (p := ⟨b, _, none⟩) (lt_of_cell hd2)).trans hd2
            clear e0 e1 e2 p0 p1 p2 f0 f1 t hb2 hd0 hd1 hd2 hp0 hp1 hp2
            go_wp2_with (at_builtin; refine wpList_append_own_at _ rfl _ _ 33 rfl W.heap.size 46 i1 _ 3 24 Try.underlying33 hj hy0 hy1 hy2 rfl (by decide) _ _ _ rfl ((own_below OW7.out HB.out).alloc _) ⟨w2.heap.size, 0, none⟩ 1 1 [.int .i64 x, .int .i64 y, .int .i64 z] rfl rfl (World.news_of_block (cs := #[.int .i64 x, .int .i64 y, .int .i64 z]) (t := 46) (fr := (0, 0)) (heap_alloc_new w2 _)) (by simp [Value.oneCell']) (by unfold maxLen; omega) (by omega) (by simp; omega) ?_; intro v' w3 hown' hgrow _ hat; have SK := Lib.hid (refk_keep O.out hx.out hS.out (Below.alloc HB.out hs2 _) (by rw [HM.out]; exact hown') hgrow hat ((Below.alloc HC.out hs3 _).grown hgrow (by simp; omega) (fun j hj => (hS.out.1.1.lt j hj).1))); clear hown' hgrow hat)
            go_roundw
            case rel => exact ⟨k + 1, by omega, by go_num, SK.out⟩
            case measure => simp [intOf]; omega
    · have hkn : k = n := by omega
      go_wp2_with fail
      go_ret3
      have hS' := hS.out
      unfold RefKAt at hS'
      rw [hkn, hR.1] at hS'
      obtain ⟨⟨o1, o2, _⟩, hb'⟩ := hS'
      obtain ⟨A1, c1, rfl, r1⟩ := rd3 o1
      obtain ⟨A2, c2, rfl, r2⟩ := rdInts o2
      rw [E.out, keptL, if_pos E.out, dropI, if_pos E.out]
      exact ⟨_, _, _, _, _, _, rfl, r1, r2, hbw.trans (hb'.mono (by omega))⟩
end Go.Proofs.Ytgaonfeljijebaa
