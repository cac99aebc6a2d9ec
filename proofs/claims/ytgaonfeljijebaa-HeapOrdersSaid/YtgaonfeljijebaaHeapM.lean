/-
  heap: Pop at pairs. Conditions: the heap's struct and row, and the order's variable, in memory.
-/
import Derived.Test.YtgaonfeljijebaaHeapL
namespace Go.Proofs.Ytgaonfeljijebaa
open Go.ChangeShapes Go.WideShapes Go.ChangeAt Go.RowKit Go.Shelf
set_option linter.unusedVariables false

theorem Step.fresh {O : Nat → Prop} {a b : World} (h : Step O a b) {p : Addr} (hp : a.heap.size ≤ p.block) (v : Value) : Step O a (b.setCell p v) :=
  ⟨h.os, h.tape, h.output, Nat.le_trans h.size (by simp [World.setCell]), fun k hk hn => (Below.heap_setCell b p v k (by omega)).trans (h.block k hk hn)⟩
/-- A heap from which the pair that comes first was taken. -/
def GaveP (tb : Nat) (b : Bool) (w : World) (hb : Nat) (v : Value) (l0 : List Pair) (x : Pair) (w' : World) : Prop :=
  ∃ v' l', HP tb w' hb v' l' ∧ IsHeap (keyP b) l' ∧ l0.Perm (x :: l') ∧ Step (InH hb v) w w' ∧ Grew w v v'
theorem gaveP_set {tb : Nat} {b : Bool} {w w8 : World} {hb r2 : Nat} {v v' : Value} {l lk : List Pair} {x : Pair} {u0 u1 : Value} (h : HP tb w8 hb v' lk) (hh : IsHeap (keyP b) lk) (hp : l.Perm (x :: lk)) (hs : Step (InH hb v) w w8) (hg : Grew w v v') (h2 : w.heap.size ≤ r2) (hn : ¬ InH hb v' r2) :
    GaveP tb b w hb v l x ((w8.setCell ⟨r2, 0, none⟩ u0).setCell ⟨r2, 1, none⟩ u1) :=
  ⟨v', lk, h.step (((Step.refl (fun k => k = r2) w8).set (p := ⟨r2, 0, none⟩) rfl _).set (p := ⟨r2, 1, none⟩) rfl _) (fun k hk => by rw [hk]; exact hn), hh, hp, (hs.fresh (p := ⟨r2, 0, none⟩) h2 _).fresh (p := ⟨r2, 1, none⟩) h2 _, hg⟩
set_option maxRecDepth 100000 in
set_option maxHeartbeats 16000000 in
theorem goPopP {tb hb : Nat} {b : Bool} {v : Value} {l : List Pair} {x1 x2 : Int} {w : World} (htc : Bk w tb 4 #[.bool b]) (htb : tb < hb) (hfl : ∀ r ∈ l, Fits r.1) (h : HP tb w hb v l) (hh : IsHeap (keyP b) l) (hl : l.length ≤ 1000) (hx : l[0]? = some (x1, x2)) :
    Calls Try.prog 35 #[.pointer (some ⟨hb, 0, none⟩)] w fun e w' => e = .returned (.tuple #[.agg #[.int .i64 x1, .int .i64 x2], .bool true]) ∧ GaveP tb b w hb v l (x1, x2) w' := by
  have h0 := (List.getElem?_eq_some_iff.1 hx).1
  obtain ⟨g, c, rfl⟩ := own_form h.row h0
  obtain ⟨n, hn⟩ : ∃ n, l.length = n + 1 := ⟨l.length - 1, by omega⟩
  have HN := Lib.hid hn
  have HX := Lib.hid hx
  have HH : Hid (HP tb w hb (.slice (some ⟨g, 0, none⟩) (n + 1) c) l) := by rw [hn] at h; exact h
  have CP : Hid (n + 1 ≤ c ∧ c ≤ maxLen ∧ hb + 1 ≤ g ∧ g < w.heap.size) := by have h1 := HH.out.row; rw [hn] at h1; exact own_cap h1
  have cp := CP.out
  unfold maxLen at cp
  obtain ⟨cp1, cp2, cp3, cp4⟩ := cp
  obtain ⟨⟨y, y'⟩, hy⟩ : ∃ y, l[n]? = some y := ⟨_, List.getElem?_eq_getElem (by omega)⟩
  have HY := Lib.hid hy
  obtain ⟨PS1, PS2⟩ := pop_start hh hx hy hn
  have HD := Lib.hid PS1
  have HPm := Lib.hid PS2
  have HFL := Lib.hid hfl
  have HTC := Lib.hid htc
  have n6 : n ≤ 999 := by omega
  have hbw := h.blk.lt
  have Ha : Hid (HP tb (w.alloc (.cells #[.int .i64 0, .int .i64 0] 62)) hb (.slice (some ⟨g, 0, none⟩) (n + 1) c) l) := HH.out.step (Step.of ((Below.refl _ w).alloc (Nat.le_refl _) _) (fun _ => False)) (fun _ h => h.elim)
  rw [hn]
  clear hn hx hy PS1 PS2 h hh h0 hl hfl htc
  go_enter Try.func35, Try.ntmps35
  go_wp2_with fail
  refine (goTopP_some Ha.out HN.out HX.out).mono ?_
  rintro e w3 ⟨rfl, hb3⟩
  have B3 := Lib.hid (below_boxed hb3)
  have R3 : Hid (Bk w3 w.heap.size 62 #[.int .i64 0, .int .i64 0]) := (Bk.new w 62 #[.int .i64 0, .int .i64 0]).below hb3 (by simp)
  clear hb3 Ha
  have z3 := B3.out.size
  have z33 := R3.out.lt
  obtain ⟨wB, hwB⟩ : ∃ wB, w3.alloc (.cells #[.int .i64 x1, .int .i64 x2] 62) = wB := ⟨_, rfl⟩
  obtain ⟨r4, hr4⟩ : ∃ r4, w3.heap.size = r4 := ⟨_, rfl⟩
  have BB : Hid (Below w.heap.size w wB) := by show Below _ _ _; rw [← hwB]; exact B3.out.alloc z3 _
  have R2 : Hid (Bk wB w.heap.size 62 #[.int .i64 0, .int .i64 0]) := by show Bk _ _ _ _; rw [← hwB]; exact R3.out.alloc _
  have R4 : Hid (Bk wB r4 62 #[.int .i64 x1, .int .i64 x2]) := by show Bk _ _ _ _; rw [← hwB, ← hr4]; exact Bk.new _ _ _
  have Hb : Hid (HP tb wB hb (.slice (some ⟨g, 0, none⟩) (n + 1) c) l) := HH.out.step (Step.of BB.out (fun _ => False)) (fun _ h => h.elim)
  have r4lt : w.heap.size < r4 := by omega
  have c1 := Hb.out.blk.cell 1
  obtain ⟨e0, e1, g0, g1⟩ := pair_at Hb.out HN.out HX.out
  obtain ⟨e2, e3, g2, g3⟩ := pair_at Hb.out HN.out HY.out
  rw [Nat.zero_mul] at e0 e1 g0 g1
  rw [Nat.zero_add] at e1 g1
  dsimp only at e0 e1 e2 e3
  have f1 := Hb.out.blk.free 1
  have hgb : ¬ g = hb := by omega
  have hgb' : ¬ hb = g := by omega
  go_wp2_with fail
  clear hwB hr4
  go_region
  obtain ⟨wa, hwa⟩ : ∃ wa, ((wB.setCell ⟨g, 0, none⟩ (.int .i64 y)).setCell ⟨g, 1, none⟩ (.int .i64 y')).drew = wa := ⟨_, rfl⟩
  have HA : Hid (HP tb wa hb (.slice (some ⟨g, 0, none⟩) (n + 1) c) (l.set 0 (y, y')) ∧ Step (InH hb (.slice (some ⟨g, 0, none⟩) (n + 1) c)) wB wa) := by
    show _ ∧ _
    rw [← hwa]
    obtain ⟨h1, h2⟩ := pair_set (i := 0) (x := (y, y')) Hb.out HN.out
    rw [Nat.zero_mul, Nat.zero_add] at h1 h2
    exact ⟨h1.drewN 1, h2.drewN 1⟩
  rw [hwa]
  clear hwa e0 e1 e2 e3 g0 g1 g2 g3 c1 f1
  have c1 := HA.out.1.blk.cell 1
  have f1 := HA.out.1.blk.free 1
  have n1 : (n : Int) ≤ c := by omega
  go_wp2_with fail
  obtain ⟨W1, hW1⟩ : ∃ W1, wa.setCell ⟨hb, 1, none⟩ (.slice (some ⟨g, 0, none⟩) n c) = W1 := ⟨_, rfl⟩
  have H1 : Hid (HP tb W1 hb (.slice (some ⟨g, 0, none⟩) n c) ((l.set 0 (y, y')).take n) ∧ Step (InH hb (.slice (some ⟨g, 0, none⟩) n c)) wa W1) := by
    show _ ∧ _
    rw [← hW1]
    exact pair_shrink HA.out.1 (by rw [List.length_set]; exact HN.out)
  rw [hW1]
  clear hW1 c1 f1
  have S1 : Hid (Step (InH hb (.slice (some ⟨g, 0, none⟩) (n + 1) c)) w W1) := (Step.of BB.out _).trans (HA.out.2.trans H1.out.2)
  have GG : Hid (Grew w (.slice (some ⟨g, 0, none⟩) (n + 1) c) (.slice (some ⟨g, 0, none⟩) n c)) := .inl rfl
  have NH : Hid (∀ k, w.heap.size ≤ k → ¬ InH hb (.slice (some ⟨g, 0, none⟩) n c) k) := fun k hk hi => by
    rcases hi with hi | hi
    · omega
    · simp [Value.ownBlock] at hi; omega
  have NH2 : Hid (∀ k, w.heap.size ≤ k → ¬ InH hb (.slice (some ⟨g, 0, none⟩) (n + 1) c) k) := fun k hk hi => by
    rcases hi with hi | hi
    · omega
    · simp [Value.ownBlock] at hi; omega
  have Q2 : Hid (Bk W1 w.heap.size 62 #[.int .i64 0, .int .i64 0]) := (R2.out.step HA.out.2 (NH2.out _ (Nat.le_refl _))).step H1.out.2 (NH.out _ (Nat.le_refl _))
  have Q4 : Hid (Bk W1 r4 62 #[.int .i64 x1, .int .i64 x2]) := (R4.out.step HA.out.2 (NH2.out _ (by omega))).step H1.out.2 (NH.out _ (by omega))
  have QT : Hid (Bk W1 tb 4 #[.bool b]) := HTC.out.step S1.out (fun h => by have := (HH.out.lt h).2; omega)
  clear R2 R4 R3
  go_loopw [7] (fun v7 wr => ∃ (i : Nat) (lk : List Pair), (i < n ∨ i = 0) ∧ v7 = .int .i64 i ∧ Hid (lk.length = n) ∧ Hid (HP tb wr hb (.slice (some ⟨g, 0, none⟩) n c) lk) ∧ Hid (DownAt (keyP b) lk i) ∧ Hid (l.Perm ((x1, x2) :: lk)) ∧ Hid (Step (InH hb (.slice (some ⟨g, 0, none⟩) n c)) W1 wr)) (fun v7 _ => n - (intOf v7).toNat)
  case atStart =>
    refine ⟨0, (l.set 0 (y, y')).take n, .inr rfl, rfl, ?_, H1.out.1, HD.out, HPm.out, Step.refl _ _⟩
    show _ = _
    rw [List.length_take, List.length_set, HN.out]
    omega
  case round =>
    obtain ⟨i, lk, hi0, rfl, hlen, hH, hU, hP, hS⟩ := hrel
    have hlb := hH.out.blk.lt
    have FK : Hid (∀ r ∈ lk, Fits r.1) := fun r hr => HFL.out r (hP.out.mem_iff.2 (by simp [hr]))
    have E2 : Hid (∀ w8, Below wr.heap.size wr w8 → Bk w8 w.heap.size 62 #[.int .i64 0, .int .i64 0]) := fun w8 h8 => by
      have h1 := Q2.out.step hS.out (NH.out _ (Nat.le_refl _))
      exact h1.below h8 h1.lt
    have E4 : Hid (∀ w8, Below wr.heap.size wr w8 → Bk w8 r4 62 #[.int .i64 x1, .int .i64 x2]) := fun w8 h8 => by
      have h1 := Q4.out.step hS.out (NH.out _ (by omega))
      exact h1.below h8 h1.lt
    have ET : Hid (∀ w8, Below wr.heap.size wr w8 → Bk w8 tb 4 #[.bool b]) := fun w8 h8 => by
      have h1 := QT.out.step hS.out (fun h => by have := (H1.out.1.lt h).2; omega)
      exact h1.below h8 h1.lt
    have EH : Hid (∀ w8, Below wr.heap.size wr w8 → HP tb w8 hb (.slice (some ⟨g, 0, none⟩) n c) lk ∧ Step (InH hb (.slice (some ⟨g, 0, none⟩) n c)) W1 w8) := fun w8 h8 => ⟨hH.out.step (Step.of h8 (fun _ => False)) (fun _ h => h.elim), hS.out.trans (Step.of h8 _)⟩
    have done : ∀ w8, Below wr.heap.size wr w8 → IsHeap (keyP b) lk → ∀ u0 u1, GaveP tb b w hb (.slice (some ⟨g, 0, none⟩) (n + 1) c) l (x1, x2) ((w8.setCell ⟨w.heap.size, 0, none⟩ u0).setCell ⟨w.heap.size, 1, none⟩ u1) := fun w8 h8 hh u0 u1 =>
      gaveP_set (EH.out w8 h8).1 hh hP.out (S1.out.after GG.out (EH.out w8 h8).2) GG.out (Nat.le_refl _) (NH.out _ (Nat.le_refl _))
    have DN := Lib.hid done
    clear done
    by_cases hn : 2 * i + 1 < n
    · have hin : i < n := by omega
      obtain ⟨⟨xi, xi'⟩, hxi⟩ : ∃ y, lk[i]? = some y := ⟨_, List.getElem?_eq_getElem (by have := hlen.out; omega)⟩
      obtain ⟨⟨y1, y1'⟩, hy1⟩ : ∃ y, lk[2 * i + 1]? = some y := ⟨_, List.getElem?_eq_getElem (by have := hlen.out; omega)⟩
      have HXI := Lib.hid hxi
      have HY1 := Lib.hid hy1
      have FXI := Lib.hid (FK.out _ (List.mem_of_getElem? hxi))
      have FY1 := Lib.hid (FK.out _ (List.mem_of_getElem? hy1))
      obtain ⟨a, ha⟩ : ∃ a, 2 * i + 1 = a := ⟨_, rfl⟩
      have hac : 2 * (i : Int) + 1 = (a : Int) := by omega
      rw [ha] at HY1
      have AE := Lib.hid ha
      have an : a < n := by omega
      have ai : i < a := by omega
      have a1 : (a : Int) < n := by omega
      have a0 : (0 : Int) ≤ a := by omega
      have i0 : (0 : Int) ≤ i := by omega
      have i1 : (i : Int) < n := by omega
      clear hxi hy1 ha hn hi0
      have q0 : ∀ t : Later wr, t.w.cell? ⟨hb, 0, none⟩ = some (.func (.func 38) #[] #[.pointer (some ⟨tb, 0, none⟩)]) := fun t => Later.cell (hH.out.blk.cell 0) t
      have q1 : ∀ t : Later wr, t.w.cell? ⟨hb, 1, none⟩ = some (.slice (some ⟨g, 0, none⟩) n c) := fun t => Later.cell (hH.out.blk.cell 1) t
      have q2 : ∀ t : Later wr, t.w.cell? ⟨g, a * 2, none⟩ = some (.int .i64 y1) := fun t => Later.cell (pair_at hH.out hlen.out HY1.out).1 t
      have q3 : ∀ t : Later wr, t.w.cell? ⟨g, a * 2 + 1, none⟩ = some (.int .i64 y1') := fun t => Later.cell (pair_at hH.out hlen.out HY1.out).2.1 t
      have TL : Hid (∀ t : Later wr, t.w.cell? ⟨tb, 0, none⟩ = some (.bool b)) := fun t => (ET.out t.w t.below).cell 0
      by_cases hb2 : a + 1 < n
      · obtain ⟨⟨y2, y2'⟩, hy2⟩ : ∃ y, lk[a + 1]? = some y := ⟨_, List.getElem?_eq_getElem (by have := hlen.out; omega)⟩
        have HY2 := Lib.hid hy2
        have FY2 := Lib.hid (FK.out _ (List.mem_of_getElem? hy2))
        have b1 : (a : Int) + 1 < n := by omega
        have b0 : (0 : Int) ≤ (a : Int) + 1 := by omega
        have q4 : ∀ t : Later wr, t.w.cell? ⟨g, (a + 1) * 2, none⟩ = some (.int .i64 y2) := fun t => Later.cell (pair_at hH.out hlen.out HY2.out).1 t
        have q5 : ∀ t : Later wr, t.w.cell? ⟨g, (a + 1) * 2 + 1, none⟩ = some (.int .i64 y2') := fun t => Later.cell (pair_at hH.out hlen.out HY2.out).2.1 t
        clear hy2
        rcases hr : decide (keyP b (y2, y2') < keyP b (y1, y1')) with _ | _
        · have HR := Lib.hid hr
          have LE : Hid (keyP b (y1, y1') ≤ keyP b (y2, y2')) := by simp at hr; exact hr
          clear hr
          have LEAST : Hid (∀ z c, (c = 2 * i + 1 ∨ c = 2 * i + 2) → lk[c]? = some z → keyP b (y1, y1') ≤ keyP b z) := fun z c hc hz => by
            rcases hc with rfl | rfl
            · rw [AE.out, HY1.out] at hz; injection hz with hz; rw [hz]; exact Int.le_refl _
            · rw [show 2 * i + 2 = a + 1 by have := AE.out; omega, HY2.out] at hz; injection hz with hz; rw [← hz]; exact LE.out
          go_wp2_with fail
          refine wp_region_later (by kernel_rfl) (by kernel_rfl) ?_
          repeat (go_big_quiet_step ((exact calls_later (goFirst HR.out FY2.out FY1.out _ (TL.out _)))))
          refine wpQuiet_nil ?_
          rintro w8 ⟨t, rfl⟩
          have hb8 := Lib.hid t.below
          generalize t.w = w8 at hb8 ⊢
          clear q0 q1 q2 q3 q4 q5 TL t
          have H8 := Lib.hid (EH.out w8 hb8.out).1
          have T8 := Lib.hid (ET.out w8 hb8.out)
          have q0 : ∀ t : Later w8, t.w.cell? ⟨hb, 0, none⟩ = some (.func (.func 38) #[] #[.pointer (some ⟨tb, 0, none⟩)]) := fun t => Later.cell (H8.out.blk.cell 0) t
          have q1 : ∀ t : Later w8, t.w.cell? ⟨hb, 1, none⟩ = some (.slice (some ⟨g, 0, none⟩) n c) := fun t => Later.cell (H8.out.blk.cell 1) t
          have q2 : ∀ t : Later w8, t.w.cell? ⟨g, (a) * 2, none⟩ = some (.int .i64 y1) := fun t => Later.cell (pair_at H8.out hlen.out HY1.out).1 t
          have q3 : ∀ t : Later w8, t.w.cell? ⟨g, (a) * 2 + 1, none⟩ = some (.int .i64 y1') := fun t => Later.cell (pair_at H8.out hlen.out HY1.out).2.1 t
          have q4 : ∀ t : Later w8, t.w.cell? ⟨g, i * 2, none⟩ = some (.int .i64 xi) := fun t => Later.cell (pair_at H8.out hlen.out HXI.out).1 t
          have q5 : ∀ t : Later w8, t.w.cell? ⟨g, i * 2 + 1, none⟩ = some (.int .i64 xi') := fun t => Later.cell (pair_at H8.out hlen.out HXI.out).2.1 t
          have TL : Hid (∀ t : Later w8, t.w.cell? ⟨tb, 0, none⟩ = some (.bool b)) := fun t => Later.cell (T8.out.cell 0) t
          rcases hq : decide (keyP b (y1, y1') < keyP b (xi, xi')) with _ | _
          · have HQ := Lib.hid hq
            have DH : Hid (IsHeap (keyP b) lk) := down_end hU.out (fun u v hu hv => by
              rw [HXI.out] at hu
              injection hu with hu
              have h1 := LEAST.out v _ (.inl rfl) hv
              rw [← hu]
              simp at hq
              omega) (fun u v hu hv => by
              rw [HXI.out] at hu
              injection hu with hu
              have h1 := LEAST.out v _ (.inr rfl) hv
              rw [← hu]
              simp at hq
              omega)
            clear hq
            go_wp2_with fail
            refine wp_region_later (by kernel_rfl) (by kernel_rfl) ?_
            repeat (go_big_quiet_step ((exact calls_later (goFirst HQ.out FY1.out FXI.out _ (TL.out _)))))
            refine wpQuiet_nil ?_
            rintro w9 ⟨t, rfl⟩
            have hb9 := Lib.hid (hb8.out.trans (t.below.mono hb8.out.size))
            generalize t.w = w9 at hb9 ⊢
            clear q0 q1 q2 q3 q4 q5 TL t
            have B2 := Lib.hid (E2.out w9 hb9.out)
            have B4 := Lib.hid (E4.out w9 hb9.out)
            have s0 := B2.out.cell 0
            have s1 := B2.out.cell 1
            have s2 := B2.out.free 0
            have s3 := B2.out.free 1
            have s4 := B4.out.cell 0
            have s5 := B4.out.cell 1
            go_wp2_with fail
            have BF := (B2.out.put 0 (.int .i64 x1)).put 1 (.int .i64 x2)
            have k0 := BF.cell 0
            have k1 := BF.cell 1
            refine bodyPost_ret (v := .tuple #[.agg #[.int .i64 x1, .int .i64 x2], .bool true]) ?_ rfl ⟨rfl, DN.out w9 hb9.out DH.out _ _⟩
            simp [results, Try.f35, go_sem, k0, k1]
          · have HQ := Lib.hid hq
            have LT : Hid (keyP b (y1, y1') < keyP b (xi, xi')) := by simp at hq; exact hq
            clear hq
            have DS : Hid (DownAt (keyP b) (swap lk i (a)) (a)) := down_step hU.out (by have := AE.out; omega) HXI.out HY1.out LT.out LEAST.out
            have PS : Hid (l.Perm ((x1, x2) :: swap lk i (a))) := hP.out.trans ((perm_swap HXI.out HY1.out).symm.cons (x1, x2))
            have LS : Hid ((swap lk i (a)).length = n) := (swap_len _ _ _).trans hlen.out
            go_wp2_with fail
            refine wp_region_later (by kernel_rfl) (by kernel_rfl) ?_
            repeat (go_big_quiet_step ((exact calls_later (goFirst HQ.out FY1.out FXI.out _ (TL.out _)))))
            refine wpQuiet_nil ?_
            rintro w9 ⟨t, rfl⟩
            have hb9 := Lib.hid (hb8.out.trans (t.below.mono hb8.out.size))
            generalize t.w = w9 at hb9 ⊢
            clear q0 q1 q2 q3 q4 q5 TL t
            have Hq := Lib.hid (EH.out w9 hb9.out).1
            have Sq := Lib.hid (EH.out w9 hb9.out).2
            obtain ⟨e0, e1, g0, g1⟩ := pair_at Hq.out hlen.out HXI.out
            obtain ⟨e2, e3, g2, g3⟩ := pair_at Hq.out hlen.out HY1.out
            have c1 := Hq.out.blk.cell 1
            dsimp only at e0 e1 e2 e3
            have SW : Hid (HP tb ((((w9.setCell ⟨g, i * 2, none⟩ (.int .i64 y1)).setCell ⟨g, i * 2 + 1, none⟩ (.int .i64 y1')).setCell ⟨g, (a) * 2, none⟩ (.int .i64 xi)).setCell ⟨g, (a) * 2 + 1, none⟩ (.int .i64 xi')).drew hb (.slice (some ⟨g, 0, none⟩) n c) (swap lk i (a)) ∧ Step (InH hb (.slice (some ⟨g, 0, none⟩) n c)) w9 ((((w9.setCell ⟨g, i * 2, none⟩ (.int .i64 y1)).setCell ⟨g, i * 2 + 1, none⟩ (.int .i64 y1')).setCell ⟨g, (a) * 2, none⟩ (.int .i64 xi)).setCell ⟨g, (a) * 2 + 1, none⟩ (.int .i64 xi')).drew) := by
              obtain ⟨h1, h2⟩ := pair_swap Hq.out hlen.out HXI.out HY1.out
              exact ⟨h1.drewN 1, h2.drewN 1⟩
            go_wp2_with fail
            go_region
            go_wp2_with fail
            go_roundw
            case rel => exact ⟨a, swap lk i (a), .inl (by omega), by go_num, LS.out, SW.out.1, DS.out, PS.out, Sq.out.trans SW.out.2⟩
            case measure => simp [intOf]; omega
        · have HR := Lib.hid hr
          have LE : Hid (keyP b (y2, y2') ≤ keyP b (y1, y1')) := by simp at hr; show _ ≤ _; omega
          clear hr
          have LEAST : Hid (∀ z c, (c = 2 * i + 1 ∨ c = 2 * i + 2) → lk[c]? = some z → keyP b (y2, y2') ≤ keyP b z) := fun z c hc hz => by
            rcases hc with rfl | rfl
            · rw [AE.out, HY1.out] at hz; injection hz with hz; rw [← hz]; exact LE.out
            · rw [show 2 * i + 2 = a + 1 by have := AE.out; omega, HY2.out] at hz; injection hz with hz; rw [hz]; exact Int.le_refl _
          go_wp2_with fail
          refine wp_region_later (by kernel_rfl) (by kernel_rfl) ?_
          repeat (go_big_quiet_step ((exact calls_later (goFirst HR.out FY2.out FY1.out _ (TL.out _)))))
          refine wpQuiet_nil ?_
          rintro w8 ⟨t, rfl⟩
          have hb8 := Lib.hid t.below
          generalize t.w = w8 at hb8 ⊢
          clear q0 q1 q2 q3 q4 q5 TL t
          have H8 := Lib.hid (EH.out w8 hb8.out).1
          have T8 := Lib.hid (ET.out w8 hb8.out)
          have q0 : ∀ t : Later w8, t.w.cell? ⟨hb, 0, none⟩ = some (.func (.func 38) #[] #[.pointer (some ⟨tb, 0, none⟩)]) := fun t => Later.cell (H8.out.blk.cell 0) t
          have q1 : ∀ t : Later w8, t.w.cell? ⟨hb, 1, none⟩ = some (.slice (some ⟨g, 0, none⟩) n c) := fun t => Later.cell (H8.out.blk.cell 1) t
          have q2 : ∀ t : Later w8, t.w.cell? ⟨g, (a + 1) * 2, none⟩ = some (.int .i64 y2) := fun t => Later.cell (pair_at H8.out hlen.out HY2.out).1 t
          have q3 : ∀ t : Later w8, t.w.cell? ⟨g, (a + 1) * 2 + 1, none⟩ = some (.int .i64 y2') := fun t => Later.cell (pair_at H8.out hlen.out HY2.out).2.1 t
          have q4 : ∀ t : Later w8, t.w.cell? ⟨g, i * 2, none⟩ = some (.int .i64 xi) := fun t => Later.cell (pair_at H8.out hlen.out HXI.out).1 t
          have q5 : ∀ t : Later w8, t.w.cell? ⟨g, i * 2 + 1, none⟩ = some (.int .i64 xi') := fun t => Later.cell (pair_at H8.out hlen.out HXI.out).2.1 t
          have TL : Hid (∀ t : Later w8, t.w.cell? ⟨tb, 0, none⟩ = some (.bool b)) := fun t => Later.cell (T8.out.cell 0) t
          rcases hq : decide (keyP b (y2, y2') < keyP b (xi, xi')) with _ | _
          · have HQ := Lib.hid hq
            have DH : Hid (IsHeap (keyP b) lk) := down_end hU.out (fun u v hu hv => by
              rw [HXI.out] at hu
              injection hu with hu
              have h1 := LEAST.out v _ (.inl rfl) hv
              rw [← hu]
              simp at hq
              omega) (fun u v hu hv => by
              rw [HXI.out] at hu
              injection hu with hu
              have h1 := LEAST.out v _ (.inr rfl) hv
              rw [← hu]
              simp at hq
              omega)
            clear hq
            go_wp2_with fail
            refine wp_region_later (by kernel_rfl) (by kernel_rfl) ?_
            repeat (go_big_quiet_step ((exact calls_later (goFirst HQ.out FY2.out FXI.out _ (TL.out _)))))
            refine wpQuiet_nil ?_
            rintro w9 ⟨t, rfl⟩
            have hb9 := Lib.hid (hb8.out.trans (t.below.mono hb8.out.size))
            generalize t.w = w9 at hb9 ⊢
            clear q0 q1 q2 q3 q4 q5 TL t
            have B2 := Lib.hid (E2.out w9 hb9.out)
            have B4 := Lib.hid (E4.out w9 hb9.out)
            have s0 := B2.out.cell 0
            have s1 := B2.out.cell 1
            have s2 := B2.out.free 0
            have s3 := B2.out.free 1
            have s4 := B4.out.cell 0
            have s5 := B4.out.cell 1
            go_wp2_with fail
            have BF := (B2.out.put 0 (.int .i64 x1)).put 1 (.int .i64 x2)
            have k0 := BF.cell 0
            have k1 := BF.cell 1
            refine bodyPost_ret (v := .tuple #[.agg #[.int .i64 x1, .int .i64 x2], .bool true]) ?_ rfl ⟨rfl, DN.out w9 hb9.out DH.out _ _⟩
            simp [results, Try.f35, go_sem, k0, k1]
          · have HQ := Lib.hid hq
            have LT : Hid (keyP b (y2, y2') < keyP b (xi, xi')) := by simp at hq; exact hq
            clear hq
            have DS : Hid (DownAt (keyP b) (swap lk i (a + 1)) (a + 1)) := down_step hU.out (by have := AE.out; omega) HXI.out HY2.out LT.out LEAST.out
            have PS : Hid (l.Perm ((x1, x2) :: swap lk i (a + 1))) := hP.out.trans ((perm_swap HXI.out HY2.out).symm.cons (x1, x2))
            have LS : Hid ((swap lk i (a + 1)).length = n) := (swap_len _ _ _).trans hlen.out
            go_wp2_with fail
            refine wp_region_later (by kernel_rfl) (by kernel_rfl) ?_
            repeat (go_big_quiet_step ((exact calls_later (goFirst HQ.out FY2.out FXI.out _ (TL.out _)))))
            refine wpQuiet_nil ?_
            rintro w9 ⟨t, rfl⟩
            have hb9 := Lib.hid (hb8.out.trans (t.below.mono hb8.out.size))
            generalize t.w = w9 at hb9 ⊢
            clear q0 q1 q2 q3 q4 q5 TL t
            have Hq := Lib.hid (EH.out w9 hb9.out).1
            have Sq := Lib.hid (EH.out w9 hb9.out).2
            obtain ⟨e0, e1, g0, g1⟩ := pair_at Hq.out hlen.out HXI.out
            obtain ⟨e2, e3, g2, g3⟩ := pair_at Hq.out hlen.out HY2.out
            have c1 := Hq.out.blk.cell 1
            dsimp only at e0 e1 e2 e3
            have SW : Hid (HP tb ((((w9.setCell ⟨g, i * 2, none⟩ (.int .i64 y2)).setCell ⟨g, i * 2 + 1, none⟩ (.int .i64 y2')).setCell ⟨g, (a + 1) * 2, none⟩ (.int .i64 xi)).setCell ⟨g, (a + 1) * 2 + 1, none⟩ (.int .i64 xi')).drew hb (.slice (some ⟨g, 0, none⟩) n c) (swap lk i (a + 1)) ∧ Step (InH hb (.slice (some ⟨g, 0, none⟩) n c)) w9 ((((w9.setCell ⟨g, i * 2, none⟩ (.int .i64 y2)).setCell ⟨g, i * 2 + 1, none⟩ (.int .i64 y2')).setCell ⟨g, (a + 1) * 2, none⟩ (.int .i64 xi)).setCell ⟨g, (a + 1) * 2 + 1, none⟩ (.int .i64 xi')).drew) := by
              obtain ⟨h1, h2⟩ := pair_swap Hq.out hlen.out HXI.out HY2.out
              exact ⟨h1.drewN 1, h2.drewN 1⟩
            go_wp2_with fail
            go_region
            go_wp2_with fail
            go_roundw
            case rel => exact ⟨a + 1, swap lk i (a + 1), .inl (by omega), by go_num, LS.out, SW.out.1, DS.out, PS.out, Sq.out.trans SW.out.2⟩
            case measure => simp [intOf]; omega
      · have bf : decide ((a : Int) + 1 < (n : Int)) = false := decide_eq_false (by omega)
        have LEAST : Hid (∀ z c, (c = 2 * i + 1 ∨ c = 2 * i + 2) → lk[c]? = some z → keyP b (y1, y1') ≤ keyP b z) := fun z c hc hz => by
          rcases hc with rfl | rfl
          · rw [AE.out, HY1.out] at hz; injection hz with hz; rw [hz]; exact Int.le_refl _
          · have := (List.getElem?_eq_some_iff.1 hz).1
            have := hlen.out
            have := AE.out
            omega
        clear hb2
        go_wp2_with fail
        refine wp_region_later (by kernel_rfl) (by kernel_rfl) ?_
        repeat (go_big_quiet_step (fail))
        refine wpQuiet_nil ?_
        rintro w8 ⟨t, rfl⟩
        have hb8 := Lib.hid t.below
        generalize t.w = w8 at hb8 ⊢
        clear q0 q1 q2 q3  TL t
        have H8 := Lib.hid (EH.out w8 hb8.out).1
        have T8 := Lib.hid (ET.out w8 hb8.out)
        have q0 : ∀ t : Later w8, t.w.cell? ⟨hb, 0, none⟩ = some (.func (.func 38) #[] #[.pointer (some ⟨tb, 0, none⟩)]) := fun t => Later.cell (H8.out.blk.cell 0) t
        have q1 : ∀ t : Later w8, t.w.cell? ⟨hb, 1, none⟩ = some (.slice (some ⟨g, 0, none⟩) n c) := fun t => Later.cell (H8.out.blk.cell 1) t
        have q2 : ∀ t : Later w8, t.w.cell? ⟨g, (a) * 2, none⟩ = some (.int .i64 y1) := fun t => Later.cell (pair_at H8.out hlen.out HY1.out).1 t
        have q3 : ∀ t : Later w8, t.w.cell? ⟨g, (a) * 2 + 1, none⟩ = some (.int .i64 y1') := fun t => Later.cell (pair_at H8.out hlen.out HY1.out).2.1 t
        have q4 : ∀ t : Later w8, t.w.cell? ⟨g, i * 2, none⟩ = some (.int .i64 xi) := fun t => Later.cell (pair_at H8.out hlen.out HXI.out).1 t
        have q5 : ∀ t : Later w8, t.w.cell? ⟨g, i * 2 + 1, none⟩ = some (.int .i64 xi') := fun t => Later.cell (pair_at H8.out hlen.out HXI.out).2.1 t
        have TL : Hid (∀ t : Later w8, t.w.cell? ⟨tb, 0, none⟩ = some (.bool b)) := fun t => Later.cell (T8.out.cell 0) t
        rcases hq : decide (keyP b (y1, y1') < keyP b (xi, xi')) with _ | _
        · have HQ := Lib.hid hq
          have DH : Hid (IsHeap (keyP b) lk) := down_end hU.out (fun u v hu hv => by
            rw [HXI.out] at hu
            injection hu with hu
            have h1 := LEAST.out v _ (.inl rfl) hv
            rw [← hu]
            simp at hq
            omega) (fun u v hu hv => by
            rw [HXI.out] at hu
            injection hu with hu
            have h1 := LEAST.out v _ (.inr rfl) hv
            rw [← hu]
            simp at hq
            omega)
          clear hq
          go_wp2_with fail
          refine wp_region_later (by kernel_rfl) (by kernel_rfl) ?_
          repeat (go_big_quiet_step ((exact calls_later (goFirst HQ.out FY1.out FXI.out _ (TL.out _)))))
          refine wpQuiet_nil ?_
          rintro w9 ⟨t, rfl⟩
          have hb9 := Lib.hid (hb8.out.trans (t.below.mono hb8.out.size))
          generalize t.w = w9 at hb9 ⊢
          clear q0 q1 q2 q3 q4 q5 TL t
          have B2 := Lib.hid (E2.out w9 hb9.out)
          have B4 := Lib.hid (E4.out w9 hb9.out)
          have s0 := B2.out.cell 0
          have s1 := B2.out.cell 1
          have s2 := B2.out.free 0
          have s3 := B2.out.free 1
          have s4 := B4.out.cell 0
          have s5 := B4.out.cell 1
          go_wp2_with fail
          have BF := (B2.out.put 0 (.int .i64 x1)).put 1 (.int .i64 x2)
          have k0 := BF.cell 0
          have k1 := BF.cell 1
          refine bodyPost_ret (v := .tuple #[.agg #[.int .i64 x1, .int .i64 x2], .bool true]) ?_ rfl ⟨rfl, DN.out w9 hb9.out DH.out _ _⟩
          simp [results, Try.f35, go_sem, k0, k1]
        · have HQ := Lib.hid hq
          have LT : Hid (keyP b (y1, y1') < keyP b (xi, xi')) := by simp at hq; exact hq
          clear hq
          have DS : Hid (DownAt (keyP b) (swap lk i (a)) (a)) := down_step hU.out (by have := AE.out; omega) HXI.out HY1.out LT.out LEAST.out
          have PS : Hid (l.Perm ((x1, x2) :: swap lk i (a))) := hP.out.trans ((perm_swap HXI.out HY1.out).symm.cons (x1, x2))
          have LS : Hid ((swap lk i (a)).length = n) := (swap_len _ _ _).trans hlen.out
          go_wp2_with fail
          refine wp_region_later (by kernel_rfl) (by kernel_rfl) ?_
          repeat (go_big_quiet_step ((exact calls_later (goFirst HQ.out FY1.out FXI.out _ (TL.out _)))))
          refine wpQuiet_nil ?_
          rintro w9 ⟨t, rfl⟩
          have hb9 := Lib.hid (hb8.out.trans (t.below.mono hb8.out.size))
          generalize t.w = w9 at hb9 ⊢
          clear q0 q1 q2 q3 q4 q5 TL t
          have Hq := Lib.hid (EH.out w9 hb9.out).1
          have Sq := Lib.hid (EH.out w9 hb9.out).2
          obtain ⟨e0, e1, g0, g1⟩ := pair_at Hq.out hlen.out HXI.out
          obtain ⟨e2, e3, g2, g3⟩ := pair_at Hq.out hlen.out HY1.out
          have c1 := Hq.out.blk.cell 1
          dsimp only at e0 e1 e2 e3
          have SW : Hid (HP tb ((((w9.setCell ⟨g, i * 2, none⟩ (.int .i64 y1)).setCell ⟨g, i * 2 + 1, none⟩ (.int .i64 y1')).setCell ⟨g, (a) * 2, none⟩ (.int .i64 xi)).setCell ⟨g, (a) * 2 + 1, none⟩ (.int .i64 xi')).drew hb (.slice (some ⟨g, 0, none⟩) n c) (swap lk i (a)) ∧ Step (InH hb (.slice (some ⟨g, 0, none⟩) n c)) w9 ((((w9.setCell ⟨g, i * 2, none⟩ (.int .i64 y1)).setCell ⟨g, i * 2 + 1, none⟩ (.int .i64 y1')).setCell ⟨g, (a) * 2, none⟩ (.int .i64 xi)).setCell ⟨g, (a) * 2 + 1, none⟩ (.int .i64 xi')).drew) := by
            obtain ⟨h1, h2⟩ := pair_swap Hq.out hlen.out HXI.out HY1.out
            exact ⟨h1.drewN 1, h2.drewN 1⟩
          go_wp2_with fail
          go_region
          go_wp2_with fail
          go_roundw
          case rel => exact ⟨a, swap lk i (a), .inl (by omega), by go_num, LS.out, SW.out.1, DS.out, PS.out, Sq.out.trans SW.out.2⟩
          case measure => simp [intOf]; omega
    · have DH : Hid (IsHeap (keyP b) lk) := down_end hU.out (fun u v hu hv => by have := (List.getElem?_eq_some_iff.1 hv).1; have := hlen.out; omega) (fun u v hu hv => by have := (List.getElem?_eq_some_iff.1 hv).1; have := hlen.out; omega)
      have hn' : (n : Int) ≤ 2 * (i : Int) + 1 := by omega
      clear hn
      have hb9 := Lib.hid (Below.refl wr.heap.size wr)
      have B2 := Lib.hid (E2.out wr hb9.out)
      have B4 := Lib.hid (E4.out wr hb9.out)
      have s0 := B2.out.cell 0
      have s1 := B2.out.cell 1
      have s2 := B2.out.free 0
      have s3 := B2.out.free 1
      have s4 := B4.out.cell 0
      have s5 := B4.out.cell 1
      go_wp2_with fail
      have BF := (B2.out.put 0 (.int .i64 x1)).put 1 (.int .i64 x2)
      have k0 := BF.cell 0
      have k1 := BF.cell 1
      refine bodyPost_ret (v := .tuple #[.agg #[.int .i64 x1, .int .i64 x2], .bool true]) ?_ rfl ⟨rfl, DN.out wr hb9.out DH.out _ _⟩
      simp [results, Try.f35, go_sem, k0, k1]
end Go.Proofs.Ytgaonfeljijebaa
