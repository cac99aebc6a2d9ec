/-
  segment.legs: the value that it hands back gives each leg of runs, one after the other. Conditions: the runs' reading, and that they are right.
-/
import Derived.Test.YtceohmbjajhlcaaSegP
import Derived.Test.YtceohmbjajhlcaaRange2
import Derived.TacticsInMore
import Derived.LoopIn
import Derived.LoopNIn
import Derived.OwnWalkIn
import Derived.BigFrameIn
import Derived.BigRegion
namespace Go.Proofs.Ytceohmbjajhlcaa
open Go.ChangeShapes Go.WideShapes Go.ChangeAt Go.RowKit Go.Shelf
set_option linter.unusedVariables false

theorem Keeps.below {O : Nat → Prop} {m n : Nat} {w a b : World} (h : Keeps O m a b) (hb : Below n w a) (hn : n ≤ a.heap.size) (ho : ∀ k, k < n → O k) : Below n w b :=
  hb.trans ⟨h.os, h.tape, h.output, h.size, fun k hk => h.block k (Nat.lt_of_lt_of_le hk hn) (.inr (ho k hk))⟩
theorem Bk.keeps {O : Nat → Prop} {m g : Nat} {t : TypeId} {cs : Array Value} {a b : World} (h : Bk a g t cs) (hk : Keeps O m a b) (hg : m ≤ g ∨ O g) : Bk b g t cs := (hk.block g h.lt hg).trans h
theorem Bk.step {O : Nat → Prop} {g : Nat} {t : TypeId} {cs : Array Value} {a b : World} (h : Bk a g t cs) (hs : Step O a b) (hg : ¬ O g) : Bk b g t cs := (hs.block g h.lt hg).trans h
theorem Rd.drop {α : Type} {enc : α → List Int} {F : Nat} {w : World} {b off n : Nat} {l : List α} (h : Rd enc F w (some ⟨b, off, none⟩) n l) {m : Nat} (hm : m ≤ n) : Rd enc F w (some ⟨b, off + m * F, none⟩) (n - m) (l.drop m) :=
  ⟨by rw [List.length_drop, ← h.1], fun i r hr => by
    rw [List.getElem?_drop] at hr
    obtain ⟨b', off', hA, hlt, hc⟩ := h.2 _ r hr
    cases hA
    refine ⟨b, off + m * F, rfl, hlt, fun j v hv => ?_⟩
    rw [← hc j v hv]
    congr 2
    rw [Nat.add_mul]
    omega⟩
def encL (x : Leg) : Array Value := #[.agg #[.int .i64 x.1, .int .i64 x.2.1, .int .i64 x.2.2.1, .int .i64 x.2.2.2]]
theorem Timed.drop {l : List Run} (h : Timed l) (m : Nat) : Timed (l.drop m) := fun r hr => h r (List.mem_of_mem_drop hr)
/-- How long the slice in a box is. -/
def boxLen (lb : Nat) (w : World) : Nat := match w.cell? ⟨lb, 0, none⟩ with
  | some (.slice _ k _) => k
  | _ => 0
theorem boxLen_is {lb : Nat} {w : World} {A : Option Addr} {q c : Nat} (h : Bk w lb 25 #[.slice A q c]) : boxLen lb w = q := by
  unfold boxLen
  rw [h.cell 0]
  rfl

set_option maxRecDepth 100000 in
set_option maxHeartbeats 4000000 in
theorem legs_cells (A : Option Addr) (n c : Nat) (l : List Run) (least : Int) (w w0 : World) (lb lq : Nat) (hl : Rd three 3 w A n l) (ht : Timed l) (hn : n ≤ 100) (hnc : n ≤ c) (hcm : c ≤ maxLen) (hf : Fits least) (hb : Below w.heap.size w w0) (hlb : Bk w0 lb 25 #[.slice A n c]) (hlq : Bk w0 lq 3 #[.int .i64 least]) (hle : w.heap.size ≤ lb) (hle2 : w.heap.size ≤ lq) (hne : lb ≠ lq) :
    SeqCells Try.prog 47 #[.pointer (some ⟨lb, 0, none⟩), .pointer (some ⟨lq, 0, none⟩)] encL (fun pre x => ∃ m p, st l least m = (p, pre) ∧ m ≤ p ∧ p + 1 < l.length ∧ ∃ k, IsChk (l.drop p) least k ∧ x = legAt l p k) (fun xs => xs = legsOf l least) (fun _ => True) (fun _ k => k = lb) (fun k => k < w.heap.size ∨ k = lq) w0 := by
  intro m0 y J Jx W hb0 hsz hJ hJx hY h0
  unfold maxLen at hcm
  have HY := Lib.hid hY
  have HJ := Lib.hid hJ
  have HJx := Lib.hid hJx
  have H0 := Lib.hid h0
  have HT := Lib.hid ht
  have lbl := hlb.lt
  have lql := hlq.lt
  have BL : Hid (Bk W lb 25 #[.slice A n c]) := hlb.below hb0 lbl
  have BQ : Hid (Bk W lq 3 #[.int .i64 least]) := hlq.below hb0 lql
  have HB : Hid (Below w.heap.size w W) := hb.trans (hb0.mono hb.size)
  have RW := Lib.hid hl
  have HN := Lib.hid hl.1
  have z1 := HB.out.size
  have lbW := BL.out.lt
  have lqW := BQ.out.lt
  clear hY hJ hJx h0 hb hb0 hlb hlq hl ht lbl lql
  refine callsIn_of_wp Try.func47 rfl trivial ?_ rfl
  simp only [Try.ntmps47, List.size_toArray, List.length_cons, List.length_nil, Nat.reduceAdd, Nat.reduceSub, Array.replicate_succ, Array.replicate_zero, List.push_toArray, List.append_toArray, List.nil_append, List.cons_append]
  gi_wp2_with fail
  gi_loopw [4] (fun _ wr => ∃ (m p q : Nat) (o : List Leg) (A' : Option Addr) (c' : Nat), m ≤ p ∧ p + q = n ∧ (q = 0 → n = 0) ∧ q ≤ c' ∧ c' ≤ c ∧ Hid (st l least m = (p, o)) ∧ Hid (J o wr) ∧ Hid (Bk wr lb 25 #[.slice A' q c']) ∧ Hid (Bk wr lq 3 #[.int .i64 least]) ∧ Hid (Rd three 3 w A' q (l.drop p)) ∧ Hid (Below w.heap.size w wr) ∧ Hid (W.heap.size ≤ wr.heap.size)) (fun _ wr => boxLen lb wr)
  case atStart => exact ⟨0, 0, n, [], A, c, Nat.le_refl _, by omega, fun h => h, hnc, Nat.le_refl _, rfl, H0.out, BL.out, BQ.out, RW.out, HB.out, Nat.le_refl _⟩
  case round =>
    clear BL BQ RW
    obtain ⟨m, p, q, o, A', c', hmp, hpq, hq0, hqc, hcc, hst, hj, hbl, hbq, HRw, hB, hz⟩ := hrel
    have hR := Lib.hid (HRw.out.below hB.out (Nat.le_refl _))
    have z2 := hB.out.size
    have z3 := hbl.out.lt
    have z4 := hbq.out.lt
    have c0 := hbl.out.cell 0
    have c1 := hbq.out.cell 0
    by_cases hq : 1 < q
    · obtain ⟨x0, y0, t0, b, off, hA, hx0, hc0, hc1, hc2⟩ := hR.out.hd3 (by omega)
      subst hA
      gi_wp2_with fail
      refine ⟨trivial, (callsIn_wide.2 (goChk _ _ _ _ _ _ hR.out (by omega) (HT.out.drop p) (by omega))).mono ?_⟩
      rintro e w1 ⟨k, hck, rfl, nq, hw1⟩
      gi_wp2_with fail
      have kq : k < q := by have := hck.1; rw [← hR.out.1] at this; exact this
      have k1 : 1 ≤ k := chk_pos hck (by rw [← hR.out.1]; omega)
      have HCK := Lib.hid hck
      obtain ⟨wo, hwo⟩ : ∃ wo, wr.drewN nq = wo := ⟨_, rfl⟩
      have Ro : Hid (Rd three 3 wo (some ⟨b, off, none⟩) q (l.drop p)) := by show Rd _ _ _ _ _ _; rw [← hwo]; exact hR.out.drewN nq
      have Lo : Hid (Bk wo lb 25 #[.slice (some ⟨b, off, none⟩) q c']) := by show Bk _ _ _ _; rw [← hwo]; exact hbl.out
      have Qo : Hid (Bk wo lq 3 #[.int .i64 least]) := by show Bk _ _ _ _; rw [← hwo]; exact hbq.out
      have Jo : Hid (J o wo) := HJ.out _ _ _ hj.out (by rw [← hwo]; exact ⟨rfl, rfl, rfl, Nat.le_refl _, fun _ _ _ => rfl⟩)
      have Bo : Hid (Below w.heap.size w wo) := by show Below _ _ _; rw [← hwo]; exact below_dN hB.out nq
      have zo : Hid (wo.heap.size = wr.heap.size) := by show _ = _; rw [← hwo]; rfl
      rw [hwo]
      clear hw1 hck hwo hc0 hc1 hc2 c0 c1 hj hB
      obtain ⟨x1, y1, t1, b', off', hA, hx1, e0, e1, e2⟩ := Ro.out.at3 kq
      simp only [Option.some.injEq, Addr.mk.injEq, and_true] at hA
      obtain ⟨rfl, rfl⟩ := hA
      obtain ⟨x0', y0', t0', b', off', hA, hx0', d0, d1, d2⟩ := Ro.out.hd3 (by omega)
      simp only [Option.some.injEq, Addr.mk.injEq, and_true] at hA
      obtain ⟨rfl, rfl⟩ := hA
      obtain ⟨rfl, rfl, rfl⟩ : x0' = x0 ∧ y0' = y0 ∧ t0' = t0 := by
        have h1 := hx0.out
        rw [hx0'.out] at h1
        simpa using h1
      have h0a := hx0'.out
      have h1a := hx1.out
      rw [List.getElem?_drop] at h0a h1a
      rw [Nat.add_zero] at h0a
      have LEG : Hid (legAt l p k = (x0', x1, t0', y1)) := by
        show _ = _
        unfold legAt
        rw [getD_of h0a, getD_of h1a]
      have NST : Hid (st l least (m + 1) = (p + k, o ++ [(x0', x1, t0', y1)])) := by
        show _ = _
        rw [st_more hst.out (by have := HN.out; omega) HCK.out, LEG.out]
      have EE : Hid (∃ m p, st l least m = (p, o) ∧ m ≤ p ∧ p + 1 < l.length ∧ ∃ k, IsChk (l.drop p) least k ∧ (x0', x1, t0', y1) = legAt l p k) := by
        refine ⟨m, p, hst.out, hmp, by have := HN.out; omega, k, HCK.out, ?_⟩
        exact LEG.out.symm
      have NRD : Hid (Rd three 3 w (some ⟨b, off + k * 3, none⟩) (q - k) (l.drop (p + k))) := by
        have h1 := Rd.drop HRw.out (m := k) (by omega)
        rw [List.drop_drop] at h1
        exact h1
      have ZO : Hid (W.heap.size ≤ wo.heap.size) := by show _ ≤ _; rw [zo.out]; exact hz.out
      clear h0a h1a
      have g0 := Lo.out.cell 0
      have kc : (k : Int) < q := by omega
      have zb : b < wo.heap.size := lt_of_cell e0
      have q0 : 0 < q := by omega
      have n0 := World.new_ne wo _ g0
      have n1 := World.new_ne wo _ e0
      have n2 := World.new_ne wo _ e1
      have n3 := World.new_ne wo _ e2
      have n4 : wo.heap.size + 1 ≠ b := by omega
      have n5 : wo.heap.size + 1 ≠ lb := by have := Lo.out.lt; omega
      have n6 := World.new_ne wo _ d0
      have n7 := World.new_ne wo _ d1
      have n8 := World.new_ne wo _ d2
      refine wpIn_wide.2 ?_
      go_region_held3 (fun w' => w'.cell? ⟨lb, 0, none⟩ = some (.slice (some ⟨b, off, none⟩) q c') ∧ (w'.cell? ⟨b, off, none⟩ = some (.int .i64 x0') ∧ w'.cell? ⟨b, off + 1, none⟩ = some (.int .i64 y0') ∧ w'.cell? ⟨b, off + 2, none⟩ = some (.int .i64 t0')) ∧ w'.cell? ⟨b, off + k * 3, none⟩ = some (.int .i64 x1) ∧ w'.cell? ⟨b, off + k * 3 + 1, none⟩ = some (.int .i64 y1) ∧ w'.cell? ⟨b, off + k * 3 + 2, none⟩ = some (.int .i64 t1)) (go_keep) (fail)
      · obtain ⟨W1, hW1⟩ : ∃ W1, ((wo.alloc (.cells #[.int .i64 x0', .int .i64 y0', .int .i64 t0'] 48)).alloc (.cells #[.int .i64 x1, .int .i64 y1, .int .i64 t1] 48)).drew = W1 := ⟨_, rfl⟩
        have S1 : Hid (Step (fun k => k = lb) wo W1) := by
          show Step _ _ _
          rw [← hW1]
          exact ((Step.refl _ _).alloc _).alloc _ |>.trans ⟨rfl, rfl, rfl, Nat.le_refl _, fun _ _ _ => rfl⟩
        have B6 : Hid (Bk W1 wo.heap.size 48 #[.int .i64 x0', .int .i64 y0', .int .i64 t0']) := by show Bk _ _ _ _; rw [← hW1]; exact (Bk.new _ _ _).alloc _
        have B7 : Hid (Bk W1 (wo.heap.size + 1) 48 #[.int .i64 x1, .int .i64 y1, .int .i64 t1]) := by
          show Bk _ _ _ _
          rw [← hW1]
          have h1 := Bk.new (wo.alloc (.cells #[.int .i64 x0', .int .i64 y0', .int .i64 t0'] 48)) 48 #[.int .i64 x1, .int .i64 y1, .int .i64 t1]
          rw [World.size_alloc] at h1
          exact h1
        have L1 : Hid (Bk W1 lb 25 #[.slice (some ⟨b, off, none⟩) q c']) := by show Bk _ _ _ _; rw [← hW1]; exact (Lo.out.alloc _).alloc _
        have Q1 : Hid (Bk W1 lq 3 #[.int .i64 least]) := by show Bk _ _ _ _; rw [← hW1]; exact (Qo.out.alloc _).alloc _
        have D1 : Hid (Below w.heap.size w W1) := by show Below _ _ _; rw [← hW1]; exact below_dN ((Bo.out.alloc Bo.out.size _).alloc (by have := Bo.out.size; simp; omega) _) 1
        have Z1 : Hid (wo.heap.size + 1 < W1.heap.size) := B7.out.lt
        rw [hW1]
        clear hW1
        obtain ⟨fn, tm, asg, bd, hy, hRd⟩ := HY.out o (x0', x1, t0', y1) wo W1 EE.out Jo.out ZO.out S1.out
        simp only [encL] at hy
        have a0 := B6.out.cell 0
        have a1 := B6.out.cell 1
        have a2 := B6.out.cell 2
        have a3 := B7.out.cell 0
        have a4 := B7.out.cell 1
        have a5 := B7.out.cell 2
        gi_wp2_with fail
        refine hRd.mono ?_
        clear hy hRd a0 a1 a2 a3 a4 a5
        rintro e w2 (⟨rfl, hj2, hk2⟩ | ⟨rfl, hjx2⟩)
        · have J2 := Lib.hid hj2
          have L2 := Lib.hid (L1.out.keeps hk2 (.inr (.inl rfl)))
          have Q2 := Lib.hid (Q1.out.keeps hk2 (.inr (.inr (.inr rfl))))
          have D2 : Hid (Below w.heap.size w w2) := hk2.below D1.out D1.out.size (fun k hk => .inr (.inl hk))
          have z5 := hk2.size
          have z6 := Z1.out
          have z7 := ZO.out
          have z8 := L2.out.lt
          have l0 := L2.out.cell 0
          have lf := L2.out.free 0
          have nk : ¬ c' = k := by omega
          have nk' : ¬ k = c' := by omega
          clear hk2 hj2
          gi_wp2_with fail
          go_roundw
          case rel =>
            exact ⟨m + 1, p + k, q - k, o ++ [(x0', x1, t0', y1)], some ⟨b, off + k * 3, none⟩, c' - k, by omega, by omega, by omega, by omega, by omega, NST.out, HJ.out _ _ _ J2.out ((Step.refl (fun k => k = lb) _).set (p := ⟨lb, 0, none⟩) rfl _), L2.out.put 0 _, Q2.out.far (p := ⟨lb, 0, none⟩) (fun e => hne e.symm) _, NRD.out, D2.out.setCell (p := ⟨lb, 0, none⟩) hle _, by show _ ≤ _; simp [World.setCell]; omega⟩
          case measure =>
            rw [boxLen_is hbl.out, boxLen_is (L2.out.put 0 _)]
            omega
        · gi_wp2_with fail
          refine bodyPost_ret (results_none rfl _ _ _) rfl ?_
          exact ⟨⟨_, rfl⟩, .inr ⟨_, trivial, hjx2⟩⟩
      · obtain ⟨W1, hW1⟩ : ∃ W1, ((wo.alloc (.cells #[.int .i64 x1, .int .i64 y1, .int .i64 t1] 48)).alloc (.cells #[.int .i64 x0', .int .i64 y0', .int .i64 t0'] 48)).drew = W1 := ⟨_, rfl⟩
        have S1 : Hid (Step (fun k => k = lb) wo W1) := by
          show Step _ _ _
          rw [← hW1]
          exact ((Step.refl _ _).alloc _).alloc _ |>.trans ⟨rfl, rfl, rfl, Nat.le_refl _, fun _ _ _ => rfl⟩
        have B6 : Hid (Bk W1 wo.heap.size 48 #[.int .i64 x1, .int .i64 y1, .int .i64 t1]) := by show Bk _ _ _ _; rw [← hW1]; exact (Bk.new _ _ _).alloc _
        have B7 : Hid (Bk W1 (wo.heap.size + 1) 48 #[.int .i64 x0', .int .i64 y0', .int .i64 t0']) := by
          show Bk _ _ _ _
          rw [← hW1]
          have h1 := Bk.new (wo.alloc (.cells #[.int .i64 x1, .int .i64 y1, .int .i64 t1] 48)) 48 #[.int .i64 x0', .int .i64 y0', .int .i64 t0']
          rw [World.size_alloc] at h1
          exact h1
        have L1 : Hid (Bk W1 lb 25 #[.slice (some ⟨b, off, none⟩) q c']) := by show Bk _ _ _ _; rw [← hW1]; exact (Lo.out.alloc _).alloc _
        have Q1 : Hid (Bk W1 lq 3 #[.int .i64 least]) := by show Bk _ _ _ _; rw [← hW1]; exact (Qo.out.alloc _).alloc _
        have D1 : Hid (Below w.heap.size w W1) := by show Below _ _ _; rw [← hW1]; exact below_dN ((Bo.out.alloc Bo.out.size _).alloc (by have := Bo.out.size; simp; omega) _) 1
        have Z1 : Hid (wo.heap.size + 1 < W1.heap.size) := B7.out.lt
        rw [hW1]
        clear hW1
        obtain ⟨fn, tm, asg, bd, hy, hRd⟩ := HY.out o (x0', x1, t0', y1) wo W1 EE.out Jo.out ZO.out S1.out
        simp only [encL] at hy
        have a0 := B6.out.cell 0
        have a1 := B6.out.cell 1
        have a2 := B6.out.cell 2
        have a3 := B7.out.cell 0
        have a4 := B7.out.cell 1
        have a5 := B7.out.cell 2
        gi_wp2_with fail
        refine hRd.mono ?_
        clear hy hRd a0 a1 a2 a3 a4 a5
        rintro e w2 (⟨rfl, hj2, hk2⟩ | ⟨rfl, hjx2⟩)
        · have J2 := Lib.hid hj2
          have L2 := Lib.hid (L1.out.keeps hk2 (.inr (.inl rfl)))
          have Q2 := Lib.hid (Q1.out.keeps hk2 (.inr (.inr (.inr rfl))))
          have D2 : Hid (Below w.heap.size w w2) := hk2.below D1.out D1.out.size (fun k hk => .inr (.inl hk))
          have z5 := hk2.size
          have z6 := Z1.out
          have z7 := ZO.out
          have z8 := L2.out.lt
          have l0 := L2.out.cell 0
          have lf := L2.out.free 0
          have nk : ¬ c' = k := by omega
          have nk' : ¬ k = c' := by omega
          clear hk2 hj2
          gi_wp2_with fail
          go_roundw
          case rel =>
            exact ⟨m + 1, p + k, q - k, o ++ [(x0', x1, t0', y1)], some ⟨b, off + k * 3, none⟩, c' - k, by omega, by omega, by omega, by omega, by omega, NST.out, HJ.out _ _ _ J2.out ((Step.refl (fun k => k = lb) _).set (p := ⟨lb, 0, none⟩) rfl _), L2.out.put 0 _, Q2.out.far (p := ⟨lb, 0, none⟩) (fun e => hne e.symm) _, NRD.out, D2.out.setCell (p := ⟨lb, 0, none⟩) hle _, by show _ ≤ _; simp [World.setCell]; omega⟩
          case measure =>
            rw [boxLen_is hbl.out, boxLen_is (L2.out.put 0 _)]
            omega
        · gi_wp2_with fail
          refine bodyPost_ret (results_none rfl _ _ _) rfl ?_
          exact ⟨⟨_, rfl⟩, .inr ⟨_, trivial, hjx2⟩⟩
    · have E : Hid (legsOf l least = o) := legs_end hst.out (by have := HN.out; omega) (by have := HN.out; omega)
      gi_wp2_with fail
      first | go_end0 | go_ret
      exact ⟨⟨_, rfl⟩, .inl ⟨_, rfl, by rw [E.out]; exact hj.out⟩⟩
end Go.Proofs.Ytceohmbjajhlcaa
